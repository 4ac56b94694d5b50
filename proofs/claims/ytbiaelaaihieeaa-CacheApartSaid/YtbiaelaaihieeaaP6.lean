/- Two caches of which one shard is alike: what is done with its keys does alike in both. -/
import Derived.Test.YtbiaelaaihieeaaC16
import Derived.Test.YtbiaelaaihieeaaP1
set_option linter.unusedVariables false
set_option linter.unusedSimpArgs false
namespace Go.Proofs.Ytbiaelaaihieeaa
open Go.RowKit

/-- One shard is another one, its entries named anew. -/
structure SameSh (ρ : Nat → Nat) (T : Sh) (I : Nat → It) (U : Sh) (J : Nat → It) : Prop where
  al : U.al = T.al.map ρ
  wt : U.wt = T.wt.map ρ
  inm : U.inm = T.inm.map fun p => (p.1, ρ p.2)
  inj : ∀ b ∈ T.al, ∀ c ∈ T.al, ρ b = ρ c → b = c
  it : ∀ b ∈ T.al, J (ρ b) = I b
  subw : ∀ b ∈ T.wt, b ∈ T.al
  subi : ∀ p ∈ T.inm, p.2 ∈ T.al
theorem less_map {ρ : Nat → Nat} {l : List Nat} {b : Nat} (h : ∀ c ∈ l, ρ c = ρ b → c = b) : less (l.map ρ) (ρ b) = (less l b).map ρ := by
  unfold less
  rw [List.filter_map]
  congr 1
  apply List.filter_congr
  intro c hc
  simp only [Function.comp, ne_eq, decide_eq_decide]
  exact ⟨fun h1 e => h1 (by rw [e]), fun h1 e => h1 (h c hc e)⟩
theorem out_map {ρ : Nat → Nat} (l : List (ByteArray × Nat)) (k : ByteArray) : out (l.map fun p => (p.1, ρ p.2)) k = (out l k).map fun p => (p.1, ρ p.2) := by
  unfold out
  rw [List.filter_map]; rfl
theorem look_map {ρ : Nat → Nat} (l : List (ByteArray × Nat)) (k : ByteArray) : look (l.map fun p => (p.1, ρ p.2)) k = (look l k).map ρ := by
  unfold look
  rw [List.find?_map]
  cases h : List.find? (fun p : ByteArray × Nat => decide (p.1 = k)) l with
  | none =>
    have : List.find? ((fun p : ByteArray × Nat => decide (p.1 = k)) ∘ fun p => (p.1, ρ p.2)) l = none := h
    rw [this]; rfl
  | some p =>
    have : List.find? ((fun p : ByteArray × Nat => decide (p.1 = k)) ∘ fun p => (p.1, ρ p.2)) l = some p := h
    rw [this]; rfl
section
variable {ρ : Nat → Nat} {T U : Sh} {I J : Nat → It}
theorem SameSh.used (h : SameSh ρ T I U J) : usedOf U J = usedOf T I := by
  unfold usedOf chs
  rw [h.al, List.map_map]
  congr 2
  apply List.map_congr_left
  intro b hb
  show (J (ρ b)).ch = _
  rw [h.it b hb]
/-- An entry has been turned, in both. -/
theorem SameSh.upd (h : SameSh ρ T I U J) {b : Nat} (hb : b ∈ T.al) (i : It) : SameSh ρ T (upd I b i) U (upd J (ρ b) i) :=
  ⟨h.al, h.wt, h.inm, h.inj, fun c hc => by
    by_cases e : c = b
    · rw [e, upd_same, upd_same]
    · rw [upd_ne _ _ e, upd_ne _ _ (fun e2 => e (h.inj c hc b hb e2))]; exact h.it c hc, h.subw, h.subi⟩
theorem SameSh.less (h : SameSh ρ T I U J) {b : Nat} (hb : b ∈ T.al) {l : List (ByteArray × Nat)} (hl : ∀ p ∈ l, p ∈ T.inm ∧ p.2 ≠ b) :
    SameSh ρ { inm := l, al := Ytbiaelaaihieeaa.less T.al b, wt := Ytbiaelaaihieeaa.less T.wt b } I { inm := l.map fun p => (p.1, ρ p.2), al := Ytbiaelaaihieeaa.less U.al (ρ b), wt := Ytbiaelaaihieeaa.less U.wt (ρ b) } J := by
  refine ⟨?_, ?_, rfl, fun c hc d hd => h.inj c (less_mem hc) d (less_mem hd), fun c hc => h.it c (less_mem hc), fun c hc => mem_less (h.subw c (less_mem hc)) (less_ne hc), fun p hp => mem_less (h.subi p (hl p hp).1) (hl p hp).2⟩
  · show Ytbiaelaaihieeaa.less U.al (ρ b) = _
    rw [h.al]; exact less_map (fun c hc e => h.inj c hc b hb e)
  · show Ytbiaelaaihieeaa.less U.wt (ρ b) = _
    rw [h.wt]; exact less_map (fun c hc e => h.inj c (h.subw c hc) b hb e)
end
/-- The keys of a shard's table. -/
structure InOk (T : Sh) (I : Nat → It) : Prop where
  key : ∀ p ∈ T.inm, (I p.2).key = p.1
  inn : ∀ p ∈ T.inm, (I p.2).inn = true
theorem InOk.gone {T : Sh} {I : Nat → It} (h : InOk T I) (b : Nat) : InOk (T.gone b (I b)) (upd I b (I b).off) ∧ ∀ p ∈ (T.gone b (I b)).inm, p ∈ T.inm ∧ p.2 ≠ b := by
  have hne : ∀ p ∈ (T.gone b (I b)).inm, p ∈ T.inm ∧ p.2 ≠ b := by
    intro p hp
    unfold Sh.gone at hp
    by_cases hi : (I b).inn = true
    · rw [if_pos hi] at hp
      obtain ⟨h1, h2⟩ := mem_out.1 hp
      exact ⟨h1, fun e => h2 (by rw [← h.key p h1, e])⟩
    · rw [if_neg hi] at hp
      exact ⟨hp, fun e => hi (by rw [← e]; exact h.inn p hp)⟩
  exact ⟨⟨fun p hp => by rw [off_key]; exact h.key p (hne p hp).1, fun p hp => by rw [upd_ne _ _ (hne p hp).2]; exact h.inn p (hne p hp).1⟩, hne⟩
section
variable {ρ : Nat → Nat} {T U : Sh} {I J : Nat → It}
theorem SameSh.gone (h : SameSh ρ T I U J) (hi : InOk T I) {b : Nat} (hb : b ∈ T.al) : SameSh ρ (T.gone b (I b)) (Ytbiaelaaihieeaa.upd I b (I b).off) (U.gone (ρ b) (J (ρ b))) (Ytbiaelaaihieeaa.upd J (ρ b) (J (ρ b)).off) := by
  have h1 := (h.less hb (hi.gone b).2).upd (b := b)
  have e : (U.gone (ρ b) (J (ρ b))) = { inm := (T.gone b (I b)).inm.map fun p => (p.1, ρ p.2), al := Ytbiaelaaihieeaa.less U.al (ρ b), wt := Ytbiaelaaihieeaa.less U.wt (ρ b) } := by
    unfold Sh.gone
    rw [h.it b hb, h.inm, out_map]
    congr 1
    split <;> rfl
  rw [e, h.it b hb]
  have h2 := h.less hb (hi.gone b).2
  refine ⟨h2.al, h2.wt, h2.inm, h2.inj, fun c hc => ?_, h2.subw, h2.subi⟩
  have hcb : c ≠ b := less_ne hc
  rw [upd_ne _ _ hcb, upd_ne _ _ (fun e2 => hcb (h.inj c (less_mem hc) b hb e2))]
  exact h.it c (less_mem hc)
end
/-- Room is made alike. -/
theorem Made.same_ {more q : Int} {T T' : Sh} {I I' : Nat → It} (h : Made more q T I T' I') : ∀ {ρ : Nat → Nat} {U U' : Sh} {J J' : Nat → It}, SameSh ρ T I U J → InOk T I → Made more q U J U' J' → SameSh ρ T' I' U' J' ∧ InOk T' I' := by
  induction h with
  | none T I hw =>
    intro ρ U U' J J' s io m
    cases m with
    | none => exact ⟨s, io⟩
    | fits => exact ⟨s, io⟩
    | step h => rw [s.wt, hw] at h; cases h
  | fits T I hf =>
    intro ρ U U' J J' s io m
    cases m with
    | none => exact ⟨s, io⟩
    | fits => exact ⟨s, io⟩
    | step _ h => rw [s.used] at h; omega
  | @step T I b r T' I' hw hf hm ih =>
    intro ρ U U' J J' s io m
    have hb : b ∈ T.al := s.subw b (by rw [hw]; exact List.mem_cons_self ..)
    cases m with
    | none _ _ h => rw [s.wt, hw] at h; cases h
    | fits _ _ h => rw [s.used] at h; omega
    | @step _ _ c r2 _ _ h1 h2 h3 =>
      rw [s.wt, hw, List.map_cons] at h1
      injection h1 with h1 _
      subst h1
      exact ih (s.gone io hb) (io.gone b).1 h3
/-- What is not there is not turned. -/
theorem Made.far {more q : Int} {T T' : Sh} {I I' : Nat → It} (h : Made more q T I T' I') : (∀ b ∈ T.wt, b ∈ T.al) → ∀ c, c ∉ T.al → I' c = I c := by
  induction h with
  | none => exact fun _ _ _ => rfl
  | fits => exact fun _ _ _ => rfl
  | @step T I b r T' I' hw hf hm ih =>
    intro hs c hc
    have hb : b ∈ T.al := hs b (by rw [hw]; exact List.mem_cons_self ..)
    rw [ih (fun x hx => mem_less (hs x (less_mem hx)) (less_ne hx)) c (fun hm => hc (less_mem hm))]
    exact upd_ne _ _ (fun e => hc (by rw [e]; exact hb))
theorem InOk.upd {T : Sh} {I : Nat → It} (h : InOk T I) {b : Nat} {i : It} (h1 : i.key = (I b).key) (h2 : i.inn = (I b).inn) : InOk T (upd I b i) :=
  ⟨fun p hp => by
    by_cases e : p.2 = b
    · rw [e, upd_same, h1, ← e]; exact h.key p hp
    · rw [upd_ne _ _ e]; exact h.key p hp, fun p hp => by
    by_cases e : p.2 = b
    · rw [e, upd_same, h2, ← e]; exact h.inn p hp
    · rw [upd_ne _ _ e]; exact h.inn p hp⟩
section
variable {ρ : Nat → Nat} {T U : Sh} {I J : Nat → It}
theorem SameSh.outOf (h : SameSh ρ T I U J) (io : InOk T I) {b : Nat} (hb : b ∈ T.al) : SameSh ρ (T.outOf b (I b)) (Ytbiaelaaihieeaa.upd I b (I b).off) (U.outOf (ρ b) (J (ρ b))) (Ytbiaelaaihieeaa.upd J (ρ b) (J (ρ b)).off) := by
  have hne : ∀ p ∈ out T.inm (I b).key, p ∈ T.inm ∧ p.2 ≠ b := by
    intro p hp
    obtain ⟨h1, h2⟩ := mem_out.1 hp
    exact ⟨h1, fun e => h2 (by rw [← io.key p h1, e])⟩
  rw [h.it b hb]
  have hu := h.upd hb (I b).off
  unfold Sh.outOf
  by_cases h0 : (I b).pins = 0
  · rw [if_pos h0, if_pos h0, h.inm, out_map]
    exact hu.less hb hne
  · rw [if_neg h0, if_neg h0, h.inm, out_map]
    exact ⟨hu.al, hu.wt, rfl, hu.inj, hu.it, hu.subw, fun p hp => h.subi p (hne p hp).1⟩
/-- A new entry, in both. -/
theorem SameSh.add (h : SameSh ρ T I U J) {key : ByteArray} {nb nb' : Nat} (hn : nb ∉ T.al) (hn' : nb' ∉ U.al) (a : It) :
    SameSh (fun c => if c = nb then nb' else ρ c) { T with inm := T.inm ++ [(key, nb)], al := T.al ++ [nb] } (Ytbiaelaaihieeaa.upd I nb a) { U with inm := U.inm ++ [(key, nb')], al := U.al ++ [nb'] } (Ytbiaelaaihieeaa.upd J nb' a) := by
  have hr : ∀ b ∈ T.al, (if b = nb then nb' else ρ b) = ρ b := fun b hb => if_neg (fun e => hn (by rw [← e]; exact hb))
  have hin : ∀ b ∈ T.al, ρ b ≠ nb' := fun b hb e => hn' (by rw [h.al, ← e]; exact List.mem_map.2 ⟨b, hb, rfl⟩)
  refine ⟨?_, ?_, ?_, ?_, ?_, fun b hb => List.mem_append_left _ (h.subw b hb), ?_⟩
  · show U.al ++ [nb'] = (T.al ++ [nb]).map _
    rw [List.map_append, h.al]
    congr 1
    · exact List.map_congr_left (fun b hb => (hr b hb).symm)
    · simp
  · show U.wt = T.wt.map _
    rw [h.wt]
    exact List.map_congr_left (fun b hb => (hr b (h.subw b hb)).symm)
  · show U.inm ++ [(key, nb')] = (T.inm ++ [(key, nb)]).map _
    rw [List.map_append, h.inm]
    congr 1
    · exact List.map_congr_left (fun p hp => by rw [hr _ (h.subi p hp)])
    · simp
  · intro b hb c hc e
    rcases List.mem_append.1 hb with hb1 | hb1 <;> rcases List.mem_append.1 hc with hc1 | hc1
    · rw [hr b hb1, hr c hc1] at e; exact h.inj b hb1 c hc1 e
    · have : c = nb := by simpa using hc1
      rw [hr b hb1, if_pos this] at e; exact absurd e (hin b hb1)
    · have : b = nb := by simpa using hb1
      rw [hr c hc1, if_pos this] at e; exact absurd e.symm (hin c hc1)
    · have h1 : b = nb := by simpa using hb1
      have h2 : c = nb := by simpa using hc1
      rw [h1, h2]
  · intro b hb
    rcases List.mem_append.1 hb with hb | hb
    · rw [hr b hb, upd_ne _ _ (hin b hb), upd_ne _ _ (fun e => hn (by rw [← e]; exact hb))]
      exact h.it b hb
    · have : b = nb := by simpa using hb
      subst this
      show Ytbiaelaaihieeaa.upd J nb' a (if b = b then nb' else ρ b) = _
      rw [if_pos rfl, upd_same, upd_same]
  · intro p hp
    rcases List.mem_append.1 hp with hp | hp
    · exact List.mem_append_left _ (h.subi p hp)
    · have : p = (key, nb) := by simpa using hp
      rw [this]; exact List.mem_append_right _ (List.mem_singleton.2 rfl)
end
/-- Put: what it leaves, of a cache that refuses nothing. -/
def PutR (n : Nat) (S : CS) (key : ByteArray) (v ch : Int) (nb : Nat) (S1 : CS) : Prop :=
  ∃ T I, Made ch (S.room / n) (S.sh (sidx n key)) S.it T I ∧ S1 = (((S.turn (sidx n key) T I).clear (sidx n key) key).added (sidx n key) nb ⟨key, .int .u64 v, ch, true, 0⟩).pinned nb
/-- Free, of an entry that is in, its last pin. -/
def FreeR (n : Nat) (S1 : CS) (k : Int) (b i : Nat) (S2 : CS) : Prop :=
  ∃ T I, Made 0 (S1.room / n) (((S1.unpinned k b).waits i b).sh i) (S1.unpinned k b).it T I ∧ S2 = (S1.unpinned k b).turn i T I
/-- Shard i of one cache is that of another one. -/
def SameAt (ρ : Nat → Nat) (i : Nat) (S D : CS) : Prop := S.room = D.room ∧ SameSh ρ (S.sh i) S.it (D.sh i) D.it
section
variable {n : Nat} {S S1 S2 D D1 D2 : CS} {ρ : Nat → Nat} {i : Nat}
theorem COk.io (ok : COk n S) (hi : i < n) : InOk (S.sh i) S.it := ⟨fun p hp => (ok.inm i hi p hp).2.1, fun p hp => (ok.inm i hi p hp).2.2⟩
/-- The left one's shard reads as it did. -/
theorem SameAt.left (s : SameAt ρ i S D) (h1 : S1.room = S.room) (h2 : S1.sh i = S.sh i) (h3 : ∀ b ∈ (S.sh i).al, S1.it b = S.it b) : SameAt ρ i S1 D :=
  ⟨h1.trans s.1, by rw [h2]; exact s.2.al, by rw [h2]; exact s.2.wt, by rw [h2]; exact s.2.inm, by rw [h2]; exact s.2.inj, by rw [h2]; exact fun b hb => (s.2.it b hb).trans (h3 b hb).symm, by rw [h2]; exact s.2.subw, by rw [h2]; exact s.2.subi⟩
theorem COk.al_ne (ok : COk n S) {j : Nat} (hi : i < n) (hj : j < n) (hne : j ≠ i) {b : Nat} (hb : b ∈ (S.sh i).al) : b ∉ (S.sh j).al := fun hb' => hne (by rw [← ok.alk j hj b hb', ok.alk i hi b hb])
/-- Another shard's Put. -/
theorem PutR.far {key : ByteArray} {v ch : Int} {nb : Nat} (h : PutR n S key v ch nb S1) (ok : COk n S) (hi : i < n) (hj : sidx n key < n) (hne : sidx n key ≠ i) (hnb : nb ∉ S.its) : S1.room = S.room ∧ S1.sh i = S.sh i ∧ ∀ b ∈ (S.sh i).al, S1.it b = S.it b := by
  obtain ⟨T, I, hm, rfl⟩ := h
  obtain ⟨j, hje⟩ : ∃ j, j = sidx n key := ⟨_, rfl⟩
  rw [← hje] at hm hj hne ⊢
  have ok1 : COk n (S.turn j T I) := ok.madeAt hj hm
  have h1 : ∀ b ∈ (S.sh i).al, I b = S.it b := fun b hb => hm.far (ok.ok j hj).sub b (ok.al_ne hi hj hne hb)
  have h2 : ∃ U K, (S.turn j T I).clear j key = S.turn j U K ∧ ∀ b ∈ (S.sh i).al, K b = S.it b := by
    unfold CS.clear
    rw [turn_sh]
    cases hl : look T.inm key with
    | none => exact ⟨T, I, rfl, h1⟩
    | some b =>
      have e0 : (S.turn j T I).outAt j b = S.turn j (T.outOf b (I b)) (upd I b (I b).off) := by
        unfold CS.outAt
        rw [turn_turn, turn_sh]; rfl
      refine ⟨_, _, e0, fun c hc => ?_⟩
      · have hb : b ∈ T.al := by have := (ok1.inm j hj (key, b) (by rw [turn_sh]; exact look_some hl)).1; rwa [turn_sh] at this
        have hk1 : sidx n (I b).key = j := ok1.alk j hj b (by rw [turn_sh]; exact hb)
        have hk2 : sidx n (S.it c).key = i := ok.alk i hi c hc
        show upd I b _ c = _
        rw [upd_ne _ _ (fun e => hne (by rw [← hk1, ← e, h1 c hc, hk2]))]
        exact h1 c hc
  obtain ⟨U, K, e, hK⟩ := h2
  rw [e]
  refine ⟨rfl, ?_, fun b hb => ?_⟩
  · show putAt (putAt S.sh j U) j _ i = _
    rw [putAt_ne _ _ (Ne.symm hne), putAt_ne _ _ (Ne.symm hne)]
  · have : b ≠ nb := fun e => hnb (by rw [← e]; exact ok.al i hi b hb)
    show upd (upd K nb _) nb _ b = _
    rw [upd_ne _ _ this, upd_ne _ _ this]; exact hK b hb
/-- The shard's own Put, in both. -/
theorem PutR.both {key : ByteArray} {v ch : Int} {nb nb' : Nat} (h : PutR n S key v ch nb S1) (h' : PutR n D key v ch nb' D1) (ok : COk n S) (ok' : COk n D) (hi : sidx n key < n) (s : SameAt ρ (sidx n key) S D) (hnb : nb ∉ S.its) (hnb' : nb' ∉ D.its) :
    SameAt (fun c => if c = nb then nb' else ρ c) (sidx n key) S1 D1 ∧ S1.it nb = ⟨key, .int .u64 v, ch, true, 1⟩ ∧ D1.it nb' = ⟨key, .int .u64 v, ch, true, 1⟩ ∧ nb ∈ (S1.sh (sidx n key)).al ∧ InOk (S1.sh (sidx n key)) S1.it := by
  obtain ⟨T, I, hm, rfl⟩ := h
  obtain ⟨T', I', hm', rfl⟩ := h'
  obtain ⟨j, hje⟩ : ∃ j, j = sidx n key := ⟨_, rfl⟩
  rw [← hje] at hm hm' hi s ⊢
  rw [← s.1] at hm'
  obtain ⟨s1, io1⟩ := hm.same_ s.2 (ok.io hi) hm'
  have ok1 : COk n (S.turn j T I) := ok.madeAt hi hm
  have ok1' : COk n (D.turn j T' I') := ok'.madeAt hi hm'
  have h2 : ∃ U K U' K', (S.turn j T I).clear j key = S.turn j U K ∧ (D.turn j T' I').clear j key = D.turn j U' K' ∧ SameSh ρ U K U' K' ∧ InOk U K ∧ (∀ p ∈ U.inm, p.1 ≠ key) ∧ (∀ b ∈ U.al, b ∈ S.its) ∧ (∀ b ∈ U'.al, b ∈ D.its) := by
    have ha : ∀ b ∈ T.al, b ∈ S.its := fun b hb => ok1.al j hi b (by rw [turn_sh]; exact hb)
    have ha' : ∀ b ∈ T'.al, b ∈ D.its := fun b hb => ok1'.al j hi b (by rw [turn_sh]; exact hb)
    unfold CS.clear
    rw [turn_sh, turn_sh]
    have hlm : look T'.inm key = (look T.inm key).map ρ := by rw [s1.inm]; exact look_map _ _
    rw [hlm]
    cases hl : look T.inm key with
    | none => exact ⟨T, I, T', I', rfl, rfl, s1, io1, look_none hl, ha, ha'⟩
    | some b =>
      have hb : b ∈ T.al := s1.subi (key, b) (look_some hl)
      have e0 : (S.turn j T I).outAt j b = S.turn j (T.outOf b (I b)) (upd I b (I b).off) := by
        unfold CS.outAt
        rw [turn_turn, turn_sh]; rfl
      have e0' : (D.turn j T' I').outAt j (ρ b) = D.turn j (T'.outOf (ρ b) (I' (ρ b))) (upd I' (ρ b) (I' (ρ b)).off) := by
        unfold CS.outAt
        rw [turn_turn, turn_sh]; rfl
      have hkey : (I b).key = key := io1.key (key, b) (look_some hl)
      have hinm : (T.outOf b (I b)).inm = out T.inm key := by unfold Sh.outOf; rw [hkey]; split <;> rfl
      have hsub : ∀ c ∈ (T.outOf b (I b)).al, c ∈ T.al := by
        unfold Sh.outOf; split
        · exact fun c hc => less_mem hc
        · exact fun c hc => hc
      have hsub' : ∀ c ∈ (T'.outOf (ρ b) (I' (ρ b))).al, c ∈ T'.al := by
        unfold Sh.outOf; split
        · exact fun c hc => less_mem hc
        · exact fun c hc => hc
      refine ⟨_, _, _, _, e0, e0', s1.outOf io1 hb, ⟨fun p hp => ?_, fun p hp => ?_⟩, fun p hp => ?_, fun c hc => ha c (hsub c hc), fun c hc => ha' c (hsub' c hc)⟩
      · rw [hinm] at hp
        rw [off_key]; exact io1.key p (mem_out.1 hp).1
      · rw [hinm] at hp
        obtain ⟨h1, h2⟩ := mem_out.1 hp
        rw [upd_ne _ _ (fun e => h2 (by rw [← io1.key p h1, e, hkey]))]
        exact io1.inn p h1
      · rw [hinm] at hp
        exact (mem_out.1 hp).2
  obtain ⟨U, K, U', K', e, e', sU, ioU, hnk, hua, hua'⟩ := h2
  rw [e, e']
  have hn : nb ∉ U.al := fun h => hnb (hua nb h)
  have hn' : nb' ∉ U'.al := fun h => hnb' (hua' nb' h)
  have sA := sU.add (key := key) hn hn' ⟨key, .int .u64 v, ch, true, 1⟩
  have shS : ((((S.turn j U K).added j nb ⟨key, .int .u64 v, ch, true, 0⟩).pinned nb).sh j) = { U with inm := U.inm ++ [(key, nb)], al := U.al ++ [nb] } := by
    have e9 : (S.turn j U K).sh j = U := turn_sh ..
    show putAt (S.turn j U K).sh j { inm := ((S.turn j U K).sh j).inm ++ [(key, nb)], al := ((S.turn j U K).sh j).al ++ [nb], wt := ((S.turn j U K).sh j).wt } j = _
    rw [putAt_same, e9]
  have shD : ((((D.turn j U' K').added j nb' ⟨key, .int .u64 v, ch, true, 0⟩).pinned nb').sh j) = { U' with inm := U'.inm ++ [(key, nb')], al := U'.al ++ [nb'] } := by
    have e9 : (D.turn j U' K').sh j = U' := turn_sh ..
    show putAt (D.turn j U' K').sh j { inm := ((D.turn j U' K').sh j).inm ++ [(key, nb')], al := ((D.turn j U' K').sh j).al ++ [nb'], wt := ((D.turn j U' K').sh j).wt } j = _
    rw [putAt_same, e9]
  have itS : (((S.turn j U K).added j nb ⟨key, .int .u64 v, ch, true, 0⟩).pinned nb).it = upd K nb ⟨key, .int .u64 v, ch, true, 1⟩ := by
    funext c
    show upd (upd K nb _) nb { upd K nb _ nb with pins := (upd K nb _ nb).pins + 1 } c = _
    by_cases ec : c = nb
    · rw [ec, upd_same, upd_same, upd_same]; rfl
    · rw [upd_ne _ _ ec, upd_ne _ _ ec, upd_ne _ _ ec]
  have itD : (((D.turn j U' K').added j nb' ⟨key, .int .u64 v, ch, true, 0⟩).pinned nb').it = upd K' nb' ⟨key, .int .u64 v, ch, true, 1⟩ := by
    funext c
    show upd (upd K' nb' _) nb' { upd K' nb' _ nb' with pins := (upd K' nb' _ nb').pins + 1 } c = _
    by_cases ec : c = nb'
    · rw [ec, upd_same, upd_same, upd_same]; rfl
    · rw [upd_ne _ _ ec, upd_ne _ _ ec, upd_ne _ _ ec]
  refine ⟨⟨s.1, ?_⟩, ?_, ?_, ?_, ?_⟩
  · rw [shS, shD, itS, itD]; exact sA
  · rw [itS, upd_same]
  · rw [itD, upd_same]
  · rw [shS]; exact List.mem_append_right _ (List.mem_singleton.2 rfl)
  · rw [shS, itS]
    refine ⟨fun p hp => ?_, fun p hp => ?_⟩
    · rcases List.mem_append.1 hp with hp | hp
      · rw [upd_ne _ _ (fun e => hn (by rw [← e]; exact sU.subi p hp))]; exact ioU.key p hp
      · have : p = (key, nb) := by simpa using hp
        rw [this]; show (upd K nb _ nb).key = _; rw [upd_same]
    · rcases List.mem_append.1 hp with hp | hp
      · rw [upd_ne _ _ (fun e => hn (by rw [← e]; exact sU.subi p hp))]; exact ioU.inn p hp
      · have : p = (key, nb) := by simpa using hp
        rw [this]; show (upd K nb _ nb).inn = _; rw [upd_same]
theorem FreeR.both {k k' : Int} {b : Nat} (h : FreeR n S k b i S1) (h' : FreeR n D k' (ρ b) i D1) (s : SameAt ρ i S D) (io : InOk (S.sh i) S.it) (hb : b ∈ (S.sh i).al) : SameAt ρ i S1 D1 := by
  obtain ⟨T, I, hm, rfl⟩ := h
  obtain ⟨T', I', hm', rfl⟩ := h'
  have e1 : ((S.unpinned k b).waits i b).sh i = { S.sh i with wt := (S.sh i).wt ++ [b] } := turn_sh ..
  have e2 : ((D.unpinned k' (ρ b)).waits i (ρ b)).sh i = { D.sh i with wt := (D.sh i).wt ++ [ρ b] } := turn_sh ..
  rw [e1] at hm
  rw [e2] at hm'
  have hu := s.2.upd hb { S.it b with pins := (S.it b).pins - 1 }
  have s2 : SameSh ρ { S.sh i with wt := (S.sh i).wt ++ [b] } (S.unpinned k b).it { D.sh i with wt := (D.sh i).wt ++ [ρ b] } (D.unpinned k' (ρ b)).it := by
    have e3 : (D.unpinned k' (ρ b)).it = upd D.it (ρ b) { S.it b with pins := (S.it b).pins - 1 } := by
      show upd D.it (ρ b) _ = _
      rw [s.2.it b hb]
    rw [e3]
    refine ⟨hu.al, ?_, hu.inm, hu.inj, hu.it, fun c hc => ?_, hu.subi⟩
    · show (D.sh i).wt ++ [ρ b] = ((S.sh i).wt ++ [b]).map ρ
      rw [List.map_append, s.2.wt]; rfl
    · rcases List.mem_append.1 hc with h | h
      · exact s.2.subw c h
      · have : c = b := by simpa using h
        rw [this]; exact hb
  have io2 : InOk { S.sh i with wt := (S.sh i).wt ++ [b] } (S.unpinned k b).it := by
    have := io.upd (b := b) (i := { S.it b with pins := (S.it b).pins - 1 }) rfl rfl
    exact ⟨this.key, this.inn⟩
  have hm2 : Made 0 (S.room / n) { D.sh i with wt := (D.sh i).wt ++ [ρ b] } (D.unpinned k' (ρ b)).it T' I' := by rw [s.1]; exact hm'
  have s3 := (hm.same_ s2 io2 hm2).1
  refine ⟨s.1, ?_⟩
  show SameSh ρ (putAt _ i T i) I (putAt _ i T' i) I'
  rw [putAt_same, putAt_same]; exact s3
theorem FreeR.far {k : Int} {b j : Nat} (h : FreeR n S k b j S1) (ok : COk n S) (hi : i < n) (hj : j < n) (hne : j ≠ i) (hb : b ∈ (S.sh j).al) : S1.room = S.room ∧ S1.sh i = S.sh i ∧ ∀ c ∈ (S.sh i).al, S1.it c = S.it c := by
  obtain ⟨T, I, hm, rfl⟩ := h
  refine ⟨rfl, putAt_ne _ _ (Ne.symm hne), fun c hc => ?_⟩
  have hcj : c ∉ (S.sh j).al := ok.al_ne hi hj hne hc
  have hcb : c ≠ b := fun e => hcj (by rw [e]; exact hb)
  have e1 : ((S.unpinned k b).waits j b).sh j = { S.sh j with wt := (S.sh j).wt ++ [b] } := turn_sh ..
  rw [e1] at hm
  have := hm.far (fun x hx => by
    rcases List.mem_append.1 hx with h | h
    · exact (ok.ok j hj).sub x h
    · have : x = b := by simpa using h
      rw [this]; exact hb) c hcj
  show I c = _
  rw [this]
  exact upd_ne _ _ hcb
end
end Go.Proofs.Ytbiaelaaihieeaa
