/- The cache of strings: what holds at any time, step by step. No program in sight. -/
import Derived.Test.YtbiaelaaihieeaaSt9
set_option linter.unusedVariables false
set_option linter.unusedSimpArgs false
namespace Go.Proofs.Ytbiaelaaihieeaa.Str

/-- One shard and the entries have been turned. -/
def CS.turn (S : CS) (i : Nat) (T : Sh) (I : Nat → It) : CS := { S with sh := putAt S.sh i T, it := I }
def CS.goneAt (S : CS) (i b : Nat) : CS := S.turn i ((S.sh i).gone b (S.it b)) (upd S.it b (S.it b).off)
def CS.outAt (S : CS) (i b : Nat) : CS := S.turn i ((S.sh i).outOf b (S.it b)) (upd S.it b (S.it b).off)
section
variable {n : Nat} {S : CS}
theorem off_key (I : Nat → It) (b k : Nat) : (upd I b (I b).off k).key = (I k).key := by
  unfold upd; split
  · rename_i e; rw [e]; rfl
  · rfl
theorem off_pins (I : Nat → It) (b k : Nat) : (upd I b (I b).off k).pins = (I k).pins := by
  unfold upd; split
  · rename_i e; rw [e]; rfl
  · rfl
theorem off_v (I : Nat → It) (b k : Nat) : (upd I b (I b).off k).v = (I k).v := by
  unfold upd; split
  · rename_i e; rw [e]; rfl
  · rfl
theorem mem_out {l : List (ByteArray × Nat)} {k : ByteArray} {p : ByteArray × Nat} : p ∈ out l k ↔ p ∈ l ∧ p.1 ≠ k := by simp [out]
theorem COk.turn (ok : COk n S) {i : Nat} {T : Sh} {I : Nat → It} (h1 : ShOk T I) (hch : ∀ b, (I b).ch = (S.it b).ch) (hal : ∀ b ∈ T.al, b ∈ S.its) (hkey : ∀ b, (I b).key = (S.it b).key) (hak : ∀ b ∈ T.al, sidx n (S.it b).key = i)
    (hin : ∀ p ∈ T.inm, p.2 ∈ T.al ∧ (I p.2).key = p.1 ∧ (I p.2).inn = true) (hinn : ∀ b, sidx n (S.it b).key ≠ i → (I b).inn = (S.it b).inn) (hp : ∀ b, (I b).pins = (S.it b).pins) (hw : T.wt.Nodup) (hpa : ∀ p ∈ S.pins, sidx n (S.it p.2).key = i → p.2 ∈ T.al) (hw0 : ∀ b ∈ T.wt, (S.it b).pins = 0) : COk n (S.turn i T I) := by
  refine ⟨ok.room, ok.last, fun j hj => ?_, fun j hj b hb => ?_, fun j hj b hb => ?_, fun j hj p hp' => ?_, fun p hp' => ok.pins p hp', fun b hb => ?_, fun j hj => ?_, ok.itn, fun b hb => ?_, fun b hb => ?_, fun p hp' => ?_, fun j hj b hb => ?_⟩
  · show ShOk (putAt S.sh i T j) I
    unfold putAt
    split
    · exact h1
    · exact ⟨(ok.ok j hj).sub, fun b hb => by rw [hch b]; exact (ok.ok j hj).ch b hb⟩
  · have hb' : b ∈ (putAt S.sh i T j).al := hb
    unfold putAt at hb'
    split at hb'
    · exact hal b hb'
    · exact ok.al j hj b hb'
  · show sidx n (I b).key = j
    rw [hkey]
    have hb' : b ∈ (putAt S.sh i T j).al := hb
    unfold putAt at hb'
    split at hb'
    · rename_i e; rw [e]; exact hak b hb'
    · exact ok.alk j hj b hb'
  · show p.2 ∈ (putAt S.sh i T j).al ∧ (I p.2).key = p.1 ∧ (I p.2).inn = true
    have hb' : p ∈ (putAt S.sh i T j).inm := hp'
    unfold putAt at hb' ⊢
    split at hb'
    · rename_i e; simp only [e, if_true]; exact hin p hb'
    · rename_i e
      simp only [e, if_false]
      obtain ⟨q1, q2, q3⟩ := ok.inm j hj p hb'
      exact ⟨q1, by rw [hkey]; exact q2, by rw [hinn p.2 (by rw [ok.alk j hj _ q1]; exact e)]; exact q3⟩
  · show 0 ≤ (I b).pins ∧ (I b).pins ≤ S.last
    rw [hp]; exact ok.pn b hb
  · show (putAt S.sh i T j).wt.Nodup
    unfold putAt
    split
    · exact hw
    · exact ok.wtn j hj
  · show (I b).pins = _
    rw [hp]; exact ok.cnt b hb
  · show (I b).key.size ≤ 1024
    rw [hkey]; exact ok.ksz b hb
  · show p.2 ∈ (putAt S.sh i T (sidx n (I p.2).key)).al
    rw [hkey]
    unfold putAt
    split
    · rename_i e; exact hpa p hp' e
    · exact ok.pinal p hp'
  · show (I b).pins = 0
    rw [hp]
    have hb' : b ∈ (putAt S.sh i T j).wt := hb
    unfold putAt at hb'
    split at hb'
    · exact hw0 b hb'
    · exact ok.w0 j hj b hb'
theorem less_nodup {l : List Nat} (h : l.Nodup) (x : Nat) : (less l x).Nodup := h.sublist List.filter_sublist
theorem off_inn_other {i : Nat} (I : Nat → It) {b : Nat} (hb : sidx n (I b).key = i) : ∀ c, sidx n (I c).key ≠ i → (upd I b (I b).off c).inn = (I c).inn := by
  intro c hc
  unfold upd; split
  · rename_i e; rw [e] at hc; exact absurd hb hc
  · rfl
/-- An entry that has no longer a key. -/
theorem COk.less (ok : COk n S) {i : Nat} (hi : i < n) {b : Nat} (hb : sidx n (S.it b).key = i) (hb0 : (S.it b).pins = 0) {l : List (ByteArray × Nat)} (hl : ∀ p ∈ l, p ∈ (S.sh i).inm ∧ p.2 ≠ b) : COk n (S.turn i { inm := l, al := Str.less (S.sh i).al b, wt := Str.less (S.sh i).wt b } (upd S.it b (S.it b).off)) := by
  refine ok.turn ⟨fun y hy => mem_less ((ok.ok i hi).sub y (less_mem hy)) (less_ne hy), fun y hy => by rw [upd_ch]; exact (ok.ok i hi).ch y (less_mem hy)⟩ (fun b' => upd_ch _ _ _) (fun y hy => ok.al i hi y (less_mem hy)) (fun b' => off_key _ _ _) (fun y hy => ok.alk i hi y (less_mem hy))
    (fun p hp => ?_) (off_inn_other S.it hb) (fun b' => off_pins _ _ _) (less_nodup (ok.wtn i hi) b) (fun p hp e => ?_) (fun y hy => ok.w0 i hi y (less_mem hy))
  rotate_left
  · have h1 := ok.pinal p hp
    rw [e] at h1
    refine mem_less h1 (fun e' => ?_)
    have h2 := ok.cnt b (by rw [← e']; exact (ok.pins p hp).2)
    rw [hb0] at h2
    have h3 : (S.pins.map (·.2)).count b = 0 := by omega
    exact List.count_eq_zero.1 h3 (List.mem_map.2 ⟨p, hp, e'⟩)
  obtain ⟨h1, h2⟩ := hl p hp
  obtain ⟨q1, q2, q3⟩ := ok.inm i hi p h1
  exact ⟨mem_less q1 h2, by rw [off_key]; exact q2, by rw [upd_ne _ _ h2]; exact q3⟩
theorem COk.gone (ok : COk n S) {i : Nat} (hi : i < n) {b : Nat} (hb : sidx n (S.it b).key = i) (hb0 : (S.it b).pins = 0) : COk n (S.goneAt i b) := by
  refine ok.less hi hb hb0 (fun p hp => ?_)
  split at hp
  · obtain ⟨h1, h2⟩ := mem_out.1 hp
    exact ⟨h1, fun e => h2 (by rw [← (ok.inm i hi p h1).2.1, e])⟩
  · rename_i hf
    exact ⟨hp, fun e => hf (by rw [← e]; exact (ok.inm i hi p hp).2.2)⟩
theorem COk.out (ok : COk n S) {i : Nat} (hi : i < n) {b : Nat} (hb : sidx n (S.it b).key = i) : COk n (S.outAt i b) := by
  have hl : ∀ p ∈ Str.out (S.sh i).inm (S.it b).key, p ∈ (S.sh i).inm ∧ p.2 ≠ b := fun p hp => by
    obtain ⟨h1, h2⟩ := mem_out.1 hp
    exact ⟨h1, fun e => h2 (by rw [← (ok.inm i hi p h1).2.1, e])⟩
  unfold CS.outAt Sh.outOf
  split
  · rename_i h0
    exact ok.less hi hb h0 hl
  · refine ok.turn ⟨(ok.ok i hi).sub, fun y hy => by rw [upd_ch]; exact (ok.ok i hi).ch y hy⟩ (fun b' => upd_ch _ _ _) (fun y hy => ok.al i hi y hy) (fun b' => off_key _ _ _) (fun y hy => ok.alk i hi y hy) (fun p hp => ?_) (off_inn_other S.it hb) (fun b' => off_pins _ _ _) (ok.wtn i hi) (fun p hp e => by have := ok.pinal p hp; rwa [e] at this) (ok.w0 i hi)
    obtain ⟨h1, h2⟩ := hl p hp
    obtain ⟨q1, q2, q3⟩ := ok.inm i hi p h1
    exact ⟨q1, by rw [off_key]; exact q2, by rw [upd_ne _ _ h2]; exact q3⟩
theorem turn_turn (S : CS) (i : Nat) (T T' : Sh) (I I' : Nat → It) : (S.turn i T I).turn i T' I' = S.turn i T' I' := by
  unfold CS.turn
  simp only
  congr 1
  funext k; unfold putAt; split <;> rfl
theorem turn_self (S : CS) (i : Nat) : S.turn i (S.sh i) S.it = S := by
  unfold CS.turn
  have : putAt S.sh i (S.sh i) = S.sh := by
    funext k; unfold putAt; split
    · rename_i e; rw [e]
    · rfl
  rw [this]
theorem turn_sh (S : CS) (i : Nat) (T : Sh) (I : Nat → It) : (S.turn i T I).sh i = T := putAt_same _ _ _
theorem COk.made {more room : Int} {T0 T : Sh} {I0 I : Nat → It} (h : Made more room T0 I0 T I) : ∀ {S : CS} {i : Nat}, i < n → COk n (S.turn i T0 I0) → COk n (S.turn i T I) := by
  induction h with
  | none => exact fun _ h => h
  | fits => exact fun _ h => h
  | @step T0 I0 b r T I hw _ _ ih =>
    intro S i hi ok
    refine ih hi ?_
    have hb : b ∈ ((S.turn i T0 I0).sh i).wt := by rw [turn_sh, hw]; exact List.mem_cons_self ..
    have hk := ok.alk i hi b ((ok.ok i hi).sub b hb)
    have := ok.gone hi hk (ok.w0 i hi b hb)
    unfold CS.goneAt at this
    rw [turn_turn, turn_sh] at this
    exact this
theorem COk.madeAt (ok : COk n S) {i : Nat} (hi : i < n) {more room : Int} {T : Sh} {I : Nat → It} (h : Made more room (S.sh i) S.it T I) : COk n (S.turn i T I) :=
  COk.made h hi (by rw [turn_self]; exact ok)
theorem COk.busy (ok : COk n S) {i : Nat} (hi : i < n) (b : Nat) : COk n (S.turn i { S.sh i with wt := Str.less (S.sh i).wt b } S.it) :=
  ok.turn ⟨fun y hy => (ok.ok i hi).sub y (less_mem hy), (ok.ok i hi).ch⟩ (fun _ => rfl) (ok.al i hi) (fun _ => rfl) (ok.alk i hi) (ok.inm i hi) (fun _ _ => rfl) (fun _ => rfl) (less_nodup (ok.wtn i hi) b) (fun p hp e => by have := ok.pinal p hp; rwa [e] at this) (fun y hy => ok.w0 i hi y (less_mem hy))
theorem COk.pinned (ok : COk n S) {b : Nat} (hb : b ∈ S.its) (hbw : ∀ i, i < n → b ∉ (S.sh i).wt) (hba : b ∈ (S.sh (sidx n (S.it b).key)).al) : COk n (S.pinned b) := by
  have hk : ∀ c, (upd S.it b { S.it b with pins := (S.it b).pins + 1 } c).key = (S.it c).key ∧ (upd S.it b { S.it b with pins := (S.it b).pins + 1 } c).inn = (S.it c).inn ∧ (upd S.it b { S.it b with pins := (S.it b).pins + 1 } c).ch = (S.it c).ch := by
    intro c; unfold upd; split
    · rename_i e; rw [e]; exact ⟨rfl, rfl, rfl⟩
    · exact ⟨rfl, rfl, rfl⟩
  refine ⟨ok.room, by have := ok.last; show 0 ≤ S.last + 1; omega, fun j hj => ⟨(ok.ok j hj).sub, fun y hy => ?_⟩, ok.al, fun j hj y hy => ?_, fun j hj p hp => ?_, fun p hp => ?_, fun c hc => ?_, ok.wtn, by have := ok.itn; show (_ : Int) ≤ S.last + 1; show (S.its.length : Int) ≤ _; omega, fun c hc => ?_, fun c hc => ?_, fun p hp => ?_, fun j hj y hy => ?_⟩
  · show _ ≤ (upd S.it b _ y).ch ∧ (upd S.it b _ y).ch ≤ _
    rw [(hk y).2.2]; exact (ok.ok j hj).ch y hy
  · show sidx n (upd S.it b _ y).key = j
    rw [(hk y).1]; exact ok.alk j hj y hy
  · obtain ⟨q1, q2, q3⟩ := ok.inm j hj p hp
    exact ⟨q1, by show (upd S.it b _ p.2).key = _; rw [(hk p.2).1]; exact q2, by show (upd S.it b _ p.2).inn = _; rw [(hk p.2).2.1]; exact q3⟩
  · have hp' : p ∈ S.pins ++ [(S.last + 1, b)] := hp
    rcases List.mem_append.1 hp' with h | h
    · have := ok.pins p h
      exact ⟨by show _ ≤ S.last + 1; omega, this.2⟩
    · obtain rfl : p = (S.last + 1, b) := by simpa using h
      exact ⟨Int.le_refl _, hb⟩
  · show 0 ≤ (upd S.it b _ c).pins ∧ (upd S.it b _ c).pins ≤ S.last + 1
    have h1 := ok.pn c hc
    have h2 := ok.pn b hb
    unfold upd
    split
    · simp only; omega
    · omega
  · show (upd S.it b _ c).pins = ((((S.pins ++ [(S.last + 1, b)]).map (·.2)).count c : Nat) : Int)
    rw [List.map_append, List.count_append]
    have := ok.cnt c hc
    unfold upd
    split
    · rename_i e; subst e; simp; omega
    · rename_i e
      have e' : ¬ b = c := fun h => e h.symm
      simp [List.count_cons, e']; omega
  · show (upd S.it b _ c).key.size ≤ 1024
    rw [(hk c).1]; exact ok.ksz c hc
  · show p.2 ∈ (S.sh (sidx n (upd S.it b _ p.2).key)).al
    rw [(hk p.2).1]
    have hp' : p ∈ S.pins ++ [(S.last + 1, b)] := hp
    rcases List.mem_append.1 hp' with h | h
    · exact ok.pinal p h
    · obtain rfl : p = (S.last + 1, b) := by simpa using h
      exact hba
  · show (upd S.it b _ y).pins = 0
    have hne : y ≠ b := fun e => hbw j hj (by rw [← e]; exact hy)
    rw [upd_ne _ _ hne]; exact ok.w0 j hj y hy
/-- A new entry. -/
def CS.added (S : CS) (i nb : Nat) (a : It) : CS :=
  { S with sh := putAt S.sh i { S.sh i with inm := (S.sh i).inm ++ [(a.key, nb)], al := (S.sh i).al ++ [nb] }, it := upd S.it nb a, its := S.its ++ [nb] }
theorem COk.added (ok : COk n S) {i : Nat} (hi : i < n) {nb : Nat} (hn : nb ∉ S.its) {a : It} (hk : sidx n a.key = i) (ha : a.inn = true) (hc : 0 ≤ a.ch ∧ a.ch ≤ 18446744073709551615) (hp : a.pins = 0) (hz : a.key.size ≤ 1024) : COk n ((S.added i nb a).pinned nb) := by
  have hne : ∀ {c}, c ∈ S.its → c ≠ nb := fun hc e => hn (by rw [← e]; exact hc)
  have hold : ∀ {c}, c ∈ S.its → ((S.added i nb a).pinned nb).it c = S.it c := fun {c} hc => by
    show upd (upd S.it nb a) nb _ c = _
    rw [upd_ne _ _ (hne hc), upd_ne _ _ (hne hc)]
  have hnew : ((S.added i nb a).pinned nb).it nb = { a with pins := a.pins + 1 } := by
    show upd (upd S.it nb a) nb { upd S.it nb a nb with pins := (upd S.it nb a nb).pins + 1 } nb = _
    rw [upd_same, upd_same]
  have hal : ∀ j, j < n → ∀ c ∈ ((S.added i nb a).sh j).al, c ∈ (S.sh j).al ∨ (c = nb ∧ j = i) := by
    intro j hj c hc
    have hc' : c ∈ (putAt S.sh i _ j).al := hc
    unfold putAt at hc'
    split at hc'
    · rename_i e
      rcases List.mem_append.1 hc' with h | h
      · rw [e]; exact .inl h
      · exact .inr ⟨by simpa using h, e⟩
    · exact .inl hc'
  have hal2 : ∀ j, ∀ c ∈ (S.sh j).al, c ∈ ((S.added i nb a).sh j).al := by
    intro j c hc
    show c ∈ (putAt S.sh i _ j).al
    unfold putAt
    split
    · rename_i e; rw [e] at hc; exact List.mem_append_left _ hc
    · exact hc
  have hwt : ∀ j, ((S.added i nb a).sh j).wt = (S.sh j).wt := by
    intro j
    show (putAt S.sh i _ j).wt = _
    unfold putAt
    split
    · rename_i e; rw [e]
    · rfl
  refine ⟨ok.room, by have := ok.last; show 0 ≤ S.last + 1; omega, fun j hj => ⟨fun y hy => ?_, fun y hy => ?_⟩, fun j hj y hy => ?_, fun j hj y hy => ?_, fun j hj p hp => ?_, fun p hp => ?_, fun c hc => ?_, fun j hj => ?_, ?_, fun c hc => ?_, fun c hc => ?_, fun p hp => ?_, fun j hj y hy => ?_⟩
  · have hy' : y ∈ ((S.added i nb a).sh j).wt := hy
    rw [hwt] at hy'
    exact hal2 j y ((ok.ok j hj).sub y hy')
  · rcases hal j hj y hy with h | ⟨rfl, _⟩
    · rw [hold (ok.al j hj y h)]; exact (ok.ok j hj).ch y h
    · rw [hnew]; exact hc
  · show y ∈ S.its ++ [nb]
    rcases hal j hj y hy with h | ⟨rfl, _⟩
    · exact List.mem_append_left _ (ok.al j hj y h)
    · simp
  · rcases hal j hj y hy with h | ⟨rfl, e⟩
    · rw [hold (ok.al j hj y h)]; exact ok.alk j hj y h
    · rw [hnew, e]; exact hk
  · have hp' : p ∈ (putAt S.sh i { S.sh i with inm := (S.sh i).inm ++ [(a.key, nb)], al := (S.sh i).al ++ [nb] } j).inm := hp
    have hor : p ∈ (S.sh j).inm ∨ (p = (a.key, nb) ∧ j = i) := by
      unfold putAt at hp'
      split at hp'
      · rename_i e
        rcases List.mem_append.1 hp' with h | h
        · rw [e]; exact .inl h
        · exact .inr ⟨by simpa using h, e⟩
      · exact .inl hp'
    rcases hor with h | ⟨rfl, e⟩
    · obtain ⟨q1, q2, q3⟩ := ok.inm j hj p h
      rw [hold (ok.al j hj _ q1)]
      exact ⟨hal2 j _ q1, q2, q3⟩
    · rw [hnew]
      refine ⟨?_, rfl, ha⟩
      show nb ∈ (putAt S.sh i _ j).al
      rw [e, putAt_same]; simp
  · have hp' : p ∈ S.pins ++ [(S.last + 1, nb)] := hp
    show p.1 ≤ S.last + 1 ∧ p.2 ∈ S.its ++ [nb]
    rcases List.mem_append.1 hp' with h | h
    · have := ok.pins p h
      exact ⟨by omega, List.mem_append_left _ this.2⟩
    · obtain rfl : p = (S.last + 1, nb) := by simpa using h
      exact ⟨Int.le_refl _, by simp⟩
  · have hc' : c ∈ S.its ++ [nb] := hc
    rcases List.mem_append.1 hc' with h | h
    · rw [hold h]; have := ok.pn c h; show _ ∧ _ ≤ S.last + 1; omega
    · obtain rfl : c = nb := by simpa using h
      rw [hnew]; have := ok.last; show _ ∧ _ ≤ S.last + 1; simp only; omega
  · show ((S.added i nb a).sh j).wt.Nodup
    rw [hwt]; exact ok.wtn j hj
  · show ((S.its ++ [nb]).length : Int) ≤ S.last + 1
    have := ok.itn
    simp; omega
  · have hc' : c ∈ S.its ++ [nb] := hc
    show _ = ((((S.pins ++ [(S.last + 1, nb)]).map (·.2)).count c : Nat) : Int)
    rw [List.map_append, List.count_append]
    rcases List.mem_append.1 hc' with h | h
    · rw [hold h, ok.cnt c h]
      have e' : ¬ nb = c := fun e => hn (by rw [e]; exact h)
      simp [List.count_cons, e']
    · obtain rfl : c = nb := by simpa using h
      rw [hnew]
      have h0 : (S.pins.map (·.2)).count c = 0 := List.count_eq_zero.2 (fun hm => by
        obtain ⟨p, hp', e⟩ := List.mem_map.1 hm
        exact hn (by rw [← e]; exact (ok.pins p hp').2))
      rw [h0]
      simp [hp]
  · have hc' : c ∈ S.its ++ [nb] := hc
    rcases List.mem_append.1 hc' with h | h
    · rw [hold h]; exact ok.ksz c h
    · obtain rfl : c = nb := by simpa using h
      rw [hnew]; exact hz
  · have hp' : p ∈ S.pins ++ [(S.last + 1, nb)] := hp
    show p.2 ∈ ((S.added i nb a).sh (sidx n (((S.added i nb a).pinned nb).it p.2).key)).al
    rcases List.mem_append.1 hp' with h | h
    · rw [hold (ok.pins p h).2]; exact hal2 _ _ (ok.pinal p h)
    · obtain rfl : p = (S.last + 1, nb) := by simpa using h
      rw [hnew]
      show nb ∈ ((S.added i nb a).sh (sidx n a.key)).al
      rw [hk]
      show nb ∈ (putAt S.sh i _ i).al
      rw [putAt_same]; simp
  · have hy' : y ∈ ((S.added i nb a).sh j).wt := hy
    rw [hwt] at hy'
    rw [hold (ok.wt_its hj y hy')]; exact ok.w0 j hj y hy'
/-- A pin less. -/
def CS.unpinned (S : CS) (k : Int) (b : Nat) : CS := { S with pins := S.pins.filter (fun p => decide (p.1 ≠ k)), it := upd S.it b { S.it b with pins := (S.it b).pins - 1 } }
theorem count_drop : ∀ {l : List (Int × Nat)} {k : Int} {b : Nat}, (l.map (·.1)).Nodup → (k, b) ∈ l → ∀ c, ((l.filter (fun p => decide (p.1 ≠ k))).map (·.2)).count c + (if c = b then 1 else 0) = (l.map (·.2)).count c
  | [], _, _, _, h, _ => by simp at h
  | (k0, b0) :: l, k, b, hn, h, c => by
    simp only [List.map_cons, List.nodup_cons] at hn
    by_cases e : k0 = k
    · subst e
      have hb : b0 = b := by
        rcases List.mem_cons.1 h with h | h
        · injection h with _ h; exact h.symm
        · exact absurd (List.mem_map.2 ⟨_, h, rfl⟩) hn.1
      subst hb
      have hf : l.filter (fun p => decide (p.1 ≠ k0)) = l := by
        rw [List.filter_eq_self]
        intro p hp
        simp only [decide_eq_true_eq]
        exact fun e => hn.1 (by rw [← e]; exact List.mem_map.2 ⟨p, hp, rfl⟩)
      rw [List.filter_cons, if_neg (by simp), hf, List.map_cons, List.count_cons]
      by_cases e : c = b0
      · simp [e]
      · have e' : ¬ b0 = c := fun h => e h.symm
        simp [e, e']
    · have h' : (k, b) ∈ l := by
        rcases List.mem_cons.1 h with h | h
        · injection h with h _; exact absurd h.symm e
        · exact h
      have ih := count_drop hn.2 h' c
      rw [List.filter_cons, if_pos (by simpa using e), List.map_cons, List.map_cons, List.count_cons, List.count_cons]
      omega
theorem COk.unpinned (ok : COk n S) {k : Int} {b : Nat} (hk : (k, b) ∈ S.pins) (hn : (S.pins.map (·.1)).Nodup) : COk n (S.unpinned k b) := by
  have hb : b ∈ S.its := (ok.pins _ hk).2
  have hs : ∀ c, (upd S.it b { S.it b with pins := (S.it b).pins - 1 } c).key = (S.it c).key ∧ (upd S.it b { S.it b with pins := (S.it b).pins - 1 } c).inn = (S.it c).inn ∧ (upd S.it b { S.it b with pins := (S.it b).pins - 1 } c).ch = (S.it c).ch := by
    intro c; unfold upd; split
    · rename_i e; rw [e]; exact ⟨rfl, rfl, rfl⟩
    · exact ⟨rfl, rfl, rfl⟩
  have hcb : 1 ≤ (S.it b).pins := by
    rw [ok.cnt b hb]
    have : 0 < (S.pins.map (·.2)).count b := List.count_pos_iff.2 (List.mem_map.2 ⟨_, hk, rfl⟩)
    omega
  have hmem : ∀ p ∈ (S.unpinned k b).pins, p ∈ S.pins := fun p hp => (List.mem_filter.1 hp).1
  refine ⟨ok.room, ok.last, fun j hj => ⟨(ok.ok j hj).sub, fun y hy => ?_⟩, ok.al, fun j hj y hy => ?_, fun j hj p hp => ?_, fun p hp => ok.pins p (hmem p hp), fun c hc => ?_, ok.wtn, ok.itn, fun c hc => ?_, fun c hc => ?_, fun p hp => ?_, fun j hj y hy => ?_⟩
  · show _ ≤ (upd S.it b _ y).ch ∧ (upd S.it b _ y).ch ≤ _
    rw [(hs y).2.2]; exact (ok.ok j hj).ch y hy
  · show sidx n (upd S.it b _ y).key = j
    rw [(hs y).1]; exact ok.alk j hj y hy
  · obtain ⟨q1, q2, q3⟩ := ok.inm j hj p hp
    exact ⟨q1, by show (upd S.it b _ p.2).key = _; rw [(hs p.2).1]; exact q2, by show (upd S.it b _ p.2).inn = _; rw [(hs p.2).2.1]; exact q3⟩
  · show 0 ≤ (upd S.it b _ c).pins ∧ (upd S.it b _ c).pins ≤ S.last
    have h1 := ok.pn c hc
    have h2 := ok.pn b hb
    unfold upd
    split
    · simp only; omega
    · exact h1
  · show (upd S.it b _ c).pins = ((((S.pins.filter (fun p => decide (p.1 ≠ k))).map (·.2)).count c : Nat) : Int)
    have h1 := count_drop hn hk c
    have h2 := ok.cnt c hc
    unfold upd
    split
    · rename_i e; subst e; simp only [if_true] at h1; simp only; omega
    · rename_i e; simp only [if_neg e] at h1; omega
  · show (upd S.it b _ c).key.size ≤ 1024
    rw [(hs c).1]; exact ok.ksz c hc
  · show p.2 ∈ (S.sh (sidx n (upd S.it b _ p.2).key)).al
    rw [(hs p.2).1]; exact ok.pinal p (hmem p hp)
  · show (upd S.it b _ y).pins = 0
    have h0 := ok.w0 j hj y hy
    have hne : y ≠ b := fun e => by rw [e] at h0; omega
    rw [upd_ne _ _ hne]; exact h0
/-- An entry waits. -/
def CS.waits (S : CS) (i b : Nat) : CS := S.turn i { S.sh i with wt := (S.sh i).wt ++ [b] } S.it
theorem COk.waits (ok : COk n S) {i : Nat} (hi : i < n) {b : Nat} (hb : b ∈ (S.sh i).al) (hb0 : (S.it b).pins = 0) (hbw : b ∉ (S.sh i).wt) : COk n (S.waits i b) := by
  refine ok.turn ⟨fun y hy => ?_, (ok.ok i hi).ch⟩ (fun _ => rfl) (ok.al i hi) (fun _ => rfl) (ok.alk i hi) (ok.inm i hi) (fun _ _ => rfl) (fun _ => rfl) ?_ (fun p hp e => by have := ok.pinal p hp; rwa [e] at this) (fun y hy => ?_)
  · rcases List.mem_append.1 hy with h | h
    · exact (ok.ok i hi).sub y h
    · obtain rfl : y = b := by simpa using h
      exact hb
  · rw [List.nodup_append]
    exact ⟨ok.wtn i hi, by simp, fun x hx y hy => by simp at hy; subst hy; exact fun e => hbw (e ▸ hx)⟩
  · rcases List.mem_append.1 hy with h | h
    · exact ok.w0 i hi y h
    · obtain rfl : y = b := by simpa using h
      exact hb0
end
end Go.Proofs.Ytbiaelaaihieeaa.Str
