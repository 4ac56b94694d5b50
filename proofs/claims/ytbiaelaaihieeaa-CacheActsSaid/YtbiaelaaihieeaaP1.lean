/- CacheRoom: the plain law: what is used fits. No program in sight. -/
import Derived.Test.YtbiaelaaihieeaaC12
set_option linter.unusedVariables false
set_option linter.unusedSimpArgs false
namespace Go.Proofs.Ytbiaelaaihieeaa

/-- What holds of a shard, q its room, besides. -/
structure ShI (T : Sh) (I : Nat → It) (q : Int) (st : Bool) : Prop where
  wait : ∀ b ∈ T.al, (I b).pins = 0 → b ∈ T.wt
  fit : T.wt = [] ∨ usedOf T I ≤ q
  strict : st = true → usedOf T I ≤ q
def CI (n : Nat) (S : CS) : Prop := ∀ i, i < n → ShI (S.sh i) S.it (S.room / n) S.st
theorem cap_mono {a b : Int} (h : a ≤ b) : cap a ≤ cap b := by unfold cap; (repeat' split) <;> omega
theorem addTop_mono {a b c : Int} (h : a ≤ b) : addTop a c ≤ addTop b c := by unfold addTop; (repeat' split) <;> omega
theorem chs_less {I : Nat → It} {l : List Nat} (h : ChOk I l) (x : Nat) : chs I (less l x) ≤ chs I l := by
  induction l with
  | nil => exact Int.le_refl _
  | cons b l ih =>
    have h1 := (h b (List.mem_cons_self ..)).1
    have h2 := ih (fun y hy => h y (List.mem_cons_of_mem _ hy))
    unfold less at *
    by_cases e : b = x
    · simp only [List.filter_cons, e, ne_eq, not_true_eq_false, decide_false, Bool.false_eq_true, if_false, chs, List.map_cons, List.sum_cons] at *
      omega
    · simp only [List.filter_cons, ne_eq, e, not_false_eq_true, decide_true, if_true, chs, List.map_cons, List.sum_cons] at *
      omega
theorem chs_congr {I J : Nat → It} {l : List Nat} (h : ∀ b ∈ l, (I b).ch = (J b).ch) : chs I l = chs J l := by
  unfold chs
  congr 1
  apply List.map_congr_left
  exact h
theorem used_congr {T : Sh} {I J : Nat → It} (h : ∀ b, (I b).ch = (J b).ch) : usedOf T I = usedOf T J := by
  unfold usedOf; rw [chs_congr (fun b _ => h b)]
/-- Room has been made. -/
theorem Made.end_ {more room : Int} {S T : Sh} {I J : Nat → It} (h : Made more room S I T J) : T.wt = [] ∨ addTop (usedOf T J) more ≤ room := by
  induction h with
  | none S I h => exact .inl h
  | fits S I h => exact .inr h
  | step _ _ _ ih => exact ih
theorem Made.wait {more room : Int} {S T : Sh} {I J : Nat → It} (h : Made more room S I T J) : (∀ b ∈ S.al, (I b).pins = 0 → b ∈ S.wt) → ∀ b ∈ T.al, (J b).pins = 0 → b ∈ T.wt := by
  induction h with
  | none => exact fun h => h
  | fits => exact fun h => h
  | @step S I b r S' I' hw _ _ ih =>
    refine fun h => ih (fun c hc hp => ?_)
    rw [off_pins] at hp
    exact mem_less (h c (less_mem hc) hp) (less_ne hc)
theorem Made.same {more room : Int} {S T : Sh} {I J : Nat → It} (h : Made more room S I T J) : ∀ b, (J b).ch = (I b).ch ∧ (J b).pins = (I b).pins ∧ (J b).key = (I b).key ∧ (J b).v = (I b).v := by
  induction h with
  | none => exact fun _ => ⟨rfl, rfl, rfl, rfl⟩
  | fits => exact fun _ => ⟨rfl, rfl, rfl, rfl⟩
  | step _ _ _ ih => exact fun b => by rw [(ih b).1, (ih b).2.1, (ih b).2.2.1, (ih b).2.2.2]; exact ⟨upd_ch _ _ _, off_pins _ _ _, off_key _ _ _, off_v _ _ _⟩
theorem Made.used {more room : Int} {S T : Sh} {I J : Nat → It} (h : Made more room S I T J) : ChOk I S.al → usedOf T J ≤ usedOf S I := by
  induction h with
  | none => exact fun _ => Int.le_refl _
  | fits => exact fun _ => Int.le_refl _
  | @step S I b r S' I' _ _ _ ih =>
    intro hc
    have h1 := ih (fun y hy => by rw [upd_ch]; exact hc y (less_mem hy))
    refine Int.le_trans h1 ?_
    rw [used_congr (upd_ch I b)]
    exact cap_mono (chs_less hc b)
theorem addTop_ge {a c : Int} (ha : a ≤ 18446744073709551615) (hc : 0 ≤ c) : a ≤ addTop a c := by unfold addTop; split <;> omega
theorem addTop_zero {a : Int} (ha : a ≤ 18446744073709551615) : addTop a 0 = a := by unfold addTop; split <;> omega
section
variable {n : Nat} {S : CS}
theorem CI.turn (h : CI n S) {i : Nat} {T : Sh} {I : Nat → It} (hT : ShI T I (S.room / n) S.st) (hs : ∀ b, (I b).ch = (S.it b).ch ∧ (I b).pins = (S.it b).pins) : CI n (S.turn i T I) := by
  intro j hj
  show ShI (putAt S.sh i T j) I (S.room / n) S.st
  unfold putAt
  split
  · exact hT
  · have := h j hj
    refine ⟨fun b hb hp => this.wait b hb (by rw [← (hs b).2]; exact hp), ?_, ?_⟩
    · rw [used_congr (fun b => (hs b).1)]; exact this.fit
    · rw [used_congr (fun b => (hs b).1)]; exact this.strict
theorem used_top (T : Sh) (I : Nat → It) : usedOf T I ≤ 18446744073709551615 := by unfold usedOf cap; split <;> omega
theorem ShI.less {T : Sh} {I : Nat → It} {q : Int} {st : Bool} (h : ShI T I q st) (hc : ChOk I T.al) (b : Nat) {l : List (ByteArray × Nat)} {J : Nat → It} (hs : ∀ b, (J b).ch = (I b).ch ∧ (J b).pins = (I b).pins) : ShI { inm := l, al := Ytbiaelaaihieeaa.less T.al b, wt := Ytbiaelaaihieeaa.less T.wt b } J q st := by
  have hu : usedOf { inm := l, al := Ytbiaelaaihieeaa.less T.al b, wt := Ytbiaelaaihieeaa.less T.wt b } J ≤ usedOf T I := by
    rw [used_congr (fun b => (hs b).1)]; exact cap_mono (chs_less hc b)
  refine ⟨fun c hc hp => mem_less (h.wait c (less_mem hc) (by rw [← (hs c).2]; exact hp)) (less_ne hc), ?_, fun e => Int.le_trans hu (h.strict e)⟩
  rcases h.fit with h | h
  · exact .inl (by simp only [h]; rfl)
  · exact .inr (Int.le_trans hu h)
/-- Behind a Put. -/
theorem CI.put (ci : CI n S) (ok : COk n S) {i : Nat} (hi : i < n) {ch : Int} (hch : 0 ≤ ch ∧ ch ≤ 18446744073709551615) {T : Sh} {I : Nat → It} (hm : Made ch (S.room / n) (S.sh i) S.it T I) :
    CI n (S.turn i T I) ∧ ∀ (key : ByteArray) (v : Value) (nb : Nat), ¬ S.full n ch T I → sidx n key = i → nb ∉ S.its → CI n ((((S.turn i T I).clear i key).added i nb ⟨key, v, ch, true, 0⟩).pinned nb) := by
  have hs := hm.same
  have hk : ∀ b, (I b).ch = (S.it b).ch ∧ (I b).pins = (S.it b).pins := fun b => ⟨(hs b).1, (hs b).2.1⟩
  have c0 := ci i hi
  have hT : ShI T I (S.room / n) S.st := by
    refine ⟨hm.wait c0.wait, ?_, fun e => Int.le_trans (hm.used (ok.ok i hi).ch) (c0.strict e)⟩
    rcases hm.end_ with h | h
    · exact .inl h
    · exact .inr (Int.le_trans (addTop_ge (used_top T I) hch.1) h)
  have h1 := ci.turn (i := i) hT hk
  refine ⟨h1, fun key v nb hf hkey hnb => ?_⟩
  have ok1 := ok.madeAt hi hm
  -- behind the clearing
  have hU : ∃ U J, (S.turn i T I).clear i key = S.turn i U J ∧ (∀ b, (J b).ch = (S.it b).ch ∧ (J b).pins = (S.it b).pins) ∧ (∀ b ∈ U.al, b ∈ S.its) ∧ ChOk J U.al ∧ (∀ b ∈ U.al, (J b).pins = 0 → b ∈ U.wt) ∧ (U.wt = [] ∨ addTop (usedOf U J) ch ≤ S.room / n) ∧ (S.st = true → addTop (usedOf U J) ch ≤ S.room / n) := by
    have hst : S.st = true → addTop (usedOf T I) ch ≤ S.room / n := fun e => by
      have : ¬ (S.room / (n : Int) < addTop (usedOf T I) ch) := fun h => hf ⟨e, h⟩
      omega
    have hal1 : ∀ b ∈ T.al, b ∈ S.its := fun b hb => ok1.al i hi b (by rw [turn_sh]; exact hb)
    have hch1 : ChOk I T.al := fun b hb => (ok1.ok i hi).ch b (by rw [turn_sh]; exact hb)
    unfold CS.clear
    rw [turn_sh]
    cases hl : look T.inm key with
    | none => exact ⟨T, I, rfl, hk, hal1, hch1, hT.wait, hm.end_, hst⟩
    | some b =>
      have e0 : (S.turn i T I).outAt i b = S.turn i (T.outOf b (I b)) (upd I b (I b).off) := by
        unfold CS.outAt
        rw [turn_turn, turn_sh]; rfl
      have hk2 : ∀ c, (upd I b (I b).off c).ch = (S.it c).ch ∧ (upd I b (I b).off c).pins = (S.it c).pins := fun c => by rw [upd_ch, off_pins]; exact hk c
      refine ⟨_, _, e0, hk2, ?_⟩
      unfold Sh.outOf
      split
      · have hu : usedOf { inm := out T.inm (I b).key, al := less T.al b, wt := less T.wt b } (upd I b (I b).off) ≤ usedOf T I := by
          rw [used_congr (upd_ch I b)]; exact cap_mono (chs_less hch1 b)
        refine ⟨fun c hc => hal1 c (less_mem hc), fun c hc => by rw [upd_ch]; exact hch1 c (less_mem hc), fun c hc hp => mem_less (hT.wait c (less_mem hc) (by rw [off_pins] at hp; exact hp)) (less_ne hc), ?_, fun e => Int.le_trans (addTop_mono hu) (hst e)⟩
        rcases hm.end_ with h | h
        · exact .inl (by simp only [h]; rfl)
        · exact .inr (Int.le_trans (addTop_mono hu) h)
      · have hu : usedOf { T with inm := out T.inm (I b).key } (upd I b (I b).off) = usedOf T I := used_congr (upd_ch I b)
        rw [hu]
        exact ⟨hal1, fun c hc => by rw [upd_ch]; exact hch1 c hc, fun c hc hp => hT.wait c hc (by rw [off_pins] at hp; exact hp), hm.end_, hst⟩
  obtain ⟨U, J, eU, hkJ, halU, hchU, hwU, hfU, hsU⟩ := hU
  rw [eU]
  have hnew : ∀ b, b ∈ S.its → (((S.turn i U J).added i nb ⟨key, v, ch, true, 0⟩).pinned nb).it b = J b := fun b hb => by
    have hne : b ≠ nb := fun e => hnb (by rw [← e]; exact hb)
    show upd (upd J nb _) nb _ b = J b
    rw [upd_ne _ _ hne, upd_ne _ _ hne]
  have hnb2 : (((S.turn i U J).added i nb ⟨key, v, ch, true, 0⟩).pinned nb).it nb = ⟨key, v, ch, true, 1⟩ := by
    show upd (upd J nb ⟨key, v, ch, true, 0⟩) nb { upd J nb ⟨key, v, ch, true, 0⟩ nb with pins := (upd J nb ⟨key, v, ch, true, 0⟩ nb).pins + 1 } nb = _
    rw [upd_same, upd_same]; rfl
  intro j hj
  show ShI (putAt (putAt S.sh i U) i { (putAt S.sh i U) i with inm := ((putAt S.sh i U) i).inm ++ [(key, nb)], al := ((putAt S.sh i U) i).al ++ [nb] } j) _ (S.room / n) S.st
  by_cases ej : j = i
  · subst ej
    rw [putAt_same, putAt_same]
    have hus : usedOf { U with inm := U.inm ++ [(key, nb)], al := U.al ++ [nb] } (((S.turn j U J).added j nb ⟨key, v, ch, true, 0⟩).pinned nb).it = addTop (usedOf U J) ch := by
      have e1 : chs (((S.turn j U J).added j nb ⟨key, v, ch, true, 0⟩).pinned nb).it (U.al ++ [nb]) = chs J U.al + ch := by
        unfold chs
        rw [List.map_append, List.sum_append]
        congr 1
        · congr 1
          apply List.map_congr_left
          intro b hb
          rw [hnew b (halU b hb)]
        · simp [hnb2]
      show cap (chs _ (U.al ++ [nb])) = addTop (cap (chs J U.al)) ch
      rw [e1, cap_add (chs_nonneg hchU) hch.1]
    refine ⟨fun b hb hp => ?_, ?_, fun e => by rw [hus]; exact hsU e⟩
    · rcases List.mem_append.1 hb with h | h
      · rw [hnew b (halU b h)] at hp; exact hwU b h hp
      · obtain rfl : b = nb := by simpa using h
        rw [hnb2] at hp; simp at hp
    · rw [hus]; exact hfU
  · rw [putAt_ne _ _ ej, putAt_ne _ _ ej]
    have := ci j hj
    have hb : ∀ b ∈ (S.sh j).al, b ∈ S.its := ok.al j hj
    have hue : usedOf (S.sh j) (((S.turn i U J).added i nb ⟨key, v, ch, true, 0⟩).pinned nb).it = usedOf (S.sh j) S.it := by
      exact congrArg cap (chs_congr (fun b hb' => by rw [hnew b (hb b hb')]; exact (hkJ b).1))
    refine ⟨fun b hb' hp => this.wait b hb' (by rw [hnew b (hb b hb')] at hp; rw [← (hkJ b).2]; exact hp), ?_, ?_⟩
    · rw [hue]; exact this.fit
    · rw [hue]; exact this.strict
theorem COk.unpinned_pins (ok : COk n S) {k : Int} {b : Nat} (hk : (k, b) ∈ S.pins) : 1 ≤ (S.it b).pins := by
  rw [ok.cnt b (ok.pins _ hk).2]
  have : 0 < (S.pins.map (·.2)).count b := List.count_pos_iff.2 (List.mem_map.2 ⟨_, hk, rfl⟩)
  omega
theorem unpinned_it (S : CS) (k : Int) (b c : Nat) : ((S.unpinned k b).it c).ch = (S.it c).ch ∧ ((S.unpinned k b).it c).pins = (S.it c).pins - (if c = b then 1 else 0) ∧ ((S.unpinned k b).it c).key = (S.it c).key := by
  show (upd S.it b _ c).ch = _ ∧ (upd S.it b _ c).pins = _ ∧ (upd S.it b _ c).key = _
  unfold upd
  split
  · rename_i e; subst e; simp
  · rename_i e; simp [e]
/-- Behind a Free: what holds of the other shards, and of this one but for the entry that has lost a pin. -/
theorem CI.unpinned (ci : CI n S) (ok : COk n S) {k : Int} {b : Nat} (hk : (k, b) ∈ S.pins) : ∀ j, j < n → (∀ c ∈ (S.sh j).al, c ≠ b → ((S.unpinned k b).it c).pins = 0 → c ∈ (S.sh j).wt) ∧ ((S.sh j).wt = [] ∨ usedOf (S.sh j) (S.unpinned k b).it ≤ S.room / n) ∧ (S.st = true → usedOf (S.sh j) (S.unpinned k b).it ≤ S.room / n) ∧
    usedOf (S.sh j) (S.unpinned k b).it = usedOf (S.sh j) S.it := by
  intro j hj
  have hu : usedOf (S.sh j) (S.unpinned k b).it = usedOf (S.sh j) S.it := used_congr (fun c => (unpinned_it S k b c).1)
  rw [hu]
  refine ⟨fun c hc hne hp => (ci j hj).wait c hc ?_, (ci j hj).fit, (ci j hj).strict, rfl⟩
  have := (unpinned_it S k b c).2.1
  rw [if_neg hne] at this
  omega
theorem CI.free1 (ci : CI n S) (ok : COk n S) {k : Int} {b : Nat} (hk : (k, b) ∈ S.pins) (h1 : 1 < (S.it b).pins) : CI n (S.unpinned k b) := by
  intro j hj
  obtain ⟨q1, q2, q3, _⟩ := ci.unpinned ok hk j hj
  refine ⟨fun c hc hp => ?_, q2, q3⟩
  by_cases e : c = b
  · subst e
    have := (unpinned_it S k c c).2.1
    rw [if_pos rfl] at this
    omega
  · exact q1 c hc e hp
theorem CI.free_on (ci : CI n S) (ok : COk n S) {k : Int} {b : Nat} (hk : (k, b) ∈ S.pins) {i : Nat} (hib : sidx n (S.it b).key = i) {T : Sh} {I : Nat → It} (hT : ShI T I (S.room / n) S.st) (hs : ∀ c, (I c).ch = ((S.unpinned k b).it c).ch ∧ (I c).pins = ((S.unpinned k b).it c).pins) : CI n ((S.unpinned k b).turn i T I) := by
  intro j hj
  show ShI (putAt S.sh i T j) I (S.room / n) S.st
  by_cases e : j = i
  · rw [e, putAt_same]; exact hT
  · rw [putAt_ne _ _ e]
    obtain ⟨q1, q2, q3, q4⟩ := ci.unpinned ok hk j hj
    have hu : usedOf (S.sh j) I = usedOf (S.sh j) (S.unpinned k b).it := used_congr (fun c => (hs c).1)
    refine ⟨fun c hc hp => q1 c hc (fun ecb => e ?_) (by rw [← (hs c).2]; exact hp), by rw [hu]; exact q2, by rw [hu]; exact q3⟩
    subst ecb
    rw [← ok.alk j hj c hc]; exact hib
theorem CI.free2 (ci : CI n S) (ok : COk n S) {k : Int} {b : Nat} (hk : (k, b) ∈ S.pins) {i : Nat} (hi : i < n) (hib : sidx n (S.it b).key = i) {T : Sh} {I : Nat → It} (hm : Made 0 (S.room / n) (((S.unpinned k b).waits i b).sh i) (S.unpinned k b).it T I) : CI n ((S.unpinned k b).turn i T I) := by
  obtain ⟨q1, q2, q3, q4⟩ := ci.unpinned ok hk i hi
  have e0 : ((S.unpinned k b).waits i b).sh i = { S.sh i with wt := (S.sh i).wt ++ [b] } := turn_sh _ _ _ _
  rw [e0] at hm
  have hs := hm.same
  have hch : ChOk (S.unpinned k b).it (S.sh i).al := fun c hc => by rw [(unpinned_it S k b c).1]; exact (ok.ok i hi).ch c hc
  refine ci.free_on ok hk hib ⟨hm.wait (fun c hc hp => ?_), ?_, fun e => Int.le_trans (hm.used hch) ?_⟩ (fun c => ⟨(hs c).1, (hs c).2.1⟩)
  · by_cases e : c = b
    · rw [e]; simp
    · exact List.mem_append_left _ (q1 c hc e hp)
  · rcases hm.end_ with h | h
    · exact .inl h
    · rw [addTop_zero (used_top T I)] at h; exact .inr h
  · exact q3 e
theorem CI.free3 (ci : CI n S) (ok : COk n S) {k : Int} {b : Nat} (hk : (k, b) ∈ S.pins) {i : Nat} (hi : i < n) (hib : sidx n (S.it b).key = i) : CI n ((S.unpinned k b).goneAt i b) := by
  obtain ⟨q1, q2, q3, q4⟩ := ci.unpinned ok hk i hi
  have hch : ChOk (S.unpinned k b).it (S.sh i).al := fun c hc => by rw [(unpinned_it S k b c).1]; exact (ok.ok i hi).ch c hc
  have hs : ∀ c, (upd (S.unpinned k b).it b ((S.unpinned k b).it b).off c).ch = ((S.unpinned k b).it c).ch ∧ (upd (S.unpinned k b).it b ((S.unpinned k b).it b).off c).pins = ((S.unpinned k b).it c).pins := fun c => ⟨upd_ch _ _ _, off_pins _ _ _⟩
  refine ci.free_on ok hk hib ⟨fun c hc hp => ?_, ?_, fun e => ?_⟩ hs
  · exact mem_less (q1 c (less_mem hc) (less_ne hc) (by rw [← (hs c).2]; exact hp)) (less_ne hc)
  · rcases q2 with h | h
    · exact .inl (by show less (S.sh i).wt b = []; rw [h]; rfl)
    · refine .inr (Int.le_trans ?_ h)
      rw [used_congr (fun c => (hs c).1)]
      exact cap_mono (chs_less hch b)
  · refine Int.le_trans ?_ (q3 e)
    rw [used_congr (fun c => (hs c).1)]
    exact cap_mono (chs_less hch b)
/-- No more is used than there is room. -/
theorem charge_room (ok : COk n S) (hn : 0 < n) (h : ∀ i, i < n → usedOf (S.sh i) S.it ≤ S.room / n) {C : Int} (hC : C = ((List.range n).map fun i => chs S.it (S.sh i).al).sum) : cap C ≤ S.room := by
  have hr := ok.room
  have hq0 : 0 ≤ S.room / (n : Int) := Int.ediv_nonneg hr.1 (by omega)
  have hqr : S.room / (n : Int) * n ≤ S.room := Int.ediv_mul_le _ (by omega)
  by_cases hone : n = 1
  · subst hone
    have h0 := h 0 (by decide)
    have e : C = chs S.it (S.sh 0).al := by rw [hC]; simp [List.range_succ]
    rw [e]
    have : S.room / ((1 : Nat) : Int) = S.room := by simp
    rw [this] at h0
    exact h0
  · have hlt : S.room / (n : Int) < 18446744073709551615 := by
      rcases Int.lt_or_le (S.room / (n : Int)) 18446744073709551615 with h | h
      · exact h
      · have h2 : 18446744073709551615 * 2 ≤ S.room / (n : Int) * n := Int.mul_le_mul h (by omega) (by decide) hq0
        omega
    have hle : ∀ i, i < n → chs S.it (S.sh i).al ≤ S.room / (n : Int) := fun i hi => by
      have := h i hi
      unfold usedOf cap at this
      split at this <;> omega
    have hsum : ∀ m, m ≤ n → ((List.range m).map fun i => chs S.it (S.sh i).al).sum ≤ S.room / (n : Int) * m := by
      intro m
      induction m with
      | zero => intro _; simp
      | succ m ih =>
        intro hm
        rw [List.range_succ, List.map_append, List.sum_append]
        have h1 := ih (by omega)
        have h2 := hle m (by omega)
        simp only [List.map_cons, List.map_nil, List.sum_cons, List.sum_nil]
        rw [show ((m + 1 : Nat) : Int) = (m : Int) + 1 by omega, Int.mul_add, Int.mul_one]
        omega
    have h3 := hsum n (Nat.le_refl _)
    rw [← hC] at h3
    unfold cap
    split <;> omega
/-- Where nothing is pinned all fits. -/
theorem CI.free_all (ci : CI n S) (ok : COk n S) (hp : S.pins = []) : (∀ i, i < n → usedOf (S.sh i) S.it ≤ S.room / n) ∧ ∀ i, i < n → ∀ b ∈ (S.sh i).al, (S.it b).pins = 0 := by
  have h0 : ∀ i, i < n → ∀ b ∈ (S.sh i).al, (S.it b).pins = 0 := fun i hi b hb => by
    rw [ok.cnt b (ok.al i hi b hb), hp]; rfl
  refine ⟨fun i hi => ?_, h0⟩
  rcases (ci i hi).fit with h | h
  · have hal : (S.sh i).al = [] := by
      apply List.eq_nil_iff_forall_not_mem.2
      intro b hb
      have := (ci i hi).wait b hb (h0 i hi b hb)
      rw [h] at this; simp at this
    have : usedOf (S.sh i) S.it = 0 := by unfold usedOf; rw [hal]; simp [chs, cap]
    rw [this]
    have hn : (0 : Int) ≤ n := by omega
    exact Int.ediv_nonneg ok.room.1 hn
  · exact h
end
end Go.Proofs.Ytbiaelaaihieeaa
