/- The document's limiter: New, next, goes. -/
import Derived.Test.YtbiaelaaihieeaaF
set_option linter.unusedVariables false
set_option linter.unusedSimpArgs false
set_option maxRecDepth 100000
namespace Go.Proofs.Ytbiaelaaihieeaa
open Go.RowKit
variable {B : Nat}

/-- A slice that reads, in a block of element type t. -/
def Rt (w : World) (t sz : Nat) (A : Option Addr) (n : Nat) (xs : List Value) : Prop :=
  xs.length = n * sz ∧ (0 < n → ∃ b o cs fr, A = some ⟨b, o, none⟩ ∧ blkOf w b = some (.cells cs t fr) ∧ ∀ j u, xs[j]? = some u → cs[o + j]? = some u)
section
variable {w w' : World} {t sz n : Nat} {A : Option Addr} {xs : List Value}
theorem Rt.nil (w : World) (t sz : Nat) (A : Option Addr) : Rt w t sz A 0 [] := ⟨by simp, fun h => absurd h (by omega)⟩
theorem Rt.rd (h : Rt w t sz A n xs) : Rd w w.heap.size sz A n xs :=
  ⟨h.1, fun hn => by
    obtain ⟨b, o, cs, fr, e, hb, hc⟩ := h.2 hn
    exact ⟨b, o, e, (Array.getElem?_eq_some_iff.1 hb).1, fun j u hu => by rw [cell_of_row w b (o + j) cs t fr hb]; exact hc j u hu⟩⟩
theorem Rt.chg (h : Rt w t sz A n xs) {F : Nat → Prop} (hc : Chg F w w') (hF : ∀ k cs fr, blkOf w k = some (.cells cs t fr) → ¬ F k) : Rt w' t sz A n xs :=
  ⟨h.1, fun hn => by
    obtain ⟨b, o, cs, fr, e, hb, hx⟩ := h.2 hn
    exact ⟨b, o, cs, fr, e, (hc.block b (Array.getElem?_eq_some_iff.1 hb).1 (hF b cs fr hb)).trans hb, hx⟩⟩
theorem Rt.below (h : Rt w t sz A n xs) (hb : Below w.heap.size w w') : Rt w' t sz A n xs := h.chg (F := fun _ => False) (Chg.of_below hb) (fun _ _ _ _ h => h)
theorem Rt.drewN (h : Rt w t sz A n xs) (k : Nat) : Rt (w.drewN k) t sz A n xs := h
theorem Rt.eqv {W : World} (h : Rt w t sz A n xs) (e : Eqv W w) : Rt W t sz A n xs :=
  ⟨h.1, fun hn => by
    obtain ⟨b, o, cs, fr, e1, hb, hx⟩ := h.2 hn
    exact ⟨b, o, cs, fr, e1, (e.blk b).trans hb, hx⟩⟩
theorem Rt.of_own {base c : Nat} (h : w.ownsRow base t sz (.slice A n c) n xs) : Rt w t sz A n xs := by
  refine ⟨h.1, fun hn => ?_⟩
  have hcell : ∀ j u, xs[j]? = some u → (w.cell? ((A.getD ⟨0, 0, none⟩).add j)) = some u := by
    intro j u hu
    obtain ⟨g, cap, hv, _, _⟩ := h.form hn
    have hA : A = some ⟨g, 0, none⟩ := by injection hv
    subst hA
    exact h.cells (g := g) rfl j u hu
  rcases h.2 with ⟨h1, rfl⟩ | ⟨g', cap, cur, h1, _, hg, _⟩
  · omega
  · have hA : A = some ⟨g', 0, none⟩ := by injection h1
    subst hA
    refine ⟨g', 0, cur, _, rfl, hg, fun j u hu => ?_⟩
    have := hcell j u hu
    have hh := cell_of_row w g' j cur t _ hg
    rw [Nat.zero_add, ← hh, ← this]
    congr 1
    simp [Addr.add]
theorem Rt.lt (h : Rt w t sz A n xs) (hn : 0 < n) : ∃ b o, A = some ⟨b, o, none⟩ ∧ b < w.heap.size := by
  obtain ⟨b, o, cs, fr, e, hb, hx⟩ := h.2 hn
  exact ⟨b, o, e, (Array.getElem?_eq_some_iff.1 hb).1⟩
theorem Rt.cell (h : Rt w t sz A n xs) {b o : Nat} (e : A = some ⟨b, o, none⟩) (hn : 0 < n) {j : Nat} {u : Value} (hu : xs[j]? = some u) : (blkOf w b).bind (cellAt (o + j)) = some u := by
  obtain ⟨b', o', cs, fr, e', hb, hx⟩ := h.2 hn
  rw [e] at e'
  injection e' with e'; injection e' with e1 e2
  subst e1; subst e2
  rw [hb]
  exact hx j u hu
end
/-- 's[k:]'. -/
theorem rt_from {P : Program} {w : World} {t0 sz n cap : Nat} {A : Option Addr} {xs : List Value} (t e : TypeId) (ht : P.underlying t = some (.slice e))
    (hi : ∃ i, P.info? e = some i ∧ i.size = sz) (h : Rt w t0 sz A n xs) (k : Nat) (hk : k ≤ n) (hc : n ≤ cap) (kd : IntKind) :
    ∃ A' c', (∀ W, (Instr.sliceAt t (.slice A n cap) (some (.int kd (k : Int))) none none).run P W = .ok (.slice A' (n - k) c') W) ∧ n - k ≤ c' ∧ Rt w t0 sz A' (n - k) (xs.drop (k * sz)) := by
  obtain ⟨i, hi, his⟩ := hi
  refine ⟨if cap = k then A else A.map (·.add (k * sz)), cap - k, fun W => ?_, by omega, by rw [List.length_drop, h.1, Nat.sub_mul], fun hn => ?_⟩
  · have h0 : (0 : Int) ≤ (k : Int) := Int.natCast_nonneg _
    have h1 : (k : Int) ≤ (n : Int) := by omega
    simp [Instr.sliceAt, Instr.slice, run_underlying ht, Instr.sliceBounds, Instr.sliceBound, asIntOf, h0, hk, sizeOf, typeInfo, hi, his]
  · obtain ⟨b, o, cs, fr, rfl, hb, hcell⟩ := h.2 (by omega)
    refine ⟨b, if cap = k then o else o + k * sz, cs, fr, ?_, hb, fun j u hu => ?_⟩
    · split
      · rfl
      · simp only [Option.map_some, Addr.add]
        split <;> simp_all
    · rw [List.getElem?_drop] at hu
      have := hcell _ u hu
      split
      · omega
      · rw [Nat.add_assoc]; exact this
theorem Try.info92 : (Try.prog.info? 92).map (fun i => (i.zero, i.size, i.bytes)) = some (some (.agg #[.int .i64 0, .int .u64 0, .bool false]), 3, 24) := by kernel_rfl
structure RLim (w : World) (g : Nat) (L : Lim) (A0 : Option Addr) (c0 : Nat) (A1 : Option Addr) (c1 : Nat) : Prop where
  blk : blkOf w g = some (.cells #[.int .u64 L.rate, .int .u64 L.burst, .int .u64 L.left, .slice A0 L.us.length c0, .slice A1 L.os.length c1, .int .i64 L.row] 51 (0, 0))
  rd0 : Rt w 92 3 A0 L.us.length (asks L.us)
  rd1 : Rt w 92 3 A1 L.os.length (asks L.os)
  cap0 : L.us.length ≤ c0
  cap1 : L.os.length ≤ c1
def RAt (w : World) (g : Nat) (L : Lim) : Prop := ∃ A0 c0 A1 c1, RLim w g L A0 c0 A1 c1
theorem RLim.chg {w w' : World} {g : Nat} {L : Lim} {A0 : Option Addr} {c0 : Nat} {A1 : Option Addr} {c1 : Nat} (h : RLim w g L A0 c0 A1 c1) {F : Nat → Prop} (hc : Chg F w w') (hF : ∀ k cs t fr, blkOf w k = some (.cells cs t fr) → (t = 51 ∨ t = 92) → ¬ F k) : RLim w' g L A0 c0 A1 c1 :=
  ⟨(hc.block g (Blk.lt h.blk) (hF g _ _ _ h.blk (.inl rfl))).trans h.blk, h.rd0.chg hc (fun k cs fr hk => hF k cs _ fr hk (.inr rfl)), h.rd1.chg hc (fun k cs fr hk => hF k cs _ fr hk (.inr rfl)), h.cap0, h.cap1⟩
theorem RAt.chg {w w' : World} {g : Nat} {L : Lim} (h : RAt w g L) {F : Nat → Prop} (hc : Chg F w w') (hF : ∀ k cs t fr, blkOf w k = some (.cells cs t fr) → (t = 51 ∨ t = 92) → ¬ F k) : RAt w' g L := by
  obtain ⟨A0, c0, A1, c1, h⟩ := h
  exact ⟨A0, c0, A1, c1, h.chg hc hF⟩
theorem RLim.eqv {w W : World} {g : Nat} {L : Lim} {A0 : Option Addr} {c0 : Nat} {A1 : Option Addr} {c1 : Nat} (h : RLim w g L A0 c0 A1 c1) (e : Eqv W w) : RLim W g L A0 c0 A1 c1 := ⟨(e.blk g).trans h.blk, h.rd0.eqv e, h.rd1.eqv e, h.cap0, h.cap1⟩
theorem RLim.below {w w' : World} {g : Nat} {L : Lim} {A0 : Option Addr} {c0 : Nat} {A1 : Option Addr} {c1 : Nat} (h : RLim w g L A0 c0 A1 c1) (hb : Below w.heap.size w w') : RLim w' g L A0 c0 A1 c1 := h.chg (F := fun _ => False) (Chg.of_below hb) (fun _ _ _ _ _ _ h => h)
/-- Of each sort: those that are urgent, and those that are not. -/
def Lim.Sorts (L : Lim) : Prop := (∀ a ∈ L.us, a.2.2 = true) ∧ (∀ a ∈ L.os, a.2.2 = false)
theorem Lim.Sorts.pick {L L' : Lim} {a : Ask} (h : L.Sorts) (hp : L.pick = some (a, L')) : L'.Sorts := by
  rcases ahead_cases L.us.length L.os.length L.row with e | e | e
  · rw [Lim.pick_none e] at hp; cases hp
  · obtain ⟨b, us, hu, hp'⟩ := Lim.pick_zero e
    rw [hp'] at hp
    simp only [Option.some.injEq, Prod.mk.injEq] at hp
    obtain ⟨rfl, rfl⟩ := hp
    exact ⟨fun c hc => h.1 c (by rw [hu]; simp [hc]), h.2⟩
  · obtain ⟨b, os, ho, hp'⟩ := Lim.pick_one e
    rw [hp'] at hp
    simp only [Option.some.injEq, Prod.mk.injEq] at hp
    obtain ⟨rfl, rfl⟩ := hp
    exact ⟨h.1, fun c hc => h.2 c (by rw [ho]; simp [hc])⟩

theorem rnew_ok (r b : Int) (w : World) (h0 : 0 < r) (h1 : r ≤ b) :
    Calls Try.prog 15 #[.int .u64 r, .int .u64 b] w fun e w' => e = .returned (.tuple #[.pointer (some ⟨w.heap.size, 0, none⟩), .int .i64 0]) ∧
      w' = w.alloc (.cells #[.int .u64 r, .int .u64 b, .int .u64 b, .slice none 0 0, .slice none 0 0, .int .i64 0] 51) := by
  refine calls_of fun R HR => ?_
  have e1 : (r == 0) = false := by simp; omega
  have e2 : (b == 0) = false := by simp; omega
  have e3 : ¬ b < r := by omega
  go_enter Try.func15, Try.ntmps15
  go_wp2
  exact HR.out _ _ ⟨rfl, rfl⟩
theorem rnew_no (r b : Int) (w : World) (h0 : 0 ≤ r) (h1 : 0 ≤ b) (h : ¬ (0 < r ∧ r ≤ b)) :
    Calls Try.prog 15 #[.int .u64 r, .int .u64 b] w fun e w' => e = .returned (.tuple #[.pointer none, .int .i64 1]) ∧ w' = w := by
  refine calls_of fun R HR => ?_
  by_cases e1 : r = 0
  · subst e1
    clear h
    go_enter Try.func15, Try.ntmps15
    go_wp2
    exact HR.out _ _ ⟨rfl, rfl⟩
  · by_cases e2 : b = 0
    · subst e2
      have e3 : (r == 0) = false := by simp; omega
      clear h
      go_enter Try.func15, Try.ntmps15
      go_wp2
      exact HR.out _ _ ⟨rfl, rfl⟩
    · have e3 : (r == 0) = false := by simp; omega
      have e4 : (b == 0) = false := by simp; omega
      have e5 : b < r := by omega
      clear h
      go_enter Try.func15, Try.ntmps15
      go_wp2
      exact HR.out _ _ ⟨rfl, rfl⟩
theorem rnew_at (r b : Int) (w : World) : RAt (w.alloc (.cells #[.int .u64 r, .int .u64 b, .int .u64 b, .slice none 0 0, .slice none 0 0, .int .i64 0] 51)) w.heap.size (Lim.new r b) :=
  ⟨none, 0, none, 0, blk_new _ _, Rt.nil _ _ _ _, Rt.nil _ _ _ _, Nat.le_refl _, Nat.le_refl _⟩

theorem next_no (g : Nat) (L : Lim) (A0 : Option Addr) (c0 : Nat) (A1 : Option Addr) (c1 : Nat) (w : World) (hp : RLim w g L A0 c0 A1 c1) (h : L.pick = none) :
    Calls Try.prog 43 #[.pointer (some ⟨g, 0, none⟩)] w fun e w' => e = .returned (.tuple #[.agg #[.int .i64 0, .int .u64 0, .bool false], .bool false]) ∧ Below w.heap.size w w' := by
  refine calls_of fun R HR => ?_
  have hb := hp.blk
  have lg := Blk.lt hb
  have h0 : L.us.length + L.os.length = 0 := by
    have e := Lim.pick_no h
    unfold ahead at e
    split at e
    · assumption
    · split at e <;> omega
  have hu : L.us.length = 0 := by omega
  have ho : L.os.length = 0 := by omega
  rw [hu, ho] at hb
  clear hp h h0 hu ho
  go_enter Try.func43, Try.ntmps43
  go_wp2
  refine bodyPost_ret (v := .tuple #[.agg #[.int .i64 0, .int .u64 0, .bool false], .bool false]) (by simp only [results, Try.results43]; go_simp) rfl (HR.out _ _ ⟨rfl, ?_⟩)
  exact bl_alloc (Below.refl _ _) _
/-- The cells of the first of some asks. -/
theorem first_at {w : World} {A : Option Addr} {a : Ask} {l : List Ask} {n : Nat} (h : Rt w 92 3 A n (asks (a :: l))) (hn : 0 < n) :
    ∃ b o, A = some ⟨b, o, none⟩ ∧ b < w.heap.size ∧ (blkOf w b).bind (cellAt o) = some (.int .i64 a.1) ∧ (blkOf w b).bind (cellAt (o + 1)) = some (.int .u64 a.2.1) ∧ (blkOf w b).bind (cellAt (o + 2)) = some (.bool a.2.2) := by
  obtain ⟨b, o, e, hlt⟩ := h.lt hn
  exact ⟨b, o, e, hlt, h.cell e hn (j := 0) rfl, h.cell e hn (j := 1) rfl, h.cell e hn (j := 2) rfl⟩
set_option maxHeartbeats 400000 in
theorem next_yes (g : Nat) (L L' : Lim) (a : Ask) (A0 : Option Addr) (c0 : Nat) (A1 : Option Addr) (c1 : Nat) (w : World) (hp : RLim w g L A0 c0 A1 c1) (h : L.pick = some (a, L')) :
    Calls Try.prog 43 #[.pointer (some ⟨g, 0, none⟩)] w fun e w' => e = .returned (.tuple #[.agg #[.int .i64 a.1, .int .u64 a.2.1, .bool a.2.2], .bool true]) ∧ Below w.heap.size w w' := by
  refine calls_of fun R HR => ?_
  have hb := hp.blk
  have lg := Blk.lt hb
  have hr0 := hp.rd0
  have hr1 := hp.rd1
  clear hp
  obtain ⟨x, y, z⟩ := a
  rcases ahead_cases L.us.length L.os.length L.row with e | e | e
  · rw [Lim.pick_none e] at h; cases h
  · obtain ⟨a', us, hu, hp'⟩ := Lim.pick_zero e
    rw [hp'] at h
    simp only [Option.some.injEq, Prod.mk.injEq] at h
    obtain ⟨rfl, rfl⟩ := h
    rw [hu] at hr0 hb
    obtain ⟨b, o, rfl, lb, k0, k1, k2⟩ := first_at hr0 (by simp)
    have hcond : L.os.length = 0 ∨ (¬ (L.os.length = 0) ∧ ¬ (10 ≤ L.row)) := by
      unfold ahead at e
      split at e
      · omega
      · split at e
        · omega
        · rename_i h9
          omega
    have hun : ((((x, y, z) :: us).length : Nat) : Int) = (us.length : Int) + 1 := by simp
    simp only [List.length_cons] at hb
    clear hr0 hr1 hp' hu e hun
    rcases hcond with ho | ⟨ho, hrw⟩
    · rw [ho] at hb
      go_enter Try.func43, Try.ntmps43
      go_wp2
      refine bodyPost_ret (v := .tuple #[.agg #[.int .i64 x, .int .u64 y, .bool z], .bool true]) (by simp only [results, Try.results43]; go_simp) rfl (HR.out _ _ ⟨rfl, ?_⟩)
      exact bl_alloc (Below.refl _ _) _
    · have ho2 : (0 : Int) < (L.os.length : Int) := by omega
      have ho3 : ((L.os.length : Int) == 0) = false := by rw [beq_eq_false_iff_ne]; omega
      go_enter Try.func43, Try.ntmps43
      go_wp2
      refine bodyPost_ret (v := .tuple #[.agg #[.int .i64 x, .int .u64 y, .bool z], .bool true]) (by simp only [results, Try.results43]; go_simp) rfl (HR.out _ _ ⟨rfl, ?_⟩)
      exact bl_alloc (Below.refl _ _) _
  · obtain ⟨a', os, ho, hp'⟩ := Lim.pick_one e
    rw [hp'] at h
    simp only [Option.some.injEq, Prod.mk.injEq] at h
    obtain ⟨rfl, rfl⟩ := h
    rw [ho] at hr1 hb
    obtain ⟨b, o, rfl, lb, k0, k1, k2⟩ := first_at hr1 (by simp)
    have hcond : L.us.length = 0 ∨ (¬ (L.us.length = 0) ∧ (10 ≤ L.row)) := by
      unfold ahead at e
      split at e
      · omega
      · split at e
        · rename_i h9
          omega
        · omega
    simp only [List.length_cons] at hb
    clear hr0 hr1 hp' ho e
    rcases hcond with ho | ⟨ho, hrw⟩
    · rw [ho] at hb
      go_enter Try.func43, Try.ntmps43
      go_wp2
      refine bodyPost_ret (v := .tuple #[.agg #[.int .i64 x, .int .u64 y, .bool z], .bool true]) (by simp only [results, Try.results43]; go_simp) rfl (HR.out _ _ ⟨rfl, ?_⟩)
      exact bl_alloc (Below.refl _ _) _
    · have ho2 : (0 : Int) < (L.us.length : Int) := by omega
      have ho3 : ((L.us.length : Int) == 0) = false := by rw [beq_eq_false_iff_ne]; omega
      go_enter Try.func43, Try.ntmps43
      go_wp2
      refine bodyPost_ret (v := .tuple #[.agg #[.int .i64 x, .int .u64 y, .bool z], .bool true]) (by simp only [results, Try.results43]; go_simp) rfl (HR.out _ _ ⟨rfl, ?_⟩)
      exact bl_alloc (Below.refl _ _) _
theorem next_yes_at {w : World} {g : Nat} {L L' : Lim} {a : Ask} {A0 : Option Addr} {c0 : Nat} {A1 : Option Addr} {c1 : Nat} (hp : RLim w g L A0 c0 A1 c1) (h : L.pick = some (a, L')) (W : World) (hW : Below w.heap.size w W) :
    Calls Try.prog 43 #[.pointer (some ⟨g, 0, none⟩)] W fun e w' => e = .returned (.tuple #[.agg #[.int .i64 a.1, .int .u64 a.2.1, .bool a.2.2], .bool true]) ∧ Below W.heap.size W w' :=
  next_yes g L L' a A0 c0 A1 c1 W (hp.below hW) h
theorem rat_mk {w w' : World} {g : Nat} {L' : Lim} {cs0 : Array Value} {A0 : Option Addr} {c0 : Nat} {A1 : Option Addr} {c1 : Nat} (hc : Chg (fun k => k = g) w w') (h0 : blkOf w g = some (.cells cs0 51 (0, 0)))
    (hb : blkOf w' g = some (.cells #[.int .u64 L'.rate, .int .u64 L'.burst, .int .u64 L'.left, .slice A0 L'.us.length c0, .slice A1 L'.os.length c1, .int .i64 L'.row] 51 (0, 0)))
    (r0 : Rt w 92 3 A0 L'.us.length (asks L'.us)) (r1 : Rt w 92 3 A1 L'.os.length (asks L'.os)) (q0 : L'.us.length ≤ c0) (q1 : L'.os.length ≤ c1) : RAt w' g L' := by
  have hF : ∀ k cs fr, blkOf w k = some (.cells cs 92 fr) → ¬ (k = g) := by
    rintro k cs fr hk rfl
    rw [h0] at hk
    injection hk with hk
    injection hk with _ ht
    exact absurd ht (by decide)
  exact ⟨A0, c0, A1, c1, hb, r0.chg hc hF, r1.chg hc hF, q0, q1⟩
set_option maxHeartbeats 800000 in
theorem rgoes (g : Nat) (L L' : Lim) (a : Ask) (A0 : Option Addr) (c0 : Nat) (A1 : Option Addr) (c1 : Nat) (w : World) (ok : L.Ok) (so : L.Sorts) (hp : RLim w g L A0 c0 A1 c1) (h : L.pick = some (a, L')) :
    Calls Try.prog 44 #[.pointer (some ⟨g, 0, none⟩)] w fun e w' => e = .returned (.agg #[.int .i64 a.1, .int .u64 a.2.1, .bool a.2.2]) ∧ RAt w' g L' ∧ Chg (fun k => k = g) w w' := by
  refine calls_of fun R HR => ?_
  have Hn := hid (next_yes_at hp h)
  have hb := hp.blk
  have lg := Blk.lt hb
  have hr0 := hp.rd0
  have hr1 := hp.rd1
  have hc0 := hp.cap0
  have hc1 := hp.cap1
  have hro := ok.row0
  have hrt := ok.row
  clear hp ok
  obtain ⟨x, y, z⟩ := a
  obtain ⟨i0, hi0, hz0, hz1, hz2⟩ := info_parts Try.info92
  rcases ahead_cases L.us.length L.os.length L.row with e | e | e
  · rw [Lim.pick_none e] at h; cases h
  · obtain ⟨a', us, hu, hp'⟩ := Lim.pick_zero e
    rw [hp'] at h
    simp only [Option.some.injEq, Prod.mk.injEq] at h
    obtain ⟨rfl, rfl⟩ := h
    have hz : z = true := so.1 (x, y, z) (by rw [hu]; simp)
    subst hz
    rw [hu] at hr0 hb hc0
    simp only [List.length_cons] at hb hc0 hr0
    obtain ⟨A', c', hsl, hc', hrd⟩ := rt_from (P := Try.prog) 49 92 Try.underlying49 ⟨i0, hi0, hz1⟩ hr0 1 (by omega) hc0 .i64
    have hx : (asks ((x, y, true) :: us)).drop (1 * 3) = asks us := rfl
    rw [hx] at hrd
    simp only [Nat.add_sub_cancel] at hsl hc' hrd
    replace hsl : ∀ W, (Instr.sliceAt 49 (.slice A0 (us.length + 1) c0) (some (.int .i64 1)) none none).run Try.prog W = .ok (.slice A' us.length c') W := hsl
    have Hrd := hid hrd; have Hr1 := hid hr1; have Hu := hid hu; have So := hid so
    clear hr0 hr1 hp' hu e hx hi0 hz0 hz1 hz2 hrd so
    by_cases ho : L.os.length = 0
    · have ho2 : ¬ ((0 : Int) < (L.os.length : Int)) := by omega
      go_enter Try.func44, Try.ntmps44
      go_wp2_with (go_at_call 43; refine (Hn.out _ ?_).mono ?_; exact bl_alloc (Below.refl _ _) _; rintro e w1 ⟨rfl, hb1⟩; have hk1 := bl_at hb1; have hz1 := hb1.size; simp only [World.size_drew, World.size_alloc, Nat.add_assoc, Nat.reduceAdd] at hk1 hz1; have q1 : g < w1.heap.size := (by omega); have q2 : w.heap.size < w1.heap.size := (by omega); have hbg := (hk1 g (by omega)).trans ((blk_past w _ g lg).trans hb); have hbr := (hk1 w.heap.size (by omega)).trans (blk_new w _); have ne1 : w.heap.size ≠ g := (by omega); have ne2 : w1.heap.size ≠ g := (by omega); have Hb1 := hid hb1; clear hb1)
      have hcg : ∀ x1 x2 x3 x4 x5 x6 x7 x8, Chg (fun k => k = g) w ((((((w1.setCell ⟨g, x6, none⟩ x7).setCell ⟨g, 5, none⟩ x8).setCell ⟨w.heap.size, 0, none⟩ x1).setCell ⟨w.heap.size, 1, none⟩ x2).setCell ⟨w.heap.size, 2, none⟩ x3).alloc (.cells x4 x5)) := by
        intro x1 x2 x3 x4 x5 x6 x7 x8
        refine Chg.alloc ?_ _
        repeat refine Chg.setCell ?_ (fun h => by simp at h ⊢) _
        exact Chg.below ((Chg.refl _ w).alloc _) Hb1.out
      refine bodyPost_ret (v := .agg #[.int .i64 x, .int .u64 y, .bool true]) (by simp only [results, Try.results44]; go_simp) rfl (HR.out _ _ ⟨rfl, rat_mk (hcg _ _ _ _ _ _ _ _) hb ?_ Hrd.out Hr1.out hc' hc1, hcg _ _ _ _ _ _ _ _⟩)
      dsimp only
      rw [if_pos ho]
      simp [go_sem, *]
    · have ho2 : ((0 : Int) < (L.os.length : Int)) := by omega
      go_enter Try.func44, Try.ntmps44
      go_wp2_with (go_at_call 43; refine (Hn.out _ ?_).mono ?_; exact bl_alloc (Below.refl _ _) _; rintro e w1 ⟨rfl, hb1⟩; have hk1 := bl_at hb1; have hz1 := hb1.size; simp only [World.size_drew, World.size_alloc, Nat.add_assoc, Nat.reduceAdd] at hk1 hz1; have q1 : g < w1.heap.size := (by omega); have q2 : w.heap.size < w1.heap.size := (by omega); have hbg := (hk1 g (by omega)).trans ((blk_past w _ g lg).trans hb); have hbr := (hk1 w.heap.size (by omega)).trans (blk_new w _); have ne1 : w.heap.size ≠ g := (by omega); have ne2 : w1.heap.size ≠ g := (by omega); have Hb1 := hid hb1; clear hb1)
      have hcg : ∀ x1 x2 x3 x4 x5 x6 x7 x8, Chg (fun k => k = g) w ((((((w1.setCell ⟨g, x6, none⟩ x7).setCell ⟨g, 5, none⟩ x8).setCell ⟨w.heap.size, 0, none⟩ x1).setCell ⟨w.heap.size, 1, none⟩ x2).setCell ⟨w.heap.size, 2, none⟩ x3).alloc (.cells x4 x5)) := by
        intro x1 x2 x3 x4 x5 x6 x7 x8
        refine Chg.alloc ?_ _
        repeat refine Chg.setCell ?_ (fun h => by simp at h ⊢) _
        exact Chg.below ((Chg.refl _ w).alloc _) Hb1.out
      refine bodyPost_ret (v := .agg #[.int .i64 x, .int .u64 y, .bool true]) (by simp only [results, Try.results44]; go_simp) rfl (HR.out _ _ ⟨rfl, rat_mk (hcg _ _ _ _ _ _ _ _) hb ?_ Hrd.out Hr1.out hc' hc1, hcg _ _ _ _ _ _ _ _⟩)
      dsimp only
      rw [if_neg ho]
      simp [go_sem, *]
  · obtain ⟨a', os, ho, hp'⟩ := Lim.pick_one e
    rw [hp'] at h
    simp only [Option.some.injEq, Prod.mk.injEq] at h
    obtain ⟨rfl, rfl⟩ := h
    have hz : z = false := so.2 (x, y, z) (by rw [ho]; simp)
    subst hz
    rw [ho] at hr1 hb hc1
    simp only [List.length_cons] at hb hc1 hr1
    obtain ⟨A', c', hsl, hc', hrd⟩ := rt_from (P := Try.prog) 49 92 Try.underlying49 ⟨i0, hi0, hz1⟩ hr1 1 (by omega) hc1 .i64
    have hx : (asks ((x, y, false) :: os)).drop (1 * 3) = asks os := rfl
    rw [hx] at hrd
    simp only [Nat.add_sub_cancel] at hsl hc' hrd
    replace hsl : ∀ W, (Instr.sliceAt 49 (.slice A1 (os.length + 1) c1) (some (.int .i64 1)) none none).run Try.prog W = .ok (.slice A' os.length c') W := hsl
    have Hrd := hid hrd; have Hr0 := hid hr0; have Ho := hid ho; have So := hid so
    clear hr0 hr1 hp' ho e hx hi0 hz0 hz1 hz2 hrd so
    go_enter Try.func44, Try.ntmps44
    go_wp2_with (go_at_call 43; refine (Hn.out _ ?_).mono ?_; exact bl_alloc (Below.refl _ _) _; rintro e w1 ⟨rfl, hb1⟩; have hk1 := bl_at hb1; have hz1 := hb1.size; simp only [World.size_drew, World.size_alloc, Nat.add_assoc, Nat.reduceAdd] at hk1 hz1; have q1 : g < w1.heap.size := (by omega); have q2 : w.heap.size < w1.heap.size := (by omega); have hbg := (hk1 g (by omega)).trans ((blk_past w _ g lg).trans hb); have hbr := (hk1 w.heap.size (by omega)).trans (blk_new w _); have ne1 : w.heap.size ≠ g := (by omega); have ne2 : w1.heap.size ≠ g := (by omega); have Hb1 := hid hb1; clear hb1)
    have hcg : ∀ x1 x2 x3 x4 x5 x6 x7 x8, Chg (fun k => k = g) w ((((((w1.setCell ⟨g, x6, none⟩ x7).setCell ⟨g, 5, none⟩ x8).setCell ⟨w.heap.size, 0, none⟩ x1).setCell ⟨w.heap.size, 1, none⟩ x2).setCell ⟨w.heap.size, 2, none⟩ x3).alloc (.cells x4 x5)) := by
      intro x1 x2 x3 x4 x5 x6 x7 x8
      refine Chg.alloc ?_ _
      repeat refine Chg.setCell ?_ (fun h => by simp at h ⊢) _
      exact Chg.below ((Chg.refl _ w).alloc _) Hb1.out
    refine bodyPost_ret (v := .agg #[.int .i64 x, .int .u64 y, .bool false]) (by simp only [results, Try.results44]; go_simp) rfl (HR.out _ _ ⟨rfl, rat_mk (hcg _ _ _ _ _ _ _ _) hb ?_ Hr0.out Hrd.out hc0 hc', hcg _ _ _ _ _ _ _ _⟩)
    dsimp only
    simp [go_sem, *]
end Go.Proofs.Ytbiaelaaihieeaa
