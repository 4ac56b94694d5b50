/- The cache of strings: an entry that waits no more: slices.DeleteFunc over pointers. -/
import Derived.Test.YtbiaelaaihieeaaSt1
import Derived.Laws.IdiomCopy
set_option linter.unusedVariables false
set_option linter.unusedSimpArgs false
set_option maxRecDepth 100000
namespace Go.Proofs.Ytbiaelaaihieeaa.Str
open Go.RowKit

/-- Block b is an entry. -/
def IsI (w : World) (b : Nat) : Prop := ∃ c, blkOf w b = some (.cells c 152 (0, 0))
theorem IsI.c {w : World} {b : Nat} (h : IsI w b) : IsC w b := by obtain ⟨c, h⟩ := h; exact ⟨c, _, h⟩
theorem ItAt.i {w : World} {b : Nat} {i : It} (h : ItAt w b i) : IsI w b := ⟨_, h⟩
theorem IsI.lt {w : World} {b : Nat} (h : IsI w b) : b < w.heap.size := by obtain ⟨c, h⟩ := h; exact Blk.lt h
theorem Try.info152 : (Try.prog.info? 152).map (fun i => i.size) = some 5 := by kernel_rfl
theorem info152 : ∃ i, Try.prog.info? 152 = some i ∧ i.size ≠ 0 := by
  have := Try.info152
  cases h : Try.prog.info? 152 with
  | none => rw [h] at this; cases this
  | some i => rw [h] at this; simp only [Option.map_some, Option.some.injEq] at this; exact ⟨i, rfl, by omega⟩
theorem eql_ptr {w : World} {y x : Nat} (hy : IsC w y) (hx : IsC w x) : (binOp .eql 149 (.pointer (some ⟨y, 0, none⟩)) (.pointer (some ⟨x, 0, none⟩))).run Try.prog w = .ok (.bool (decide (y = x))) w := by
  obtain ⟨i, hi, hs⟩ := info152
  by_cases h : y = x
  · subst h
    simpa using run_eql_ptr_same (P := Try.prog) w ⟨y, 0, none⟩ Try.underlying149 hi
  · obtain ⟨cy, ty, hy⟩ := hy
    obtain ⟨cx, tx, hx⟩ := hx
    have := run_eql_ptr_other (P := Try.prog) w (a := ⟨y, 0, none⟩) (b := ⟨x, 0, none⟩) Try.underlying149 hi hs (fun e => h (by injection e)) hy hx
    simpa [h] using this
theorem beq_any (y x q : Nat) (w : World) (hq : blkOf w q = some (.cells #[.pointer (some ⟨x, 0, none⟩)] 149 (0, 0))) (hy : IsC w y) (hx : IsC w x) :
    Calls Try.prog 96 #[.pointer (some ⟨y, 0, none⟩), .pointer (some ⟨q, 0, none⟩)] w fun e w' => e = .returned (.bool (decide (y = x))) ∧ w = w' := by
  refine calls_of fun R HR => ?_
  have he := eql_ptr hy hx
  clear hy hx
  obtain ⟨z, hz⟩ : ∃ z, z = decide (y = x) := ⟨_, rfl⟩
  rw [← hz] at he HR
  clear hz
  go_enter Try.func96, Try.ntmps96
  go_wp2
  exact HR.out _ _ ⟨rfl, rfl⟩
def ptrs (l : List Nat) : List Value := l.map fun b => .pointer (some ⟨b, 0, none⟩)
theorem ptrs_length (l : List Nat) : (ptrs l).length = l.length := by simp [ptrs]
theorem ptrs_one (l : List Nat) : ∀ u ∈ ptrs l, u.oneCell' = true := by
  intro u hu
  simp only [ptrs, List.mem_map] at hu
  obtain ⟨b, _, rfl⟩ := hu
  rfl
/-- One pointer of a row. -/
theorem ptr_at {w : World} {A : Option Addr} {n : Nat} {l : List Nat} (h : Rd w w.heap.size 1 A n (ptrs l)) {i : Nat} (hi : i < n) :
    ∃ b o, ∃ hl : i < l.length, A = some ⟨b, o, none⟩ ∧ b < w.heap.size ∧ (blkOf w b).bind (cellAt (o + i)) = some (.pointer (some ⟨l[i], 0, none⟩)) := by
  have hl : i < l.length := by have := h.1; rw [ptrs_length] at this; omega
  obtain ⟨b, o, rfl, hlt, hc⟩ := h.2 (by omega)
  exact ⟨b, o, hl, rfl, hlt, cell_at (hc i _ (by simp [ptrs, hl]))⟩
def PIndexRel (w : World) (x : Nat) (l : List Nat) (gk : Nat) (v8 : Value) (wr : World) : Prop :=
  ∃ i : Nat, i ≤ l.length ∧ gk = l.length - i ∧ v8 = .int .i64 i ∧ (∀ j (h : j < l.length), j < i → l[j] ≠ x) ∧ wr = w
set_option maxHeartbeats 800000 in
theorem pindex_any (A : Option Addr) (c : Nat) (l : List Nat) (x q : Nat) (w : World) (hr : Rd w w.heap.size 1 A l.length (ptrs l)) (hq : blkOf w q = some (.cells #[.pointer (some ⟨x, 0, none⟩)] 149 (0, 0))) (hl : ∀ y ∈ l, IsC w y) (hx : IsC w x) (hn : l.length ≤ maxLen) :
    Calls Try.prog 98 #[.slice A l.length c, .func (.func 96) #[] #[.pointer (some ⟨q, 0, none⟩)]] w fun e w' => w = w' ∧
      (((∀ y ∈ l, y ≠ x) ∧ e = .returned (.int .i64 (-1))) ∨ ∃ i, ∃ h : i < l.length, l[i] = x ∧ (∀ j (h : j < l.length), j < i → l[j] ≠ x) ∧ e = .returned (.int .i64 i)) := by
  refine calls_of fun R HR => ?_
  have Hr := hid hr; have Hl := hid hl
  simp only [maxLen] at hn
  clear hr hl
  go_enter Try.func98, Try.ntmps98
  go_wp2
  go_loopg [8] l.length (fun gk v8 wr => PIndexRel w x l gk v8 wr)
  case atStart => exact ⟨0, Nat.zero_le _, rfl, rfl, fun _ _ h => by omega, rfl⟩
  case round =>
    obtain ⟨i, hi, rfl, rfl, hno, rfl⟩ := hrel
    have Hno := hid hno
    clear hno
    by_cases hlt : i < l.length
    · obtain ⟨b, o, hl, rfl, lb, k0⟩ := ptr_at Hr.out hlt
      have hi0 : (0 : Int) ≤ (i : Int) := Int.natCast_nonneg _
      have hi1 : (i : Int) < (l.length : Int) := by omega
      obtain ⟨y, hy⟩ : ∃ y, y = l[i] := ⟨_, rfl⟩
      have hyc := Hl.out y (by rw [hy]; exact List.getElem_mem hlt)
      rw [← hy] at k0
      have Hb := hid (beq_any y x q wr hq hyc hx)
      have Hy := hid hy
      clear hy hyc
      by_cases hw : y = x
      · subst hw
        simp only [decide_true] at Hb
        go_wp2_with (go_at_call 96; refine Hb.out.mono ?_; rintro e w2 ⟨rfl, rfl⟩)
        exact HR.out _ _ ⟨rfl, .inr ⟨i, hl, Hy.out.symm, Hno.out, rfl⟩⟩
      · have hd : decide (y = x) = false := decide_eq_false hw
        simp only [hd] at Hb
        have Hw := hid hw
        clear hw hd
        go_wp2_with (go_at_call 96; refine Hb.out.mono ?_; rintro e w2 ⟨rfl, rfl⟩)
        go_roundg (l.length - (i + 1))
        case measure => omega
        case rel =>
          refine ⟨i + 1, by omega, rfl, by go_num, fun j h hj => ?_, rfl⟩
          rcases Nat.lt_or_ge j i with h' | h'
          · exact Hno.out j h h'
          · obtain rfl : j = i := by omega
            rw [← Hy.out]; exact Hw.out
    · obtain rfl : i = l.length := by omega
      go_wp2
      refine HR.out _ _ ⟨rfl, .inl ⟨fun y hy => ?_, rfl⟩⟩
      obtain ⟨j, hj, rfl⟩ := List.mem_iff_getElem.1 hy
      exact Hno.out j hj hj
/-- All but one. -/
def less (l : List Nat) (x : Nat) : List Nat := l.filter fun y => decide (y ≠ x)
theorem less_take {l : List Nat} {x i : Nat} (h : i < l.length) : less (l.take (i + 1)) x = less (l.take i) x ++ (if l[i] = x then [] else [l[i]]) := by
  unfold less
  rw [List.take_succ_eq_append_getElem h, List.filter_append]
  congr 1
  by_cases e : l[i] = x <;> simp [e]
theorem less_le (l : List Nat) (x : Nat) : (less l x).length ≤ l.length := List.length_filter_le _ _
theorem less_none {l : List Nat} {x : Nat} (h : ∀ y ∈ l, y ≠ x) : less l x = l := by
  unfold less
  rw [List.filter_eq_self]
  intro y hy
  simpa using h y hy
theorem less_first {x : Nat} {l : List Nat} {i : Nat} (h : i < l.length) (hw : l[i] = x) (hno : ∀ j (h : j < l.length), j < i → l[j] ≠ x) : less (l.take (i + 1)) x = l.take i := by
  rw [less_take h, if_pos hw, List.append_nil]
  refine less_none (fun y hy => ?_)
  obtain ⟨j, hj, rfl⟩ := List.mem_iff_getElem.1 hy
  rw [List.length_take] at hj
  rw [List.getElem_take]
  exact hno j (by omega) (by omega)
theorem Try.info149 : (Try.prog.info? 149).map (fun i => (i.zero, i.size, i.bytes)) = some (some (.pointer none), 1, 8) := by kernel_rfl
theorem zero149 (w : World) : (zeroValue 149).run Try.prog w = .ok (.pointer none) w := by kernel_rfl
theorem blk_setCells1 {b : Nat} {e : TypeId} {fr : Nat × Nat} : ∀ (vs : List Value) (o : Nat) (w : World) (cs : Array Value), blkOf w b = some (.cells cs e fr) →
    ∃ cs', blkOf (w.setCells b o vs) b = some (.cells cs' e fr) ∧ cs'.size = cs.size ∧ (∀ j, j < o → cs'[j]? = cs[j]?) ∧ Chg (fun k => k = b) w (w.setCells b o vs)
  | [], o, w, cs, h => ⟨cs, h, rfl, fun _ _ => rfl, Chg.refl _ _⟩
  | v :: r, o, w, cs, h => by
    have h1 : blkOf (w.setCell ⟨b, o, none⟩ v) b = some (.cells (cs.setIfInBounds o v) e fr) := by
      rw [blk_set_same, h]; rfl
    obtain ⟨cs', q1, q2, q3, q4⟩ := blk_setCells1 r (o + 1) _ _ h1
    refine ⟨cs', q1, by rw [q2]; simp, fun j hj => ?_, Chg.trans (Chg.setCell (F := fun k => k = b) (Chg.refl _ w) (p := ⟨b, o, none⟩) (fun _ => rfl) v) q4 (fun _ _ h => h) (fun _ _ h => h)⟩
    rw [q3 j (by omega), Array.getElem?_setIfInBounds_ne (by omega)]
/-- 'clear(s)' of some pointers. -/
theorem run_clear_ptrs {w : World} {b o n c : Nat} {cs : Array Value} (h : blkOf w b = some (.cells cs 149 (0, 0))) (hs : o + n ≤ cs.size) :
    ∃ w' cs', (∀ ty, (Builtin.clear_ #[145] ty #[.slice (some ⟨b, o, none⟩) n c]).run Try.prog w = .ok (.tuple #[]) w') ∧ blkOf w' b = some (.cells cs' 149 (0, 0)) ∧ cs'.size = cs.size ∧ (∀ j, j < o → cs'[j]? = cs[j]?) ∧ Chg (fun k => k = b) w w' := by
  rcases Nat.eq_zero_or_pos n with rfl | hn
  · exact ⟨w, cs, fun ty => by simp [Builtin.clear_, run_underlying Try.underlying145], h, rfl, fun _ _ => rfl, Chg.refl _ _⟩
  · obtain ⟨zs, hz⟩ : ∃ zs, zs = (Builtin.zeroCells (Value.pointer none).cells n).toList := ⟨_, rfl⟩
    have hzl : zs.length = n := by
      rw [hz]; simp [Builtin.zeroCells, Value.cells]
    have hz1 : ∀ v ∈ zs, v.oneCell' = true := by
      rw [hz]
      simp [Builtin.zeroCells, Value.cells]
      intro a ha
      rw [Nat.mod_one]; rfl
    have hst := run_storeCells_cells (P := Try.prog) b o zs 0 w (by
      intro j hj
      rw [Nat.add_zero, cell_of_row w b (o + j) cs 149 (0, 0) h]
      simp [Array.getElem?_eq_getElem (show o + j < cs.size by omega)]) (by
      intro j hj
      exact Blk.frozen (t := 149) h _) hz1
    obtain ⟨cs', q1, q2, q3, q4⟩ := blk_setCells1 zs o w cs h
    refine ⟨_, cs', fun ty => ?_, q1, q2, q3, q4⟩
    obtain ⟨m, rfl⟩ : ∃ m, n = m + 1 := ⟨n - 1, by omega⟩
    simp only [Nat.add_zero] at hst
    simp [Builtin.clear_, run_underlying Try.underlying145, zero149, ← hz, hst]
end Go.Proofs.Ytbiaelaaihieeaa.Str
