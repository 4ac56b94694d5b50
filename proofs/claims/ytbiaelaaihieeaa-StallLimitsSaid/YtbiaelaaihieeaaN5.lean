/- The document's limiter: drop; and two rows of numbers that are the same. -/
import Derived.Test.YtbiaelaaihieeaaN4
set_option linter.unusedVariables false
set_option linter.unusedSimpArgs false
set_option maxRecDepth 100000
namespace Go.Proofs.Ytbiaelaaihieeaa
open Go.RowKit

theorem asks_at (l : List Ask) (i : Nat) (h : i < l.length) (j : Nat) (hj : j < 3) : (asks l)[i * 3 + j]? = (askCells l[i])[j]? := by
  induction l generalizing i with
  | nil => simp at h
  | cons a l ih =>
    simp only [asks, List.flatMap_cons]
    cases i with
    | zero => rw [List.getElem?_append_left (by simp [askCells]; omega)]; simp
    | succ i =>
      rw [List.getElem?_append_right (by simp [askCells]; omega)]
      have := ih i (by simpa using h)
      simp only [asks] at this
      rw [show (i + 1) * 3 + j - (askCells a).length = i * 3 + j by simp [askCells]; omega, this]
      rfl
/-- The cells of one ask. -/
theorem ask_cells {w : World} {A : Option Addr} {n : Nat} {l : List Ask} (h : Rd w w.heap.size 3 A n (asks l)) {w' : World} (hb : Below w.heap.size w w') {i : Nat} (hi : i < n) :
    ∃ b o, ∃ hl : i < l.length, A = some ⟨b, o, none⟩ ∧ b < w.heap.size ∧ (blkOf w' b).bind (cellAt (o + i * 3)) = some (.int .i64 l[i].1) ∧ (blkOf w' b).bind (cellAt (o + i * 3 + 1)) = some (.int .u64 l[i].2.1) ∧
      (blkOf w' b).bind (cellAt (o + i * 3 + 2)) = some (.bool l[i].2.2) := by
  have hl : i < l.length := by have := h.1; rw [asks_length] at this; omega
  obtain ⟨b, o, rfl, hlt, hc⟩ := (h.below hb).2 (by omega)
  have h0 := hc (i * 3 + 0) _ ((asks_at l i hl 0 (by omega)).trans rfl)
  have h1 := hc (i * 3 + 1) _ ((asks_at l i hl 1 (by omega)).trans rfl)
  have h2 := hc (i * 3 + 2) _ ((asks_at l i hl 2 (by omega)).trans rfl)
  exact ⟨b, o, hl, rfl, hlt, cell_at h0, cell_at h1, cell_at h2⟩
/-- All asks but somebody's. -/
def keep (who : Int) (l : List Ask) : List Ask := l.filter fun a => decide (a.1 ≠ who)
theorem keep_take {who : Int} {l : List Ask} {i : Nat} (h : i < l.length) : keep who (l.take (i + 1)) = keep who (l.take i) ++ (if l[i].1 = who then [] else [l[i]]) := by
  unfold keep
  rw [List.take_succ_eq_append_getElem h, List.filter_append]
  by_cases he : l[i].1 = who <;> simp [he]
theorem keep_le (who : Int) (l : List Ask) : (keep who l).length ≤ l.length := List.length_filter_le _ _
def WithoutRel (w : World) (who : Int) (l : List Ask) (gk : Nat) (v5 v6 : Value) (wr : World) : Prop :=
  ∃ (i : Nat) (A : Option Addr) (c : Nat), i ≤ l.length ∧ gk = l.length - i ∧ v6 = .int .i64 i ∧ v5 = .slice A (keep who (l.take i)).length c ∧
    wr.ownsRow w.heap.size 92 3 (.slice A (keep who (l.take i)).length c) (keep who (l.take i)).length (asks (keep who (l.take i))) ∧ Below w.heap.size w wr
set_option maxHeartbeats 800000 in
theorem without_any (A : Option Addr) (c : Nat) (l : List Ask) (who : Int) (w : World) (hr : Rd w w.heap.size 3 A l.length (asks l)) (hn : l.length ≤ 4096) :
    Calls Try.prog 48 #[.slice A l.length c, .int .i64 who] w fun e w' => ∃ A' c', e = .returned (.slice A' (keep who l).length c') ∧
      w'.ownsRow w.heap.size 92 3 (.slice A' (keep who l).length c') (keep who l).length (asks (keep who l)) ∧ Below w.heap.size w w' := by
  refine calls_of fun R HR => ?_
  have Hr := hid hr; clear hr
  go_enter Try.func48, Try.ntmps48
  go_wp2
  go_loopg [5, 6] l.length (fun gk v5 v6 wr => WithoutRel w who l gk v5 v6 wr)
  case atStart => exact ⟨0, none, 0, Nat.zero_le _, rfl, rfl, rfl, World.ownsRow_nil _ _ _ _, Below.refl _ _⟩
  case round =>
    obtain ⟨i, A5, c5, hi, rfl, rfl, rfl, hown, hbl⟩ := hrel
    obtain ⟨wo, hwo⟩ : ∃ wo : World, wo = wr := ⟨_, rfl⟩
    subst hwo
    by_cases hlt : i < l.length
    · obtain ⟨b, o, hl, rfl, lb, k0, k1, k2⟩ := ask_cells Hr.out hbl hlt
      have hi0 : (0 : Int) ≤ (i : Int) := Int.natCast_nonneg _
      have hi1 : (i : Int) < (l.length : Int) := by omega
      have htk := keep_take (who := who) hl
      have htl := keep_le who (l.take i)
      rw [List.length_take] at htl
      obtain ⟨⟨x, y, z⟩, hx⟩ : ∃ x, x = l[i] := ⟨_, rfl⟩
      rw [← hx] at k0 k1 k2 htk
      dsimp only at k0 k1 k2 htk
      clear hx
      have Hown := hid hown; have Hbl := hid hbl
      have hsz := hbl.size
      clear hown hbl
      obtain ⟨i0, hi0', hz0, hz1, hz2⟩ := info_parts Try.info92
      by_cases hxw : x = who
      · subst hxw
        rw [if_pos rfl, List.append_nil] at htk
        have Htk := hid htk
        clear htk
        go_wp2
        go_roundg (l.length - (i + 1))
        case measure => omega
        case rel => exact ⟨i + 1, A5, c5, by omega, rfl, by go_num, by rw [Htk.out], by rw [Htk.out]; exact Hown.out, Hbl.out⟩
      · rw [if_neg hxw] at htk
        have Htk := hid htk
        clear htk
        have hxw2 : (x == who) = false := by rw [beq_eq_false_iff_ne]; exact hxw
        go_wp2_with (at_builtin; refine wpList_append_rd _ rfl (.tmp 20) (.tmp 25) _ rfl w.heap.size 92 i0 _ 3 24 Try.underlying49 hi0' hz0 hz1 hz2 rfl (by decide) (.slice A5 (keep who (l.take i)).length c5) (keep who (l.take i)).length (asks (keep who (l.take i))) rfl ?ho (wo.heap.size + 1) (some ⟨wo.heap.size, 0, none⟩) 1 1 (askCells (x, y, z)) rfl ?hr ?h1 ?h63 ?hb ?hbase ?hk; case' hk => (intro v2 w2 hown2 hg2 hat2; obtain ⟨A3, c3, rfl, _⟩ := own_shape hown2))
        case ho => exact Hown.out.alloc _
        case hr => exact rd_new wo 92 3 1 (askCells (x, y, z)) rfl
        case h1 => simp [askCells, Value.oneCell']
        case h63 => simp only [maxLen]; omega
        case hb => omega
        case hbase => simp; omega
        go_roundg (l.length - (i + 1))
        case measure => omega
        case rel =>
          have e : (keep who (l.take i) ++ [(x, y, z)]).length = (keep who (l.take i)).length + 1 := by simp
          refine ⟨i + 1, A3, c3, by omega, rfl, by go_num, by rw [Htk.out, e], ?_, ?_⟩
          · rw [Htk.out, e]; simpa [asks] using hown2
          · exact bl_grown (bl_alloc Hbl.out _) hg2 (fun k hk => (Hown.out.lt k hk).1)
    · obtain rfl : i = l.length := by omega
      rw [List.take_length] at hown ⊢
      have Hown := hid hown; have Hbl := hid hbl
      clear hown hbl
      go_wp2
      exact HR.out _ _ ⟨A5, c5, rfl, Hown.out, Hbl.out⟩
end Go.Proofs.Ytbiaelaaihieeaa
