/- The limiter of stall, as lists. -/
import Derived.Test.YtbiaelaaihieeaaRows
import Derived.Test.YtbiaelaaihieeaaG
import Derived.Laws.Externs
set_option linter.unusedVariables false
set_option linter.unusedSimpArgs false
set_option maxRecDepth 100000
namespace Go.Proofs.Ytbiaelaaihieeaa
open Go.RowKit

/-- Who asks, for how much, and whether it is urgent. -/
abbrev Ask := Int × Int × Bool
structure Lim where
  rate : Int
  burst : Int
  left : Int
  row : Int
  us : List Ask
  os : List Ask
def askCells (a : Ask) : List Value := [.int .i64 a.1, .int .u64 a.2.1, .bool a.2.2]
def asks (l : List Ask) : List Value := l.flatMap askCells
theorem asks_length (l : List Ask) : (asks l).length = l.length * 3 := by
  induction l with
  | nil => rfl
  | cons a l ih => simp only [asks, List.flatMap_cons, List.length_append, List.length_cons] at *; rw [ih]; simp [askCells]; omega
theorem asks_one (l : List Ask) : ∀ u ∈ asks l, u.oneCell' = true := by
  intro u hu
  simp only [asks, List.mem_flatMap] at hu
  obtain ⟨a, _, ha⟩ := hu
  simp only [askCells, List.mem_cons, List.not_mem_nil, or_false] at ha
  rcases ha with rfl | rfl | rfl <;> rfl

/-- 0: the first urgent one is ahead of all; 1: the first other one; -1: nobody waits. -/
def ahead (nu no : Nat) (row : Int) : Int := if nu + no = 0 then -1 else if nu = 0 ∨ (0 < no ∧ 10 ≤ row) then 1 else 0

theorem Try.info87 : (Try.prog.info? 87).map (fun i => (i.zero, i.size, i.bytes)) = some (some (.agg #[.int .i64 0, .int .u64 0, .bool false]), 3, 24) := by kernel_rfl

theorem made_nil (w : World) (base : Nat) (e : TypeId) (sz : Nat) (hb : base ≤ w.heap.size) : (w.alloc (.cells #[] e)).ownsRow base e sz (.slice (some ⟨w.heap.size, 0, none⟩) 0 0) 0 [] :=
  World.ownsRow_made w #[] 0 hb (by simp [maxLen]) (by simp)

/-- slices.Clone of asks: a row of its own. -/
theorem clone_ask (A : Option Addr) (n c : Nat) (xs : List Value) (w : World) (hr : Rd w w.heap.size 3 A n xs) (h1 : ∀ u ∈ xs, u.oneCell' = true) (hn : n ≤ 4096) :
    Calls Try.prog 46 #[.slice A n c] w fun e w' => ∃ A' c', e = .returned (.slice A' n c') ∧ w'.ownsRow w.heap.size 87 3 (.slice A' n c') n xs ∧ Below w.heap.size w w' := by
  refine calls_of fun R HR => ?_
  have H1 := hid h1; clear h1
  have heq := fun W => Lib.run_eql_slice_nil (P := Try.prog) W 81 87 A n c 0 0 Try.underlying81
  obtain ⟨i0, hi0, hz0, hz1, hz2⟩ := info_parts Try.info87
  go_enter Try.func46, Try.ntmps46
  go_wp2_with (first
    | (at_builtin; refine wpList_append_rd _ rfl (.tmp 5) (.tmp 6) _ rfl w.heap.size 87 i0 _ 3 24 Try.underlying81 hi0 hz0 hz1 hz2 rfl (by decide) (.slice (some ⟨w.heap.size, 0, none⟩) 0 0) 0 [] rfl (made_nil _ _ _ _ (Nat.le_refl _)) w.heap.size A n c xs rfl (hr.alloc (Nat.le_refl _) _) H1.out (by simp only [maxLen]; omega) (by omega) (by simp) ?_; intro v1 w1 hown1 hg1 hat1))
  · have hA : A = none := by cases A <;> simp_all
    subst hA
    have h0 : n = 0 := by
      rcases Nat.eq_zero_or_pos n with h | h
      · exact h
      · obtain ⟨b, o, e, _⟩ := hr.2 h
        cases e
    subst h0
    have hx : xs = [] := List.eq_nil_of_length_eq_zero (by simpa using hr.1)
    subst hx
    refine HR.out _ _ ?_
    exact ⟨_, _, rfl, World.ownsRow_nil _ _ _ _, Below.refl _ _⟩
  · obtain ⟨A2, c2, rfl, _⟩ := own_shape hown1
    simp only [Nat.zero_add, List.nil_append] at *
    refine HR.out _ _ ?_
    exact ⟨A2, c2, rfl, hown1, ((Below.refl _ _).alloc (Nat.le_refl _) _).grown hg1 (by simp) (by simp [Value.ownBlock])⟩

variable {B : Nat}
/-- A limiter of the program: its cells; its two rows are its own. -/
structure PLim (B : Nat) (w : World) (g : Nat) (L : Lim) (A0 : Option Addr) (c0 : Nat) (A1 : Option Addr) (c1 : Nat) : Prop where
  blk : blkOf w g = some (.cells #[.int .u64 L.rate, .int .u64 L.burst, .int .u64 L.left, .slice A0 L.us.length c0, .slice A1 L.os.length c1, .int .i64 L.row] 84 (0, 0))
  own0 : w.ownsRow B 87 3 (.slice A0 L.us.length c0) L.us.length (asks L.us)
  own1 : w.ownsRow B 87 3 (.slice A1 L.os.length c1) L.os.length (asks L.os)
  apart : (Value.slice A0 L.us.length c0).ownBlock = none ∨ (Value.slice A0 L.us.length c0).ownBlock ≠ (Value.slice A1 L.os.length c1).ownBlock
  base : B ≤ g
/-- What holds of a limiter at any time. -/
structure Lim.Ok (L : Lim) : Prop where
  rate : 0 < L.rate
  burst : L.rate ≤ L.burst
  most : L.burst < 18446744073709551616
  left0 : 0 ≤ L.left
  left : L.left ≤ L.burst
  row0 : 0 ≤ L.row
  row : L.row ≤ 10
  many : L.us.length + L.os.length ≤ 4096
  us : ∀ a ∈ L.us, a.2.2 = true ∧ 0 ≤ a.2.1 ∧ a.2.1 ≤ L.burst
  os : ∀ a ∈ L.os, a.2.2 = false ∧ 0 ≤ a.2.1 ∧ a.2.1 ≤ L.burst

set_option maxHeartbeats 400000 in
theorem ahead_any (g : Nat) (A0 A1 : Option Addr) (n0 c0 n1 c1 : Nat) (r b l row : Int) (w : World)
   (hb : blkOf w g = some (.cells #[.int .u64 r, .int .u64 b, .int .u64 l, .slice A0 n0 c0, .slice A1 n1 c1, .int .i64 row] 84 (0, 0)))
   (b0 : n0 ≤ 4096) (b1 : n1 ≤ 4096) :
    Calls Try.prog 41 #[.pointer (some ⟨g, 0, none⟩)] w fun e w' => e = .returned (.int .i64 (ahead n0 n1 row)) ∧ ∃ n, w' = w.drewN n := by
  refine calls_of fun R HR => ?_
  go_enter Try.func41, Try.ntmps41
  go_wp2
  go_quiet (fail)
  by_cases h0 : n0 = 0
  · by_cases h1 : n1 = 0
    · subst h0; subst h1
      go_wp2
      exact HR.out _ _ ⟨by simp [ahead], _, rfl⟩
    · subst h0
      have hne : ((n1 : Int) == 0) = false := by simp; omega
      go_wp2
      exact HR.out _ _ ⟨by simp [ahead]; omega, _, rfl⟩
  · have hne : ((n0 : Int) == 0) = false := by simp; omega
    have hne2 : ((n0 : Int) + (n1 : Int) == 0) = false := by simp; omega
    by_cases h1 : 0 < n1 ∧ 10 ≤ row
    · obtain ⟨h1, h2⟩ := h1
      have h3 : (0 : Int) < n1 := by omega
      go_wp2
      exact HR.out _ _ ⟨by simp [ahead]; omega, _, rfl⟩
    · by_cases h2 : 0 < n1
      · have h3 : ¬ 10 ≤ row := by omega
        clear h1
        go_wp2
        exact HR.out _ _ ⟨by simp [ahead]; omega, _, rfl⟩
      · have h3 : ¬ (0 : Int) < n1 := by omega
        clear h1
        go_wp2
        exact HR.out _ _ ⟨by simp [ahead]; omega, _, rfl⟩

theorem own_cells_pos {w : World} {base e n c : Nat} {A : Option Addr} {xs : List Value} (h : w.ownsRow base e 3 (.slice A n c) n xs) (hn : 0 < n) : ∃ b, A = some ⟨b, 0, none⟩ ∧ b < w.heap.size := by
  obtain ⟨b, cap, hv, _, hlt⟩ := h.form hn
  exact ⟨b, by injection hv, hlt⟩

set_option maxHeartbeats 400000 in
/-- The first urgent one goes. -/
theorem goes0 (g : Nat) (L : Lim) (A0 : Option Addr) (c0 : Nat) (A1 : Option Addr) (c1 : Nat) (a : Ask) (us : List Ask) (w : World) (hL : L.us = a :: us) (ok : L.Ok) (hp : PLim B w g L A0 c0 A1 c1) :
    Calls Try.prog 42 #[.pointer (some ⟨g, 0, none⟩), .int .i64 0] w fun e w' => ∃ A' c', e = .returned (.agg #[.int .i64 a.1, .int .u64 a.2.1, .bool a.2.2]) ∧
      PLim B w' g { L with us := us, row := if L.os.length = 0 then 0 else L.row + 1 } A' c' A1 c1 ∧ Chg (fun k => k = g) w w' := by
  obtain ⟨rate, burst, left, row, us0, os⟩ := L
  simp only at hL
  subst hL
  obtain ⟨hb, hr, hr1, hap, hbs⟩ := hp
  have hn := ok.many
  have hrow := ok.row0
  have hrow2 := ok.row
  clear ok
  dsimp only at hb hr hr1 hap hn hrow hrow2 ⊢
  simp only [List.length_cons] at hb hr hap hn ⊢
  generalize hno : os.length = n1 at *
  obtain ⟨x, y, z⟩ := a
  obtain ⟨b, rfl, lb⟩ := own_cells_pos hr (by omega)
  have hcap := (own_cap hr).2
  refine calls_of fun R HR => ?_
  have k0 := cell_at ((hr.cellAt 0 (by omega)).trans (show _ = some (Value.int .i64 x) from rfl))
  have k1 := cell_at ((hr.cellAt 1 (by omega)).trans (show _ = some (Value.int .u64 y) from rfl))
  have k2 := cell_at ((hr.cellAt 2 (by omega)).trans (show _ = some (Value.bool z) from rfl))
  have lg : g < w.heap.size := Blk.lt hb
  obtain ⟨i0, hi0, hz0, hz1, hz2⟩ := info_parts Try.info87
  obtain ⟨A', c', hsl, hc', hrd⟩ := rd_from (P := Try.prog) 81 87 Try.underlying81 ⟨i0, hi0, hz1⟩ (Rd.of_own hr) 1 (by omega) hcap .i64
  clear hi0 hz0 hz1 hz2
  have hx : (asks ((x, y, z) :: us)).drop (1 * 3) = asks us := rfl
  rw [hx] at hrd
  clear hx
  simp only [Nat.add_sub_cancel] at hsl hc' hrd
  replace hsl : ∀ W, (Instr.sliceAt 81 (.slice (some ⟨b, 0, none⟩) (us.length + 1) c0) (some (.int .i64 1)) none none).run Try.prog W = .ok (.slice A' us.length c') W := hsl
  have Hcl := hid (fun (W : World) (hW : Below w.heap.size w W) => clone_ask A' us.length c' (asks us) W (hrd.later hW) (asks_one us) (by omega))
  have Hno := hid hno; clear hno
  have Hr1 := hid hr1; clear hr1
  have Hap := hid hap; clear hap
  go_enter Try.func42, Try.ntmps42
  go_wp2_with fail
  go_region_with
    ((go_at_call 46; refine (Hcl.out _ ?_).mono ?_; (repeat (first | exact Below.refl _ _ | apply Below.drew | apply bl_drewN | apply bl_alloc)); rintro e w1 ⟨A1', c1', rfl, hown1, hb1⟩; have hk1 := bl_at hb1; have hz1 := hb1.size; simp only [World.size_drew, World.size_alloc, Nat.add_assoc, Nat.reduceAdd] at hk1 hz1))
  have ne1 : w.heap.size ≠ g := by omega
  have ne2 : w.heap.size + 1 ≠ g := by omega
  have hwb : Below w.heap.size w w1 := bl_then (((Below.refl _ _).alloc (Nat.le_refl _) _).alloc (by simp) _).drew hb1
  go_wp2
  all_goals
    refine bodyPost_ret (v := .agg #[.int .i64 x, .int .u64 y, .bool z]) (by simp only [results, Try.results42]; go_simp) rfl (HR.out _ _ ⟨A1', c1', rfl, ⟨?_, ?_, ?_, ?_, hbs⟩, ?_⟩)
  all_goals first | (have hz : n1 = 0 := by simpa using ‹((n1 : Int) == 0) = true›) | (have hz : ¬ n1 = 0 := by simpa using ‹((n1 : Int) == 0) = false›)
  case refine_1 => simp only [Hno.out]; simp [go_sem, *]
  case refine_1 => simp only [Hno.out]; simp [go_sem, *]
  case refine_2 => (repeat refine own_set ?_ (fun e => by have := (hown1.lt _ e).1; simp at this; omega) _); exact own_base hown1 (by simp; omega)
  case refine_2 => (repeat refine own_set ?_ (fun e => by have := (hown1.lt _ e).1; simp at this; omega) _); exact own_base hown1 (by simp; omega)
  case refine_3 => obtain rfl := Hno.out; (repeat refine own_set ?_ (fun e => by first | exact own_ne_blk Hr1.out hb (by decide) e | (have := own_lt Hr1.out e; simp at this)) _); exact own_below Hr1.out hwb
  case refine_3 => obtain rfl := Hno.out; (repeat refine own_set ?_ (fun e => by first | exact own_ne_blk Hr1.out hb (by decide) e | (have := own_lt Hr1.out e; simp at this)) _); exact own_below Hr1.out hwb
  case refine_4 => obtain rfl := Hno.out; exact own_new_ne Hr1.out hown1 (by simp; omega)
  case refine_4 => obtain rfl := Hno.out; exact own_new_ne Hr1.out hown1 (by simp; omega)
  all_goals (repeat refine Chg.setCell ?_ (fun h => by simp at h ⊢) _); exact (Chg.of_below hwb)
set_option maxHeartbeats 400000 in
/-- The first other one goes. -/
theorem goes1 (g : Nat) (L : Lim) (A0 : Option Addr) (c0 : Nat) (A1 : Option Addr) (c1 : Nat) (a : Ask) (os : List Ask) (w : World) (hL : L.os = a :: os) (ok : L.Ok) (hp : PLim B w g L A0 c0 A1 c1) :
    Calls Try.prog 42 #[.pointer (some ⟨g, 0, none⟩), .int .i64 1] w fun e w' => ∃ A' c', e = .returned (.agg #[.int .i64 a.1, .int .u64 a.2.1, .bool a.2.2]) ∧
      PLim B w' g { L with os := os, row := 0 } A0 c0 A' c' ∧ Chg (fun k => k = g) w w' := by
  obtain ⟨rate, burst, left, row, us, os0⟩ := L
  simp only at hL
  subst hL
  obtain ⟨hb, hr1, hr, hap, hbs⟩ := hp
  have hn := ok.many
  have hrow := ok.row0
  have hrow2 := ok.row
  clear ok
  dsimp only at hb hr hr1 hap hn hrow hrow2 ⊢
  simp only [List.length_cons] at hb hr hap hn ⊢
  generalize hno : us.length = n1 at *
  obtain ⟨x, y, z⟩ := a
  obtain ⟨b, rfl, lb⟩ := own_cells_pos hr (by omega)
  have hcap := (own_cap hr).2
  refine calls_of fun R HR => ?_
  have k0 := cell_at ((hr.cellAt 0 (by omega)).trans (show _ = some (Value.int .i64 x) from rfl))
  have k1 := cell_at ((hr.cellAt 1 (by omega)).trans (show _ = some (Value.int .u64 y) from rfl))
  have k2 := cell_at ((hr.cellAt 2 (by omega)).trans (show _ = some (Value.bool z) from rfl))
  have lg : g < w.heap.size := Blk.lt hb
  obtain ⟨i0, hi0, hz0, hz1, hz2⟩ := info_parts Try.info87
  obtain ⟨A', c', hsl, hc', hrd⟩ := rd_from (P := Try.prog) 81 87 Try.underlying81 ⟨i0, hi0, hz1⟩ (Rd.of_own hr) 1 (by omega) hcap .i64
  clear hi0 hz0 hz1 hz2
  have hx : (asks ((x, y, z) :: os)).drop (1 * 3) = asks os := rfl
  rw [hx] at hrd
  clear hx
  simp only [Nat.add_sub_cancel] at hsl hc' hrd
  replace hsl : ∀ W, (Instr.sliceAt 81 (.slice (some ⟨b, 0, none⟩) (os.length + 1) c1) (some (.int .i64 1)) none none).run Try.prog W = .ok (.slice A' os.length c') W := hsl
  have Hcl := hid (fun (W : World) (hW : Below w.heap.size w W) => clone_ask A' os.length c' (asks os) W (hrd.later hW) (asks_one os) (by omega))
  have Hno := hid hno; clear hno
  have Hr1 := hid hr1; clear hr1
  have Hap := hid hap; clear hap
  go_enter Try.func42, Try.ntmps42
  go_wp2_with fail
  go_region_with
    ((go_at_call 46; refine (Hcl.out _ ?_).mono ?_; (repeat (first | exact Below.refl _ _ | apply Below.drew | apply bl_drewN | apply bl_alloc)); rintro e w1 ⟨A1', c1', rfl, hown1, hb1⟩; have hk1 := bl_at hb1; have hz1 := hb1.size; simp only [World.size_drew, World.size_alloc, Nat.add_assoc, Nat.reduceAdd] at hk1 hz1))
  have ne1 : w.heap.size ≠ g := by omega
  have ne2 : w.heap.size + 1 ≠ g := by omega
  have hwb : Below w.heap.size w w1 := bl_then (((Below.refl _ _).alloc (Nat.le_refl _) _).alloc (by simp) _).drew hb1
  go_wp2
  refine bodyPost_ret (v := .agg #[.int .i64 x, .int .u64 y, .bool z]) (by simp only [results, Try.results42]; go_simp) rfl (HR.out _ _ ⟨A1', c1', rfl, ⟨?_, ?_, ?_, ?_, hbs⟩, ?_⟩)
  case refine_1 => simp only [Hno.out]; simp [go_sem, *]
  case refine_2 => obtain rfl := Hno.out; (repeat refine own_set ?_ (fun e => by first | exact own_ne_blk Hr1.out hb (by decide) e | (have := own_lt Hr1.out e; simp at this)) _); exact own_below Hr1.out hwb
  case refine_3 => (repeat refine own_set ?_ (fun e => by have := (hown1.lt _ e).1; simp at this; omega) _); exact own_base hown1 (by simp; omega)
  case refine_4 =>
    obtain rfl := Hno.out
    show (Value.slice A0 us.length c0).ownBlock = none ∨ (Value.slice A0 us.length c0).ownBlock ≠ (Value.slice A1' os.length c1').ownBlock
    rcases own_new_ne Hr1.out hown1 (by simp; omega) with e | e
    · cases hv : (Value.slice A0 us.length c0).ownBlock with
      | none => exact .inl rfl
      | some k => exact .inr (by rw [e]; simp)
    · exact .inr (Ne.symm e)
  all_goals (repeat refine Chg.setCell ?_ (fun h => by simp at h ⊢) _); exact (Chg.of_below hwb)

/-- A sum that stops at the greatest number. -/
def plusS (a b : Int) : Int := if a + b < 18446744073709551616 then a + b else 18446744073709551615
def sumLow (a b : Int) : Int := (a + b + 0) % 18446744073709551616
def sumHigh (a b : Int) : Int := (a + b + 0) / 18446744073709551616
theorem sum_small {a b : Int} (ha : 0 ≤ a) (hb : 0 ≤ b) (h : a + b < 18446744073709551616) : sumHigh a b = 0 ∧ sumLow a b = plusS a b := by
  unfold sumHigh sumLow plusS; rw [if_pos h]; omega
theorem sum_great {a b : Int} (ha : 0 ≤ a) (hb : 0 ≤ b) (h : ¬ a + b < 18446744073709551616) : 0 < sumHigh a b ∧ plusS a b = 18446744073709551615 := by
  unfold sumHigh plusS; rw [if_neg h]; omega
theorem run_add (a b : Int) (ha : 0 ≤ a) (hb : 0 ≤ b) (w : World) : (callFunc 73 #[.int .u64 a, .int .u64 b, .int .u64 0]).run Try.prog w = .ok (.value (.tuple #[.int .u64 (sumLow a b), .int .u64 (sumHigh a b)])) w := by
  rw [run_callFunc_extern Try.func73 (by kernel_rfl) (by kernel_rfl) (by kernel_rfl) (e := add64Entry) (by kernel_rfl), run_add64 a b 0 ha hb (by omega) (by omega)]
  rfl
set_option maxHeartbeats 400000 in
theorem plus_any (a b : Int) (w : World) (ha : 0 ≤ a) (hb : 0 ≤ b) : Calls Try.prog 40 #[.int .u64 a, .int .u64 b] w fun e w' => e = .returned (.int .u64 (plusS a b)) ∧ w = w' := by
  refine calls_of fun R HR => ?_
  have hr := fun W => run_add a b ha hb W
  by_cases h : a + b < 18446744073709551616
  · obtain ⟨h1, h2⟩ := sum_small ha hb h
    have h3 : ¬ (0 < sumHigh a b) := by omega
    have H2 := hid h2
    clear h h1 h2
    go_enter Try.func40, Try.ntmps40
    go_wp2_with fail
    exact HR.out _ _ ⟨by rw [← H2.out], rfl⟩
  · obtain ⟨h1, h2⟩ := sum_great ha hb h
    have H2 := hid h2
    clear h h2
    go_enter Try.func40, Try.ntmps40
    go_wp2_with fail
    exact HR.out _ _ ⟨by rw [H2.out]; rfl, rfl⟩

/-- The first one ahead of all, and the limiter behind it. -/
def Lim.pick (L : Lim) : Option (Ask × Lim) :=
  if L.us.length + L.os.length = 0 then none
  else if L.us.length = 0 ∨ (0 < L.os.length ∧ 10 ≤ L.row) then (match L.os with
    | a :: os => some (a, { L with os := os, row := 0 })
    | [] => none)
  else (match L.us with
    | a :: us => some (a, { L with us := us, row := if L.os.length = 0 then 0 else L.row + 1 })
    | [] => none)
/-- Those go for whom there is enough left. -/
def Lim.steps : Nat → Lim → List Int × Lim
  | 0, L => ([], L)
  | n + 1, L => match L.pick with
    | none => ([], L)
    | some (a, L') => if L.left < a.2.1 then ([], L) else
      (a.1 :: (Lim.steps n { L' with left := L.left - a.2.1 }).1, (Lim.steps n { L' with left := L.left - a.2.1 }).2)
def Lim.fill (L : Lim) : Lim := { L with left := if L.left + L.rate ≤ L.burst then L.left + L.rate else L.burst }
def Lim.step (L : Lim) : List Int × Lim := Lim.steps (L.us.length + L.os.length + 1) L.fill
def Lim.waits : Nat → Lim → List Int
  | 0, _ => []
  | n + 1, L => match L.pick with
    | none => []
    | some (a, L') => a.1 :: Lim.waits n L'
def Lim.waiting (L : Lim) : List Int := Lim.waits (L.us.length + L.os.length + 1) L

/-- What picking leaves. -/
theorem Lim.pick_none {L : Lim} (h : ahead L.us.length L.os.length L.row = -1) : L.pick = none := by
  unfold ahead at h
  unfold Lim.pick
  split at h
  · rw [if_pos ‹_›]
  · split at h <;> omega
theorem Lim.pick_one {L : Lim} (h : ahead L.us.length L.os.length L.row = 1) : ∃ a os, L.os = a :: os ∧ L.pick = some (a, { L with os := os, row := 0 }) := by
  unfold ahead at h
  split at h
  · omega
  split at h
  · rename_i h1 h2
    cases ho : L.os with
    | nil => rw [ho] at h1 h2; simp only [List.length_nil] at h1 h2; omega
    | cons a os =>
      refine ⟨a, os, rfl, ?_⟩
      unfold Lim.pick
      rw [if_neg h1, if_pos h2, ho]
  · omega
theorem Lim.pick_zero {L : Lim} (h : ahead L.us.length L.os.length L.row = 0) : ∃ a us, L.us = a :: us ∧ L.pick = some (a, { L with us := us, row := if L.os.length = 0 then 0 else L.row + 1 }) := by
  unfold ahead at h
  split at h
  · omega
  split at h
  · omega
  · rename_i h1 h2
    cases hu : L.us with
    | nil => rw [hu] at h2; exact absurd (Or.inl rfl) h2
    | cons a us =>
      refine ⟨a, us, rfl, ?_⟩
      unfold Lim.pick
      rw [if_neg h1, if_neg h2, hu]
theorem ahead_cases (n m : Nat) (r : Int) : ahead n m r = -1 ∨ ahead n m r = 0 ∨ ahead n m r = 1 := by
  unfold ahead
  split
  · exact .inl rfl
  · split
    · exact .inr (.inr rfl)
    · exact .inr (.inl rfl)
theorem Lim.Ok.pick {L L' : Lim} {a : Ask} (ok : L.Ok) (h : L.pick = some (a, L')) : L'.Ok ∧ 0 ≤ a.2.1 ∧ a.2.1 ≤ L.burst ∧ L'.us.length + L'.os.length + 1 = L.us.length + L.os.length ∧ L'.left = L.left ∧ L'.burst = L.burst ∧ L'.rate = L.rate := by
  obtain ⟨h1, h2, h3, h4, h5, h6, h7, h8, h9, h10⟩ := ok
  rcases ahead_cases L.us.length L.os.length L.row with e | e | e
  · rw [Lim.pick_none e] at h
    cases h
  · obtain ⟨b, us, hu, hp⟩ := Lim.pick_zero e
    rw [hp] at h
    simp only [Option.some.injEq, Prod.mk.injEq] at h
    obtain ⟨rfl, rfl⟩ := h
    have hb := h9 b (by simp [hu])
    have hr : L.os.length = 0 ∨ L.row < 10 := by
      unfold ahead at e
      split at e
      · omega
      · split at e <;> omega
    refine ⟨⟨h1, h2, h3, h4, h5, ?_, ?_, ?_, fun x hx => h9 x (by simp [hu, hx]), h10⟩, hb.2.1, hb.2.2, ?_, rfl, rfl, rfl⟩
    · dsimp only; split <;> omega
    · dsimp only; split <;> omega
    · simp [hu] at h8 ⊢; omega
    · simp [hu]; omega
  · obtain ⟨b, os, ho, hp⟩ := Lim.pick_one e
    rw [hp] at h
    simp only [Option.some.injEq, Prod.mk.injEq] at h
    obtain ⟨rfl, rfl⟩ := h
    have hb := h10 b (by simp [ho])
    refine ⟨⟨h1, h2, h3, h4, h5, by simp, by simp, ?_, h9, fun x hx => h10 x (by simp [ho, hx])⟩, hb.2.1, hb.2.2, ?_, rfl, rfl, rfl⟩
    · simp [ho] at h8 ⊢; omega
    · simp [ho]; omega
theorem Lim.Ok.take {L : Lim} (ok : L.Ok) {x : Int} (h0 : 0 ≤ x) (h1 : x ≤ L.burst) : Lim.Ok { L with left := x } := by
  obtain ⟨h2, h3, h4, h5, h6, h7, h8, h9, h10, h11⟩ := ok
  exact ⟨h2, h3, h4, h0, h1, h7, h8, h9, h10, h11⟩

theorem ahead_lim {w : World} {g : Nat} {L : Lim} {A0 : Option Addr} {c0 : Nat} {A1 : Option Addr} {c1 : Nat} (hp : PLim B w g L A0 c0 A1 c1) (ok : L.Ok) {x : Int} (h : ahead L.us.length L.os.length L.row = x) :
    Calls Try.prog 41 #[.pointer (some ⟨g, 0, none⟩)] w fun e w' => e = .returned (.int .i64 x) ∧ ∃ n, w' = w.drewN n := by
  subst h
  exact ahead_any g A0 A1 _ _ _ _ _ _ _ _ w hp.blk (by have := ok.many; omega) (by have := ok.many; omega)
/-- The bytes of the first urgent one; of the first other one. -/
theorem bytes0 {w : World} {g : Nat} {L : Lim} {A0 : Option Addr} {c0 : Nat} {A1 : Option Addr} {c1 : Nat} (hp : PLim B w g L A0 c0 A1 c1) {a : Ask} {us : List Ask} (h : L.us = a :: us) :
    ∃ b, A0 = some ⟨b, 0, none⟩ ∧ (blkOf w b).bind (cellAt 1) = some (.int .u64 a.2.1) := by
  have h0 := hp.own0
  rw [h] at h0
  obtain ⟨b, rfl, _⟩ := own_cells_pos h0 (by simp)
  exact ⟨b, rfl, cell_at ((h0.cellAt 1 (by simp; omega)).trans rfl)⟩
theorem bytes1 {w : World} {g : Nat} {L : Lim} {A0 : Option Addr} {c0 : Nat} {A1 : Option Addr} {c1 : Nat} (hp : PLim B w g L A0 c0 A1 c1) {a : Ask} {os : List Ask} (h : L.os = a :: os) :
    ∃ b, A1 = some ⟨b, 0, none⟩ ∧ (blkOf w b).bind (cellAt 1) = some (.int .u64 a.2.1) := by
  have h0 := hp.own1
  rw [h] at h0
  obtain ⟨b, rfl, _⟩ := own_cells_pos h0 (by simp)
  exact ⟨b, rfl, cell_at ((h0.cellAt 1 (by simp; omega)).trans rfl)⟩
theorem PLim.eqv {w W : World} {g : Nat} {L : Lim} {A0 : Option Addr} {c0 : Nat} {A1 : Option Addr} {c1 : Nat} (hp : PLim B w g L A0 c0 A1 c1) (h : Eqv W w) : PLim B W g L A0 c0 A1 c1 := ⟨(h.blk g).trans hp.blk, h.own hp.own0, h.own hp.own1, hp.apart, hp.base⟩
theorem goes0_at {w : World} {g : Nat} {L : Lim} {A0 : Option Addr} {c0 : Nat} {A1 : Option Addr} {c1 : Nat} {a : Ask} {us : List Ask} (hL : L.us = a :: us) (ok : L.Ok) (hp : PLim B w g L A0 c0 A1 c1) (W : World) (hW : Eqv W w) :
    Calls Try.prog 42 #[.pointer (some ⟨g, 0, none⟩), .int .i64 0] W fun e w' => ∃ A' c', e = .returned (.agg #[.int .i64 a.1, .int .u64 a.2.1, .bool a.2.2]) ∧
      PLim B w' g { L with us := us, row := if L.os.length = 0 then 0 else L.row + 1 } A' c' A1 c1 ∧ Chg (fun k => k = g) w w' :=
  (goes0 g L A0 c0 A1 c1 a us W hL ok (hp.eqv hW)).mono fun _ _ ⟨A', c', h1, h2, h3⟩ => ⟨A', c', h1, h2, hW.chg h3⟩
theorem goes1_at {w : World} {g : Nat} {L : Lim} {A0 : Option Addr} {c0 : Nat} {A1 : Option Addr} {c1 : Nat} {a : Ask} {os : List Ask} (hL : L.os = a :: os) (ok : L.Ok) (hp : PLim B w g L A0 c0 A1 c1) (W : World) (hW : Eqv W w) :
    Calls Try.prog 42 #[.pointer (some ⟨g, 0, none⟩), .int .i64 1] W fun e w' => ∃ A' c', e = .returned (.agg #[.int .i64 a.1, .int .u64 a.2.1, .bool a.2.2]) ∧
      PLim B w' g { L with os := os, row := 0 } A0 c0 A' c' ∧ Chg (fun k => k = g) w w' :=
  (goes1 g L A0 c0 A1 c1 a os W hL ok (hp.eqv hW)).mono fun _ _ ⟨A', c', h1, h2, h3⟩ => ⟨A', c', h1, h2, hW.chg h3⟩
theorem Lim.pick_some {L L2 : Lim} {a : Ask} (h : L.pick = some (a, L2)) : 0 ≤ ahead L.us.length L.os.length L.row := by
  rcases ahead_cases L.us.length L.os.length L.row with e | e | e
  · rw [Lim.pick_none e] at h
    cases h
  · omega
  · omega
theorem Lim.pick_no {L : Lim} (h : L.pick = none) : ahead L.us.length L.os.length L.row = -1 := by
  rcases ahead_cases L.us.length L.os.length L.row with e | e | e
  · exact e
  · obtain ⟨b, us, _, hp⟩ := Lim.pick_zero e
    rw [hp] at h; cases h
  · obtain ⟨b, us, _, hp⟩ := Lim.pick_one e
    rw [hp] at h; cases h
theorem goes_at {w : World} {g : Nat} {L L2 : Lim} {A0 : Option Addr} {c0 : Nat} {A1 : Option Addr} {c1 : Nat} {a : Ask} (hpk : L.pick = some (a, L2)) (ok : L.Ok) (hp : PLim B w g L A0 c0 A1 c1) (W : World) (hW : Eqv W w) :
    Calls Try.prog 42 #[.pointer (some ⟨g, 0, none⟩), .int .i64 (ahead L.us.length L.os.length L.row)] W fun e w' => ∃ A0' c0' A1' c1', e = .returned (.agg #[.int .i64 a.1, .int .u64 a.2.1, .bool a.2.2]) ∧
      PLim B w' g L2 A0' c0' A1' c1' ∧ Chg (fun k => k = g) w w' := by
  rcases ahead_cases L.us.length L.os.length L.row with e | e | e
  · rw [Lim.pick_none e] at hpk
    cases hpk
  · rw [e]
    obtain ⟨b, us, hu, hp'⟩ := Lim.pick_zero e
    rw [hp'] at hpk
    simp only [Option.some.injEq, Prod.mk.injEq] at hpk
    obtain ⟨rfl, rfl⟩ := hpk
    exact (goes0_at hu ok hp W hW).mono fun _ _ ⟨A', c', h1, h2, h3⟩ => ⟨A', c', A1, c1, h1, h2, h3⟩
  · rw [e]
    obtain ⟨b, os, ho, hp'⟩ := Lim.pick_one e
    rw [hp'] at hpk
    simp only [Option.some.injEq, Prod.mk.injEq] at hpk
    obtain ⟨rfl, rfl⟩ := hpk
    exact (goes1_at ho ok hp W hW).mono fun _ _ ⟨A', c', h1, h2, h3⟩ => ⟨A0, c0, A', c', h1, h2, h3⟩
theorem PLim.drewN {w : World} {g : Nat} {L : Lim} {A0 : Option Addr} {c0 : Nat} {A1 : Option Addr} {c1 : Nat} (hp : PLim B w g L A0 c0 A1 c1) (n : Nat) : PLim B (w.drewN n) g L A0 c0 A1 c1 := ⟨hp.blk, hp.own0, hp.own1, hp.apart, hp.base⟩
end Go.Proofs.Ytbiaelaaihieeaa
