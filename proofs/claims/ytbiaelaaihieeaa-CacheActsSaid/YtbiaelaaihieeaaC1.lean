/- The cache: entries and shards as they lie in memory; the small functions. -/
import Derived.Test.YtbiaelaaihieeaaRows
import Derived.Test.YtbiaelaaihieeaaC0
import Derived.Laws.Externs
set_option linter.unusedVariables false
set_option linter.unusedSimpArgs false
set_option maxRecDepth 100000
namespace Go.Proofs.Ytbiaelaaihieeaa
open Go.RowKit

/-- The greatest number. -/
def top : Int := 18446744073709551615
/-- A sum that stops. -/
def addTop (a b : Int) : Int := if a + b > 18446744073709551615 then 18446744073709551615 else a + b

theorem cplus_any (a b : Int) (w : World) (ha : 0 ≤ a ∧ a ≤ 18446744073709551615) (hb : 0 ≤ b ∧ b ≤ 18446744073709551615) :
    Calls Try.prog 59 #[.int .u64 a, .int .u64 b] w fun e w' => e = .returned (.int .u64 (addTop a b)) ∧ w = w' := by
  obtain ⟨ha, ha2⟩ := ha
  obtain ⟨hb, hb2⟩ := hb
  refine calls_of fun R HR => ?_
  unfold addTop at HR
  have e1 : IntKind.u64.wrap (18446744073709551615 - b) = 18446744073709551615 - b := by
    unfold IntKind.wrap; simp [IntKind.bits, IntKind.signed]; omega
  by_cases h : a + b > 18446744073709551615
  · rw [if_pos h] at HR
    have h' : 18446744073709551615 - b < a := by omega
    go_enter Try.func59, Try.ntmps59
    go_wp2
    exact HR.out _ _ ⟨rfl, rfl⟩
  · rw [if_neg h] at HR
    have h' : ¬ (18446744073709551615 - b < a) := by omega
    go_enter Try.func59, Try.ntmps59
    go_wp2
    exact HR.out _ _ ⟨rfl, rfl⟩

/-- An entry: its key, its value, its charge, whether it is in, how many pins it has. -/
structure It where
  key : ByteArray
  v : Value
  ch : Int
  inn : Bool
  pins : Int
def itCells (i : It) : Array Value := #[.string i.key, i.v, .int .u64 i.ch, .bool i.inn, .int .i64 i.pins]
def ItAt (w : World) (b : Nat) (i : It) : Prop := blkOf w b = some (.cells (itCells i) 123 (0, 0))
def ItsAt (w : World) (I : Nat → It) (l : List Nat) : Prop := ∀ b ∈ l, ItAt w b (I b)
/-- What comes of a sum that stops. -/
def cap (x : Int) : Int := if x > 18446744073709551615 then 18446744073709551615 else x
def chs (I : Nat → It) (l : List Nat) : Int := (l.map fun b => (I b).ch).sum
/-- Charges are numbers of their kind. -/
def ChOk (I : Nat → It) (l : List Nat) : Prop := ∀ b ∈ l, 0 ≤ (I b).ch ∧ (I b).ch ≤ 18446744073709551615
theorem cap_add {x y : Int} (hx : 0 ≤ x) (hy : 0 ≤ y) : addTop (cap x) y = cap (x + y) := by
  unfold addTop cap; (repeat' split) <;> omega
theorem cap_range {x : Int} (hx : 0 ≤ x) : 0 ≤ cap x ∧ cap x ≤ 18446744073709551615 := by
  unfold cap; split <;> omega
theorem chs_nonneg {I : Nat → It} {l : List Nat} (h : ChOk I l) : 0 ≤ chs I l := by
  induction l with
  | nil => simp [chs]
  | cons b l ih =>
    have h1 := (h b (List.mem_cons_self ..)).1
    have h2 := ih (fun x hx => h x (List.mem_cons_of_mem _ hx))
    simp only [chs, List.map_cons, List.sum_cons] at *
    omega
theorem chs_perm {I : Nat → It} {l l' : List Nat} (h : l.Perm l') : chs I l = chs I l' := by
  induction h with
  | nil => rfl
  | cons x _ ih => simp only [chs, List.map_cons, List.sum_cons] at *; omega
  | swap x y l => simp only [chs, List.map_cons, List.sum_cons]; omega
  | trans _ _ h1 h2 => exact h1.trans h2
/-- A set of entries, as a map keyed by them. -/
def setP (l : List Nat) : List (Nat × Value) := l.map fun b => (b, .bool true)
theorem setP_fst (l : List Nat) : (setP l).map (·.1) = l := by simp [setP, Function.comp_def]
theorem perm_erase {α : Type} : ∀ (l : List α) (j : Nat) (h : j < l.length), l.Perm (l[j] :: l.eraseIdx j)
  | a :: l, 0, _ => .refl _
  | a :: l, j + 1, h => by
    simp only [List.getElem_cons_succ, List.eraseIdx_cons_succ]
    exact ((perm_erase l j (by simpa using h)).cons a).trans (.swap _ _ _)
theorem chs_erase {I : Nat → It} {l : List (Nat × Value)} {j : Nat} (h : j < l.length) : chs I (l.map (·.1)) = (I l[j].1).ch + chs I ((l.eraseIdx j).map (·.1)) := by
  rw [chs_perm ((perm_erase l j h).map (·.1))]
  simp [chs]
theorem mem_erase {α : Type} {l : List α} {j : Nat} {x : α} (h : x ∈ l.eraseIdx j) : x ∈ l := (List.eraseIdx_sublist _ _).subset h

def UsedRel (w : World) (I : Nat → It) (ma : Nat) (al : List Nat) (gk : Nat) (v3 : Value) (wr : World) : Prop :=
  ∃ todo : List (Nat × Value), gk = todo.length ∧ (∀ p ∈ todo, p.1 ∈ al) ∧ Ranges ptr wr ma w.heap.size (setP al) todo ∧ v3 = .int .u64 (cap (chs I al - chs I (todo.map (·.1)))) ∧ 0 ≤ chs I al - chs I (todo.map (·.1)) ∧ Below w.heap.size w wr
set_option maxHeartbeats 800000 in
theorem used_any (s mi ma : Nat) (A : Option Addr) (n c : Nat) (I : Nat → It) (al : List Nat) (w : World) (hb : blkOf w s = some (.cells #[.map (some mi), .map (some ma), .slice A n c] 109 (0, 0)))
    (hm : MapAt ptr w ma (setP al)) (hi : ItsAt w I al) (hch : ChOk I al) :
    Calls Try.prog 60 #[.pointer (some ⟨s, 0, none⟩)] w fun e w' => e = .returned (.int .u64 (cap (chs I al))) ∧ Below w.heap.size w w' := by
  refine calls_of fun R HR => ?_
  have Hi := hid hi; have Hch := hid hch
  clear hi hch
  go_enter Try.func60, Try.ntmps60
  go_wp2_with (at_range; refine wpList_mrange Try.underlying106 rfl _ rfl rfl hm ?_; intro ob hrg; have Hrg := hid hrg; clear hrg)
  go_frame
  go_loopg [3, 4] al.length (fun gk v3 v4 wr => UsedRel w I ma al gk v3 wr)
  case atStart =>
    refine ⟨setP al, by simp [setP], fun p hp => by simp only [setP, List.mem_map] at hp; obtain ⟨b, hb, rfl⟩ := hp; exact hb, Hrg.out, ?_, ?_, bl_alloc (Below.refl _ _) _⟩
    · rw [setP_fst]; simp [cap]
    · rw [setP_fst]; omega
  case round =>
    clear Hrg hm hb
    obtain ⟨todo, rfl, hsub, hrg, rfl, hnn, hbl⟩ := hrel
    obtain ⟨wo, hwo⟩ : ∃ wo : World, wo = wr := ⟨_, rfl⟩
    subst hwo
    have Hrg := hid hrg; have Hsub := hid hsub; have Hbl := hid hbl; have Hnn := hid hnn
    clear hrg hsub hbl hnn
    go_wp2_with (at_next; refine wpList_mnext rfl _ rfl rfl Hrg.out ?_ ?_)
    · intro h0
      have H0 := hid h0
      clear h0
      go_wp2
      refine HR.out _ _ ⟨?_, Hbl.out⟩
      rw [H0.out]; simp [chs]
    · intro j hj w1 hrg1 hc1 hs1 hen
      have hbl1 : Below w.heap.size w w1 := Hbl.out.trans (hc1.to_below Hbl.out.size (fun k hk e => by omega))
      obtain ⟨x, hx⟩ : ∃ x, x = todo[j].1 := ⟨_, rfl⟩
      have hxal : x ∈ al := by rw [hx]; exact Hsub.out _ (List.getElem_mem hj)
      have hit := (bl_at hbl1 x (Blk.lt (Hi.out x hxal))).trans (Hi.out x hxal)
      have he := chs_erase (I := I) hj
      rw [← hx] at he
      have hcx := Hch.out x hxal
      have hnn := Hnn.out
      have hcp := cap_range hnn
      have hct := chs_nonneg (I := I) (l := (todo.eraseIdx j).map (·.1)) (fun b hb => by
        obtain ⟨p, hp, rfl⟩ := List.mem_map.1 hb
        exact Hch.out _ (Hsub.out p (mem_erase hp)))
      have Hcp := hid (cplus_any (cap (chs I al - chs I (todo.map (·.1)))) (I x).ch)
      have He := hid he
      have Hrg1 := hid hrg1; have Hbl1 := hid hbl1
      rw [← hx] at hen
      unfold ptr at hen
      unfold itCells at hit
      clear hrg1 hc1 he hx hbl1 hs1
      go_wp2_with (go_at_call 59; refine (Hcp.out _ hcp hcx).mono ?_; rintro e w' ⟨rfl, rfl⟩)
      go_roundg (todo.eraseIdx j).length
      case measure => rw [List.length_eraseIdx_of_lt hj]; omega
      case rel =>
        refine ⟨todo.eraseIdx j, rfl, fun p hp => Hsub.out p (mem_erase hp), Hrg1.out, ?_, by have := He.out; omega, Hbl1.out⟩
        rw [cap_add hnn hcx.1, show chs I al - chs I (todo.map (·.1)) + (I x).ch = chs I al - chs I ((todo.eraseIdx j).map (·.1)) by have := He.out; omega]
end Go.Proofs.Ytbiaelaaihieeaa
