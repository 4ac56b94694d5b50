/- The program's limiter: drop: its closure; clear of a slice's rest. -/
import Derived.Test.YtbiaelaaihieeaaN7
import Derived.Laws.IdiomCopy
set_option linter.unusedVariables false
set_option linter.unusedSimpArgs false
set_option maxRecDepth 100000
namespace Go.Proofs.Ytbiaelaaihieeaa
open Go.RowKit

theorem blk_setCells {b : Nat} {e : TypeId} {fr : Nat × Nat} : ∀ (vs : List Value) (o : Nat) (w : World) (cs : Array Value), blkOf w b = some (.cells cs e fr) →
    ∃ cs', blkOf (w.setCells b o vs) b = some (.cells cs' e fr) ∧ cs'.size = cs.size ∧ (∀ j, j < o → cs'[j]? = cs[j]?) ∧ Chg (fun k => k = b) w (w.setCells b o vs)
  | [], o, w, cs, h => ⟨cs, h, rfl, fun _ _ => rfl, Chg.refl _ _⟩
  | v :: r, o, w, cs, h => by
    have h1 : blkOf (w.setCell ⟨b, o, none⟩ v) b = some (.cells (cs.setIfInBounds o v) e fr) := by
      rw [blk_set_same, h]; rfl
    obtain ⟨cs', q1, q2, q3, q4⟩ := blk_setCells r (o + 1) _ _ h1
    refine ⟨cs', q1, by rw [q2]; simp, fun j hj => ?_, Chg.trans (Chg.setCell (F := fun k => k = b) (Chg.refl _ w) (p := ⟨b, o, none⟩) (fun _ => rfl) v) q4 (fun _ _ h => h) (fun _ _ h => h)⟩
    rw [q3 j (by omega), Array.getElem?_setIfInBounds_ne (by omega)]
theorem zeroAsk (w : World) : (zeroValue 87).run Try.prog w = .ok (.agg #[.int .i64 0, .int .u64 0, .bool false]) w := by kernel_rfl
/-- 'clear(s)' of some asks. -/
theorem run_clear_asks {w : World} {b o n c : Nat} {cs : Array Value} (h : blkOf w b = some (.cells cs 87 (0, 0))) (hs : o + n * 3 ≤ cs.size) :
    ∃ w' cs', (∀ ty, (Builtin.clear_ #[81] ty #[.slice (some ⟨b, o, none⟩) n c]).run Try.prog w = .ok (.tuple #[]) w') ∧ blkOf w' b = some (.cells cs' 87 (0, 0)) ∧ cs'.size = cs.size ∧ (∀ j, j < o → cs'[j]? = cs[j]?) ∧ Chg (fun k => k = b) w w' := by
  rcases Nat.eq_zero_or_pos n with rfl | hn
  · exact ⟨w, cs, fun ty => by simp [Builtin.clear_, run_underlying Try.underlying81], h, rfl, fun _ _ => rfl, Chg.refl _ _⟩
  · obtain ⟨zs, hz⟩ : ∃ zs, zs = (Builtin.zeroCells (Value.agg #[.int .i64 0, .int .u64 0, .bool false]).cells n).toList := ⟨_, rfl⟩
    have hzl : zs.length = n * 3 := by
      rw [hz]; simp [Builtin.zeroCells, Value.cells]
    have hz1 : ∀ v ∈ zs, v.oneCell' = true := by
      rw [hz]
      simp [Builtin.zeroCells, Value.cells]
      intro a ha
      rcases (show a % 3 = 0 ∨ a % 3 = 1 ∨ a % 3 = 2 by omega) with h | h | h <;> simp [h, Value.oneCell']
    have hst := run_storeCells_cells (P := Try.prog) b o zs 0 w (by
      intro j hj
      rw [Nat.add_zero, cell_of_row w b (o + j) cs 87 (0, 0) h]
      simp [Array.getElem?_eq_getElem (show o + j < cs.size by omega)]) (by
      intro j hj
      exact Blk.frozen (t := 87) h _) hz1
    obtain ⟨cs', q1, q2, q3, q4⟩ := blk_setCells zs o w cs h
    refine ⟨_, cs', fun ty => ?_, q1, q2, q3, q4⟩
    obtain ⟨m, rfl⟩ : ∃ m, n = m + 1 := ⟨n - 1, by omega⟩
    simp only [Nat.add_zero] at hst
    simp [Builtin.clear_, run_underlying Try.underlying81, zeroAsk, ← hz, hst]
set_option maxHeartbeats 400000 in
theorem same_any (a : Ask) (p q : Nat) (who n : Int) (w : World) (hp : blkOf w p = some (.cells #[.int .i64 who] 3 (0, 0))) (hq : blkOf w q = some (.cells #[.int .i64 n] 3 (0, 0))) (hpq : p ≠ q) (h0 : 0 ≤ n) (h1 : n < 100000) :
    Calls Try.prog 47 #[.agg #[.int .i64 a.1, .int .u64 a.2.1, .bool a.2.2], .pointer (some ⟨p, 0, none⟩), .pointer (some ⟨q, 0, none⟩)] w fun e w' => e = .returned (.bool (decide (a.1 = who))) ∧
      blkOf w' q = some (.cells #[.int .i64 (if a.1 = who then n + 1 else n)] 3 (0, 0)) ∧ Chg (fun k => k = q) w w' := by
  refine calls_of fun R HR => ?_
  obtain ⟨x, y, z⟩ := a
  have lp := Blk.lt hp
  have lq := Blk.lt hq
  have hqp : q ≠ p := Ne.symm hpq
  by_cases hx : x = who
  · subst hx
    rw [if_pos rfl] at HR
    go_enter Try.func47, Try.ntmps47
    go_wp2
    refine HR.out _ _ ⟨by simp, ?_, ?_⟩
    · simp [go_sem, *]
    · exact Chg.alloc (Chg.setCell (F := fun k => k = q) (Chg.refl _ _) (p := ⟨q, 0, none⟩) (fun _ => rfl) _) _
  · have hx2 : (x == who) = false := by rw [beq_eq_false_iff_ne]; exact hx
    rw [if_neg hx] at HR
    go_enter Try.func47, Try.ntmps47
    go_wp2
    refine HR.out _ _ ⟨by simp [hx], ?_, ?_⟩
    · simp [go_sem, *]
    · exact Chg.alloc (Chg.refl _ _) _
theorem same_at {w : World} {p q : Nat} {who n : Int} (hp : blkOf w p = some (.cells #[.int .i64 who] 3 (0, 0))) (hq : blkOf w q = some (.cells #[.int .i64 n] 3 (0, 0))) (hpq : p ≠ q) (h0 : 0 ≤ n) (h1 : n < 100000) (a : Ask) (W : World) (hW : Below w.heap.size w W) :
    Calls Try.prog 47 #[.agg #[.int .i64 a.1, .int .u64 a.2.1, .bool a.2.2], .pointer (some ⟨p, 0, none⟩), .pointer (some ⟨q, 0, none⟩)] W fun e w' => e = .returned (.bool (decide (a.1 = who))) ∧
      blkOf w' q = some (.cells #[.int .i64 (if a.1 = who then n + 1 else n)] 3 (0, 0)) ∧ Chg (fun k => k = q) W w' :=
  same_any a p q who n W ((bl_at hW p (Blk.lt hp)).trans hp) ((bl_at hW q (Blk.lt hq)).trans hq) hpq h0 h1
def IndexRel (w : World) (p q : Nat) (who n : Int) (l : List Ask) (gk : Nat) (v8 : Value) (wr : World) : Prop :=
  ∃ i : Nat, i ≤ l.length ∧ gk = l.length - i ∧ v8 = .int .i64 i ∧ (∀ j (h : j < l.length), j < i → l[j].1 ≠ who) ∧ blkOf wr q = some (.cells #[.int .i64 n] 3 (0, 0)) ∧ Chg (fun k => k = q) w wr
theorem rt_ne {w : World} {k : Nat} {cs : Array Value} (hk : blkOf w k = some (.cells cs 3 (0, 0))) : ∀ j cs' fr, blkOf w j = some (.cells cs' 87 fr) → ¬ (j = k) := by
  rintro j cs' fr hj rfl
  rw [hk] at hj
  injection hj with hj
  injection hj with _ ht
  exact absurd ht (by decide)
set_option maxHeartbeats 800000 in
theorem index_any (A : Option Addr) (c : Nat) (l : List Ask) (p q : Nat) (who n : Int) (w : World) (hr : Rt w 87 3 A l.length (asks l)) (hp : blkOf w p = some (.cells #[.int .i64 who] 3 (0, 0))) (hq : blkOf w q = some (.cells #[.int .i64 n] 3 (0, 0))) (hpq : p ≠ q) (h0 : 0 ≤ n) (h1 : n < 100000)
    (hn : l.length ≤ 4096) :
    Calls Try.prog 74 #[.slice A l.length c, .func (.func 47) #[] #[.pointer (some ⟨p, 0, none⟩), .pointer (some ⟨q, 0, none⟩)]] w fun e w' => ∃ i : Nat, i ≤ l.length ∧ (∀ j (h : j < l.length), j < i → l[j].1 ≠ who) ∧ Chg (fun k => k = q) w w' ∧
      ((i = l.length ∧ e = .returned (.int .i64 (-1)) ∧ blkOf w' q = some (.cells #[.int .i64 n] 3 (0, 0))) ∨ (∃ h : i < l.length, l[i].1 = who ∧ e = .returned (.int .i64 i) ∧ blkOf w' q = some (.cells #[.int .i64 (n + 1)] 3 (0, 0)))) := by
  refine calls_of fun R HR => ?_
  have Hr := hid hr
  have Hp := hid hp
  have hne := rt_ne hq
  have Hne := hid hne
  have lq := Blk.lt hq
  have Hq := hid hq
  have Lp := hid (Blk.lt hp)
  clear hr hp hq hne
  go_enter Try.func74, Try.ntmps74
  go_wp2
  go_loopg [8] l.length (fun gk v8 wr => IndexRel w p q who n l gk v8 wr)
  case atStart => exact ⟨0, Nat.zero_le _, rfl, rfl, fun _ _ h => by omega, Hq.out, Chg.refl _ _⟩
  case round =>
    obtain ⟨i, hi, rfl, rfl, hno, hq, hch⟩ := hrel
    obtain ⟨wo, hwo⟩ : ∃ wo : World, wo = wr := ⟨_, rfl⟩
    subst hwo
    have Hno := hid hno; have Hch := hid hch
    by_cases hlt : i < l.length
    · have hr2 := Hr.out.chg hch (fun j cs fr hj => Hne.out j cs fr hj)
      obtain ⟨b, o, hl, rfl, lb, k0, k1, k2⟩ := ask_cells hr2.rd (Below.refl wo.heap.size wo) hlt
      have hi0 : (0 : Int) ≤ (i : Int) := Int.natCast_nonneg _
      have hi1 : (i : Int) < (l.length : Int) := by omega
      have hp2 : blkOf wo p = some (.cells #[.int .i64 who] 3 (0, 0)) := (hch.block p Lp.out (fun e => hpq e)).trans Hp.out
      obtain ⟨a, hx⟩ : ∃ x, x = l[i] := ⟨_, rfl⟩
      rw [← hx] at k0 k1 k2
      have Hs := hid (same_at hp2 hq hpq h0 h1 a)
      have Hx := hid hx
      clear hno hch hr2 hq hp2 hx
      by_cases hw : a.1 = who
      · simp only [if_pos hw, decide_eq_true hw] at Hs
        have Hw := hid hw
        clear hw
        go_wp2_with (go_at_call 47; refine (Hs.out _ ?_).mono ?_; exact Below.refl _ _; rintro e w2 ⟨rfl, hq2, hc2⟩; have Hq2 := hid hq2; have Hc2 := hid hc2; clear hq2 hc2)
        exact HR.out _ _ ⟨i, by omega, Hno.out, Hch.out.trans Hc2.out (fun _ _ h => h) (fun _ _ h => h), .inr ⟨hl, by rw [← Hx.out]; exact Hw.out, rfl, Hq2.out⟩⟩
      · simp only [if_neg hw, decide_eq_false hw] at Hs
        have Hw := hid hw
        clear hw
        go_wp2_with (go_at_call 47; refine (Hs.out _ ?_).mono ?_; exact Below.refl _ _; rintro e w2 ⟨rfl, hq2, hc2⟩; have Hq2 := hid hq2; have Hc2 := hid hc2; clear hq2 hc2)
        go_roundg (l.length - (i + 1))
        case measure => omega
        case rel =>
          refine ⟨i + 1, by omega, rfl, by go_num, fun j h hj => ?_, Hq2.out, Hch.out.trans Hc2.out (fun _ _ h => h) (fun _ _ h => h)⟩
          rcases Nat.lt_or_ge j i with h' | h'
          · exact Hno.out j h h'
          · obtain rfl : j = i := by omega
            rw [← Hx.out]; exact Hw.out
    · obtain rfl : i = l.length := by omega
      clear hno hch
      go_wp2
      exact HR.out _ _ ⟨l.length, Nat.le_refl _, Hno.out, Hch.out, .inl ⟨rfl, rfl, hq⟩⟩
end Go.Proofs.Ytbiaelaaihieeaa
