/- StallTurn: the statement, for every input. No condition. -/
import Derived.Test.YtbiaelaaihieeaaXT
import Derived.Test.YtbiaelaaihieeaaYRate
set_option linter.unusedVariables false
set_option linter.unusedSimpArgs false
set_option maxRecDepth 100000
namespace Go.Proofs.Ytbiaelaaihieeaa
open Go.ChangeShapes Go.WideShapes Go.ChangeAt Go.RowKit

theorem turn_no (r b : Int) (v : Value) (w : World) (h0 : 0 ≤ r) (h1 : 0 ≤ b) (hr : r < 65536) (hb : b < 65536) (h : ¬ (0 < r ∧ r ≤ b)) :
    Calls Try.prog 4 #[.int .u16 r, .int .u16 b, v] w fun e w' => e = .returned (.bool true) ∧ Below w.heap.size w w' := by
  refine calls_of fun R HR => ?_
  go_enter Try.func4, Try.ntmps4
  go_wp2_with (first | (go_at_call 10; refine (lives_any _).mono ?_; rintro e w1 ⟨rfl, hb1⟩; have Hb1 := hid hb1; clear hb1) | (go_at_call 11; refine (new_no r b _ h0 h1 h).mono ?_; rintro e w2 ⟨rfl, rfl⟩))
  exact HR.out _ _ ⟨rfl, Hb1.out⟩

namespace turn
theorem lifted (os : Os) (started : os.Started) (H : Type) (enc : TypeId × Value → H) :
    ReturnsInHanded {} Try.checked os 4 .any (Rows.stallTurnSpec.pre6 enc Try.prog Try.f4 Rows.stallTurnRow.domain false) (Rows.stallTurnSpec.post enc Try.prog Try.f4 false true false false) := by
  refine returnsInHanded_of_change (C := Try.checked) own started (by kernel_rfl) Try.func4
    (ChangeSpec.witness6 (enc := enc) (C := Try.checked) false ⟨#[], #[.int .u16 0, .int .u16 0, .slice none 0 0], []⟩ 8 (by kernel_rfl) (by kernel_rfl) (by kernel_rfl) (by kernel_rfl)) ?_
  intro W base args ds gs before hval0 hW hcnd _
  have hval : ∀ (j : Nat) t v, Try.f4.params[j]? = some t → args[j]? = some v → Value.okWide Try.prog W .any base t v := hval0
  have hW' := hW
  obtain ⟨p, q, hA0, hV, rfl, hfz, hnd⟩ := hW
  have hA : DataW.TrodAll enc Try.prog W 0 (fun _ => true) true Try.f4.params.toList args.toList ds p := hA0
  rw [Try.params4] at hA hval
  obtain ⟨v0, vs0, d0, ds0, p0, q0, hargs, rfl, rfl, h0, r0⟩ := trodAll_cons hA
  obtain ⟨v1, vs1, d1, ds1, p1, q1, rfl, rfl, rfl, h1, r1⟩ := trodAll_cons r0
  obtain ⟨v2, vs2, d2, ds2, p2, q2, rfl, rfl, rfl, h2, r2⟩ := trodAll_cons r1
  obtain ⟨rfl, rfl, rfl⟩ := trodAll_nil r2
  obtain rfl : args = #[v0, v1, v2] := by cases args; simp_all
  obtain ⟨rfl, rfl⟩ := trodVars_none hV
  obtain ⟨a0, rfl, rfl, rfl, w0⟩ := open_int Try.underlying39 (hval 0 39 v0 rfl rfl) h0
  obtain ⟨a1, rfl, rfl, rfl, w1⟩ := open_int Try.underlying39 (hval 1 39 v1 rfl rfl) h1
  have k2 := h2
  have lt2 : ∀ x ∈ p2, x.block < W.heap.size := by obtain ⟨m, hm⟩ := k2; exact DataW.trod_lt m _ _ _ hm
  obtain ⟨A, n, c, l, rfl, hmax, hlen, hRd, hpos, hbulk⟩ : ∃ (A : Option Addr) (n c : Nat) (l : List ActD), v2 = .slice A n c ∧ n ≤ maxLen ∧ l.length = n ∧ Rd W W.heap.size 4 A n (actsC l) ∧ (∀ a ∈ l, 0 ≤ a.2.2.1) ∧ ((d2 = .nil ∧ n = 0) ∨ ∃ ds sp, d2 = .slice ds sp ∧ ds.length = n) := by
    obtain ⟨fuel, hf⟩ := h2
    obtain ⟨A, n, c, e⟩ := okWide_slice Try.underlying23 (hval 2 23 v2 rfl rfl)
    subst e
    exact open_acts hf
  clear hA0 hval0
  have b0 : 0 ≤ a0 ∧ a0 ≤ 65535 := by simpa [Lit.wf, IntKind.min, IntKind.max, IntKind.signed, IntKind.bits] using w0
  have b1 : 0 ≤ a1 ∧ a1 ≤ 65535 := by simpa [Lit.wf, IntKind.min, IntKind.max, IntKind.signed, IntKind.bits] using w1
  have wk : Calls Try.prog 4 #[.int .u16 a0, .int .u16 a1, .slice A n c] W fun e w' => e = .returned (.bool true) ∧ Below W.heap.size W w' := by
    by_cases h : 0 < a0 ∧ a0 ≤ a1
    · exact turn_ok a0 a1 A n c l W h.1 h.2 (by omega) hRd hmax hpos
    · exact turn_no a0 a1 _ W b0.1 b1.1 (by omega) (by omega) h
  refine wk.mono fun e W' ⟨he, bel⟩ => ?_
  subst he
  exact ⟨_, rfl, _, _, _, [], _, [], hW', trodAll_mk1 (shut_bool Try.underlying4 _), (trodAll_cons_mk (shut_int Try.underlying39 w0) (trodAll_cons_mk (shut_int Try.underlying39 w1) (trodAll_cons_mk (Below.trod laidOut (by kernel_rfl) (of_decide_eq_true (by kernel_rfl)) k2 bel lt2) trodAll_mk0))), rfl, bel.frame _, fun h => by cases h⟩

theorem over : Rows.stallTurnRow.holds Try.pinned (OpenSpec.ofChange Rows.stallTurnSpec) :=
  OpenClaim.holds_of_wide 4 Try.f4 rfl rfl rfl rfl rfl rfl rfl ⟨rfl, rfl, rfl, rfl, rfl⟩ rfl rfl rfl rfl rfl (by kernel_rfl) Try.func4 (by kernel_rfl)
    (of_decide_eq_true (by kernel_rfl)) (by unfold Func.isWrapper; first | (rw [if_pos (by decide +kernel)]; kernel_rfl) | (rw [if_neg (by decide +kernel)]; exact ⟨rfl, rfl⟩))
    (fun os started H enc _ => lifted os started H enc)

theorem proved : Rows.StallTurnSaid := over
end turn
end Go.Proofs.Ytbiaelaaihieeaa
