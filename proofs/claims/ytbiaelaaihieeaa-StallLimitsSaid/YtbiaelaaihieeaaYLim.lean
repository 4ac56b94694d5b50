/- StallLimits: the statement, for every input. No condition. -/
import Derived.Test.YtbiaelaaihieeaaD5
import Derived.Test.YtbiaelaaihieeaaYRate
set_option linter.unusedVariables false
set_option linter.unusedSimpArgs false
set_option maxRecDepth 100000
namespace Go.Proofs.Ytbiaelaaihieeaa
open Go.ChangeShapes Go.WideShapes Go.ChangeAt Go.RowKit

theorem limits_no (r b : Int) (v : Value) (w : World) (h0 : 0 ≤ r) (h1 : 0 ≤ b) (h : ¬ (0 < r ∧ r ≤ b)) :
    Calls Try.prog 5 #[.int .u64 r, .int .u64 b, v] w fun e w' => e = .returned (.bool true) ∧ Below w.heap.size w w' := by
  refine calls_of fun R HR => ?_
  have Hn := hid (new_no r b w h0 h1 h)
  have Hr := hid (rnew_no r b w h0 h1 h)
  clear h
  go_enter Try.func5, Try.ntmps5
  go_wp2_with fail
  refine Hn.out.mono ?_
  rintro e w1 ⟨rfl, rfl⟩
  go_wp2_with fail
  refine Hr.out.mono ?_
  rintro e w2 ⟨rfl, rfl⟩
  go_wp2_with (go_at_call 11; refine (new_ok 1 1 _ (by omega) (by omega)).mono ?_; rintro e w3 ⟨rfl, rfl⟩)
  exact HR.out _ _ ⟨rfl, bl_alloc (Below.refl _ _) _⟩

namespace limits
theorem lifted (os : Os) (started : os.Started) (H : Type) (enc : TypeId × Value → H) :
    ReturnsInHanded {} Try.checked os 5 .any (Rows.stallLimitsSpec.pre6 enc Try.prog Try.f5 Rows.stallLimitsRow.domain false) (Rows.stallLimitsSpec.post enc Try.prog Try.f5 false true false false) := by
  refine returnsInHanded_of_change (C := Try.checked) own started (by kernel_rfl) Try.func5
    (ChangeSpec.witness6 (enc := enc) (C := Try.checked) false ⟨#[], #[.int .u64 0, .int .u64 0, .slice none 0 0], []⟩ 8 (by kernel_rfl) (by kernel_rfl) (by kernel_rfl) (by kernel_rfl)) ?_
  intro W base args ds gs before hval0 hW hcnd _
  have hval : ∀ (j : Nat) t v, Try.f5.params[j]? = some t → args[j]? = some v → Value.okWide Try.prog W .any base t v := hval0
  have hW' := hW
  obtain ⟨p, q, hA0, hV, rfl, hfz, hnd⟩ := hW
  have hA : DataW.TrodAll enc Try.prog W 0 (fun _ => true) true Try.f5.params.toList args.toList ds p := hA0
  rw [Try.params5] at hA hval
  obtain ⟨v0, vs0, d0, ds0, p0, q0, hargs, rfl, rfl, h0, r0⟩ := trodAll_cons hA
  obtain ⟨v1, vs1, d1, ds1, p1, q1, rfl, rfl, rfl, h1, r1⟩ := trodAll_cons r0
  obtain ⟨v2, vs2, d2, ds2, p2, q2, rfl, rfl, rfl, h2, r2⟩ := trodAll_cons r1
  obtain ⟨rfl, rfl, rfl⟩ := trodAll_nil r2
  obtain rfl : args = #[v0, v1, v2] := by cases args; simp_all
  obtain ⟨rfl, rfl⟩ := trodVars_none hV
  obtain ⟨a0, rfl, rfl, rfl, w0⟩ := open_int Try.underlying29 (hval 0 29 v0 rfl rfl) h0
  obtain ⟨a1, rfl, rfl, rfl, w1⟩ := open_int Try.underlying29 (hval 1 29 v1 rfl rfl) h1
  have k2 := h2
  have lt2 : ∀ x ∈ p2, x.block < W.heap.size := by obtain ⟨m, hm⟩ := k2; exact DataW.trod_lt m _ _ _ hm
  obtain ⟨A, n, c, l, rfl, hmax, hlen, hRd, hpos, hbulk⟩ : ∃ (A : Option Addr) (n c : Nat) (l : List ActD), v2 = .slice A n c ∧ n ≤ maxLen ∧ l.length = n ∧ Rd W W.heap.size 4 A n (actsC l) ∧ (∀ a ∈ l, 0 ≤ a.2.2.1) ∧ ((d2 = .nil ∧ n = 0) ∨ ∃ ds sp, d2 = .slice ds sp ∧ ds.length = n) := by
    obtain ⟨fuel, hf⟩ := h2
    obtain ⟨A, n, c, e⟩ := okWide_slice Try.underlying23 (hval 2 23 v2 rfl rfl)
    subst e
    exact open_acts hf
  clear hA0 hval0
  have b0 : 0 ≤ a0 ∧ a0 ≤ 18446744073709551615 := by simpa [Lit.wf, IntKind.min, IntKind.max, IntKind.signed, IntKind.bits] using w0
  have b1 : 0 ≤ a1 ∧ a1 ≤ 18446744073709551615 := by simpa [Lit.wf, IntKind.min, IntKind.max, IntKind.signed, IntKind.bits] using w1
  have wk : Calls Try.prog 5 #[.int .u64 a0, .int .u64 a1, .slice A n c] W fun e w' => e = .returned (.bool true) ∧ Below W.heap.size W w' := by
    by_cases h : 0 < a0 ∧ a0 ≤ a1
    · exact limits_ok a0 a1 A n c l W h.1 h.2 (by omega) hRd hmax hpos
    · exact limits_no a0 a1 _ W b0.1 b1.1 h
  refine wk.mono fun e W' ⟨he, bel⟩ => ?_
  subst he
  exact ⟨_, rfl, _, _, _, [], _, [], hW', trodAll_mk1 (shut_bool Try.underlying4 _), (trodAll_cons_mk (shut_int Try.underlying29 w0) (trodAll_cons_mk (shut_int Try.underlying29 w1) (trodAll_cons_mk (Below.trod laidOut (by kernel_rfl) (of_decide_eq_true (by kernel_rfl)) k2 bel lt2) trodAll_mk0))), rfl, bel.frame _, fun h => by cases h⟩

theorem over : Rows.stallLimitsRow.holds Try.pinned (OpenSpec.ofChange Rows.stallLimitsSpec) :=
  OpenClaim.holds_of_wide 5 Try.f5 rfl rfl rfl rfl rfl rfl rfl ⟨rfl, rfl, rfl, rfl, rfl⟩ rfl rfl rfl rfl rfl (by kernel_rfl) Try.func5 (by kernel_rfl)
    (of_decide_eq_true (by kernel_rfl)) (by unfold Func.isWrapper; first | (rw [if_pos (by decide +kernel)]; kernel_rfl) | (rw [if_neg (by decide +kernel)]; exact ⟨rfl, rfl⟩))
    (fun os started H enc _ => lifted os started H enc)

theorem proved : Rows.StallLimitsSaid := over
end limits
end Go.Proofs.Ytbiaelaaihieeaa
