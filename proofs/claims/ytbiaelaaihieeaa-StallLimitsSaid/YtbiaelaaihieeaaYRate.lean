/- StallRate: the statement, where what comes in is of bounded bulk. -/
import Derived.Test.YtbiaelaaihieeaaX
import Derived.Test.YtbiaelaaihieeaaO
import Derived.Test.YtbiaelaaihieeaaRows
import Derived.ProofKit
import Derived.JoinedCond
import Derived.ChangeOld
import Derived.Below
set_option linter.unusedVariables false
set_option linter.unusedSimpArgs false
set_option maxRecDepth 100000
namespace Go.Proofs.Ytbiaelaaihieeaa
open Go.ChangeShapes Go.WideShapes Go.ChangeAt Go.RowKit

theorem rate_no (r b : Int) (v : Value) (w : World) (h0 : 0 ≤ r) (h1 : 0 ≤ b) (hr : r < 4294967296) (hb : b < 4294967296) (h : ¬ (0 < r ∧ r ≤ b)) :
    Calls Try.prog 3 #[.int .u32 r, .int .u32 b, v] w fun e w' => e = .returned (.bool true) ∧ Below w.heap.size w w' := by
  refine calls_of fun R HR => ?_
  go_enter Try.func3, Try.ntmps3
  go_wp2_with (first | (go_at_call 10; refine (lives_any _).mono ?_; rintro e w1 ⟨rfl, hb1⟩; have Hb1 := hid hb1; clear hb1) | (go_at_call 11; refine (new_no r b _ h0 h1 h).mono ?_; rintro e w2 ⟨rfl, rfl⟩))
  exact HR.out _ _ ⟨rfl, Hb1.out⟩

theorem own : ownKnob Try.prog.godebug = none := by kernel_rfl
theorem laidOut : laidOutB Try.prog = true := by kernel_rfl

/-- An argument that is a slice of acts. -/
theorem open_acts {H : Type} {enc : TypeId × Value → H} {w : World} {base : Nat} {spare : Nat → Bool} {held : Bool} {fuel : Nat} {v : Value} {x : DataW H × List MemPlace}
    (h : DataW.trod enc Try.prog w base spare held fuel 23 [v] = some x) :
    ∃ (A : Option Addr) (n c : Nat) (l : List ActD), v = .slice A n c ∧ n ≤ maxLen ∧ l.length = n ∧ Rd w w.heap.size 4 A n (actsC l) ∧ (∀ a ∈ l, 0 ≤ a.2.2.1) ∧ ((x.1 = .nil ∧ n = 0) ∨ ∃ ds sp, x.1 = .slice ds sp ∧ ds.length = n) := by
  refine open_rows 4 (by decide) actCells (fun a => 0 ≤ a.2.2.1) (fun _ => rfl) Try.underlying23 (by kernel_rfl) (fun m cs y hlen ht => ?_) h
  obtain ⟨xs, k, _, rfl, _, hxl, hf⟩ := DataW.trod_struct Try.underlying33 ht
  match cs, hlen with
  | [c0, c1, c2, c3], _ =>
    have f0 := hf 0 _ rfl
    have f1 := hf 1 _ rfl
    have f2 := hf 2 _ rfl
    have f3 := hf 3 _ rfl
    match xs, hxl with
    | [y0, y1, y2, y3], _ =>
      obtain ⟨n0, e0, _, _⟩ := DataW.trod_int Try.underlying3 (show DataW.trod enc Try.prog w base spare held k 3 [c0] = some y0 from f0)
      obtain ⟨n1, e1, _, _⟩ := DataW.trod_int Try.underlying3 (show DataW.trod enc Try.prog w base spare held k 3 [c1] = some y1 from f1)
      obtain ⟨n2, e2, _, w2⟩ := DataW.trod_int Try.underlying29 (show DataW.trod enc Try.prog w base spare held k 29 [c2] = some y2 from f2)
      obtain ⟨n3, e3, _⟩ := DataW.trod_bool Try.underlying4 (show DataW.trod enc Try.prog w base spare held k 4 [c3] = some y3 from f3)
      simp only [List.cons.injEq, and_true] at e0 e1 e2 e3
      subst e0; subst e1; subst e2; subst e3
      refine ⟨(n0, n1, n2, n3), rfl, ?_⟩
      simp [Lit.wf, IntKind.min, IntKind.max, IntKind.signed, IntKind.bits] at w2
      exact w2.1

theorem bulk_one {H : Type} (d : DataW H) : 1 ≤ Rows.uptoBulk d := by
  cases d with
  | lit l => cases l <;> simp [Rows.uptoBulk]
  | nil => simp [Rows.uptoBulk]
  | ptr d => simp [Rows.uptoBulk]
  | slice elems spare => simp [Rows.uptoBulk]
  | agg parts => simp [Rows.uptoBulk]
  | iface t d => simp [Rows.uptoBulk]
  | map entries => simp [Rows.uptoBulk]
  | held h => simp [Rows.uptoBulk]
theorem bulk_length {H : Type} (l : List (DataW H)) : l.length ≤ Rows.uptoBulkAll l := by
  induction l with
  | nil => simp [Rows.uptoBulkAll]
  | cons x r ih => have := bulk_one x; simp only [Rows.uptoBulkAll, List.length_cons]; omega

namespace rate
theorem contract (H : Type) (enc : TypeId × Value → H) (W : World) (base : Nat) (args : Array Value) (ds gs : List (DataW H)) (before : List MemPlace)
    (hval : ∀ (j : Nat) t v, Try.f3.params[j]? = some t → args[j]? = some v → Value.okWide Try.prog W .any base t v)
    (hW : DataW.Whole enc Try.prog Try.f3.params.toList Rows.stallRateSpec.vars false W args.toList ds gs before) (hk : Rows.uptoSmall H (ds ++ gs) = true) :
    Calls Try.prog 3 args W fun e W' => ∃ v, e = .returned v ∧ Rows.stallRateSpec.post enc Try.prog Try.f3 false true false false W args v W' := by
  have hW' := hW
  obtain ⟨p, q, hA0, hV, rfl, hfz, hnd⟩ := hW
  have hA : DataW.TrodAll enc Try.prog W 0 (fun _ => true) true Try.f3.params.toList args.toList ds p := hA0
  rw [Try.params3] at hA hval
  obtain ⟨v0, vs0, d0, ds0, p0, q0, hargs, rfl, rfl, h0, r0⟩ := trodAll_cons hA
  obtain ⟨v1, vs1, d1, ds1, p1, q1, rfl, rfl, rfl, h1, r1⟩ := trodAll_cons r0
  obtain ⟨v2, vs2, d2, ds2, p2, q2, rfl, rfl, rfl, h2, r2⟩ := trodAll_cons r1
  obtain ⟨rfl, rfl, rfl⟩ := trodAll_nil r2
  obtain rfl : args = #[v0, v1, v2] := by cases args; simp_all
  obtain ⟨rfl, rfl⟩ := trodVars_none hV
  obtain ⟨a0, rfl, rfl, rfl, w0⟩ := open_int Try.underlying22 (hval 0 22 v0 rfl rfl) h0
  obtain ⟨a1, rfl, rfl, rfl, w1⟩ := open_int Try.underlying22 (hval 1 22 v1 rfl rfl) h1
  have k2 := h2
  have lt2 : ∀ x ∈ p2, x.block < W.heap.size := by obtain ⟨m, hm⟩ := k2; exact DataW.trod_lt m _ _ _ hm
  obtain ⟨A, n, c, l, rfl, hmax, hlen, hRd, hpos, hbulk⟩ : ∃ (A : Option Addr) (n c : Nat) (l : List ActD), v2 = .slice A n c ∧ n ≤ maxLen ∧ l.length = n ∧ Rd W W.heap.size 4 A n (actsC l) ∧ (∀ a ∈ l, 0 ≤ a.2.2.1) ∧ ((d2 = .nil ∧ n = 0) ∨ ∃ ds sp, d2 = .slice ds sp ∧ ds.length = n) := by
    obtain ⟨fuel, hf⟩ := h2
    obtain ⟨A, n, c, e⟩ := okWide_slice Try.underlying23 (hval 2 23 v2 rfl rfl)
    subst e
    exact open_acts hf
  clear hA0
  have hn : n ≤ 1048576 := by
    have hb := of_decide_eq_true hk
    rcases hbulk with ⟨_, rfl⟩ | ⟨ds, sp, rfl, hl⟩
    · exact Nat.zero_le _
    · simp only [Rows.uptoBulkAll, Rows.uptoBulk, List.cons_append, List.nil_append, List.append_nil] at hb
      have := bulk_length ds
      omega
  have b0 : 0 ≤ a0 ∧ a0 ≤ 4294967295 := by simpa [Lit.wf, IntKind.min, IntKind.max, IntKind.signed, IntKind.bits] using w0
  have b1 : 0 ≤ a1 ∧ a1 ≤ 4294967295 := by simpa [Lit.wf, IntKind.min, IntKind.max, IntKind.signed, IntKind.bits] using w1
  have wk : Calls Try.prog 3 #[.int .u32 a0, .int .u32 a1, .slice A n c] W fun e w' => e = .returned (.bool true) ∧ Below W.heap.size W w' := by
    by_cases h : 0 < a0 ∧ a0 ≤ a1
    · exact rate_ok a0 a1 A n c l W h.1 h.2 (by omega) hRd hn hpos
    · exact rate_no a0 a1 _ W b0.1 b1.1 (by omega) (by omega) h
  refine wk.mono fun e W' ⟨he, bel⟩ => ?_
  subst he
  exact ⟨_, rfl, _, _, _, [], _, [], hW', trodAll_mk1 (shut_bool Try.underlying4 _), (trodAll_cons_mk (shut_int Try.underlying22 w0) (trodAll_cons_mk (shut_int Try.underlying22 w1) (trodAll_cons_mk (Below.trod laidOut (by kernel_rfl) (of_decide_eq_true (by kernel_rfl)) k2 bel lt2) trodAll_mk0))), rfl, bel.frame _, fun h => by cases h⟩

theorem lifted (os : Os) (started : os.Started) (H : Type) (enc : TypeId × Value → H) (F : Stop.Interp) :
    ReturnsInHanded {} Try.checked os 3 .any ((Rows.OpenSpec.upto Rows.stallRateSpec).pre6 enc Try.prog Try.f3 Rows.stallRateUptoRow.domain false) (((Rows.OpenSpec.upto Rows.stallRateSpec).at F).post enc Try.prog Try.f3 false true false false) := by
  refine returnsInHanded_of_cond (C := Try.checked) (s := Rows.OpenSpec.upto Rows.stallRateSpec) (k := Rows.uptoSmall) rfl own started (by kernel_rfl) Try.func3
    (OpenSpec.witness (enc := enc) (C := Try.checked) (s := Rows.OpenSpec.upto Rows.stallRateSpec) (k := Rows.uptoSmall) rfl false ⟨#[], #[.int .u32 0, .int .u32 0, .slice none 0 0], []⟩ 8 (by kernel_rfl) (by kernel_rfl) (by kernel_rfl)
      (x := ([.lit (.int .u32 0), .lit (.int .u32 0), .nil], [], [])) (by kernel_rfl) rfl (by kernel_rfl)) ?_
  intro W base args ds gs before hval hW _ hk _
  exact contract H enc W base args ds gs before hval hW hk

theorem over : Rows.stallRateUptoRow.holds Try.pinned (Rows.OpenSpec.upto Rows.stallRateSpec) :=
  OpenClaim.holds_of_cond 3 Try.f3 rfl rfl rfl rfl rfl rfl rfl ⟨rfl, rfl, rfl, rfl, rfl⟩ rfl rfl rfl rfl rfl (by kernel_rfl) Try.func3 (by kernel_rfl)
    (of_decide_eq_true (by kernel_rfl)) (by unfold Func.isWrapper; first | (rw [if_pos (by decide +kernel)]; kernel_rfl) | (rw [if_neg (by decide +kernel)]; exact ⟨rfl, rfl⟩))
    (fun os started H enc _ F => lifted os started H enc F)

theorem proved : Rows.StallRateUptoSaid := over
end rate
end Go.Proofs.Ytbiaelaaihieeaa
