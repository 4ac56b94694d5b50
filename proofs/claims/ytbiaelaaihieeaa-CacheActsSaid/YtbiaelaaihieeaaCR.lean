/- The arguments of the cache's statements, opened. -/
import Derived.Test.YtbiaelaaihieeaaRows
import Derived.Test.YtbiaelaaihieeaaO
import Derived.Test.YtbiaelaaihieeaaP2
import Derived.ProofKit
import Derived.JoinedCond
import Derived.ChangeOld
import Derived.Below
import Derived.SizedLaws
import Derived.Lib.SmallJoins
set_option linter.unusedVariables false
set_option linter.unusedSimpArgs false
set_option maxRecDepth 100000
namespace Go.Proofs.Ytbiaelaaihieeaa
namespace cacherow
open Go.ChangeShapes Go.WideShapes Go.ChangeAt Go.RowKit Go.Joins

theorem own : ownKnob Try.prog.godebug = none := by kernel_rfl
theorem laidOut : laidOutB Try.prog = true := by kernel_rfl
theorem cells54 : Try.prog.cellsOf 54 = 3 := by kernel_rfl
theorem bytes60 : Try.prog.bytesOf 60 = 48 := by kernel_rfl
def ActOk (a : CActD) : Prop := a.2.2.1.size ≤ maxLen ∧ (0 ≤ a.2.2.2.1 ∧ a.2.2.2.1 ≤ 18446744073709551615) ∧ (0 ≤ a.2.2.2.2 ∧ a.2.2.2.2 ≤ 18446744073709551615)
/-- An argument that is a slice of acts. -/
theorem open_cacts {H : Type} {enc : TypeId × Value → H} {w : World} {base : Nat} {spare : Nat → Bool} {held : Bool} {fuel : Nat} {v : Value} {x : DataW H × List MemPlace}
    (h : DataW.trod enc Try.prog w base spare held fuel 55 [v] = some x) :
    ∃ (A : Option Addr) (n c : Nat) (l : List CActD), v = .slice A n c ∧ n ≤ maxLen ∧ l.length = n ∧ Rd w w.heap.size 5 A n (cactsC l) ∧ (∀ a ∈ l, ActOk a) ∧ ((x.1 = .nil ∧ n = 0) ∨ ∃ ds sp, x.1 = .slice ds sp ∧ ds.length = n) := by
  refine open_rows 5 (by decide) cactCells ActOk (fun _ => rfl) Try.underlying55 (by kernel_rfl) (fun m cs y hlen ht => ?_) h
  obtain ⟨xs, k, _, rfl, _, hxl, hf⟩ := DataW.trod_struct Try.underlying60 ht
  match cs, hlen with
  | [c0, c1, c2, c3, c4], _ =>
    have f0 := hf 0 _ rfl
    have f1 := hf 1 _ rfl
    have f2 := hf 2 _ rfl
    have f3 := hf 3 _ rfl
    have f4 := hf 4 _ rfl
    match xs, hxl with
    | [y0, y1, y2, y3, y4], _ =>
      obtain ⟨n0, e0, _, _⟩ := DataW.trod_int Try.underlying3 (show DataW.trod enc Try.prog w base spare held k 3 [c0] = some y0 from f0)
      obtain ⟨n1, e1, _, _⟩ := DataW.trod_int Try.underlying3 (show DataW.trod enc Try.prog w base spare held k 3 [c1] = some y1 from f1)
      obtain ⟨s2, e2, _, w2⟩ := DataW.trod_string Try.underlying9 (show DataW.trod enc Try.prog w base spare held k 9 [c2] = some y2 from f2)
      obtain ⟨n3, e3, _, w3⟩ := DataW.trod_int Try.underlying29 (show DataW.trod enc Try.prog w base spare held k 29 [c3] = some y3 from f3)
      obtain ⟨n4, e4, _, w4⟩ := DataW.trod_int Try.underlying29 (show DataW.trod enc Try.prog w base spare held k 29 [c4] = some y4 from f4)
      simp only [List.cons.injEq, and_true] at e0 e1 e2 e3 e4
      subst e0; subst e1; subst e2; subst e3; subst e4
      refine ⟨(n0, n1, s2, n3, n4), rfl, w2, ?_, ?_⟩
      · simpa [Lit.wf, IntKind.min, IntKind.max, IntKind.signed, IntKind.bits] using w3
      · simpa [Lit.wf, IntKind.min, IntKind.max, IntKind.signed, IntKind.bits] using w4
end cacherow
end Go.Proofs.Ytbiaelaaihieeaa
