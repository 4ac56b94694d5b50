/- CacheActs: the statement, for every input. No condition. -/
import Derived.Test.YtbiaelaaihieeaaEG
import Derived.Test.YtbiaelaaihieeaaCR
set_option linter.unusedVariables false
set_option linter.unusedSimpArgs false
set_option maxRecDepth 100000
namespace Go.Proofs.Ytbiaelaaihieeaa
open Go.ChangeShapes Go.WideShapes Go.ChangeAt Go.RowKit Go.Joins

namespace cacts
open cacherow
theorem lifted (os : Os) (started : os.Started) (H : Type) (enc : TypeId × Value → H) :
    ReturnsInHanded {} Try.checked os 9 .any (Rows.cacheActsSpec.pre6 enc Try.prog Try.f9 Rows.cacheActsRow.domain false) (Rows.cacheActsSpec.post enc Try.prog Try.f9 false true false false) := by
  refine returnsInHanded_of_change_sized (C := Try.checked) own started (by kernel_rfl) Try.func9
    (ChangeSpec.witness6 (enc := enc) (C := Try.checked) false ⟨#[], #[.agg #[.int .i64 0, .int .u64 0, .bool false], .slice none 0 0], []⟩ 8 (by kernel_rfl) (by kernel_rfl) (by kernel_rfl) (by kernel_rfl)) ?_
  intro W base args ds gs before hval0 hW hcnd hsz0 _
  have hval : ∀ (j : Nat) t v, Try.f9.params[j]? = some t → args[j]? = some v → Value.okWide Try.prog W .any base t v := hval0
  have hW' := hW
  obtain ⟨p, q, hA0, hV, rfl, hfz, hnd⟩ := hW
  have hA : DataW.TrodAll enc Try.prog W 0 (fun _ => true) true Try.f9.params.toList args.toList ds p := hA0
  have hsz : (DataW.weightsEach Try.prog (Try.f9.params.toList ++ Rows.cacheActsSpec.plain.varTypes Try.prog) (ds ++ gs)).all (· ≤ reachBytes) = true := hsz0
  rw [Try.params9] at hA hval hsz
  obtain ⟨v0, vs0, d0, ds0, p0, q0, hargs, rfl, rfl, h0, r0⟩ := trodAll_cons hA
  obtain ⟨v1, vs1, d1, ds1, p1, q1, rfl, rfl, rfl, h1, r1⟩ := trodAll_cons r0
  obtain ⟨rfl, rfl, rfl⟩ := trodAll_nil r1
  obtain rfl : args = #[v0, v1] := by cases args; simp_all
  obtain ⟨rfl, rfl⟩ := trodVars_none hV
  have k0 := h0
  have lt0 : ∀ x ∈ p0, x.block < W.heap.size := by obtain ⟨m, hm⟩ := k0; exact DataW.trod_lt m _ _ _ hm
  obtain ⟨c0, c1, c2, y0, y1, y2, m, rfl, rfl, rfl, hy0, hy1, hy2⟩ := open_agg3 Try.underlying54 (by kernel_rfl) cells54 (hval 0 54 v0 rfl rfl) h0
  obtain ⟨n, e0, rfl, wn⟩ := DataW.trod_int Try.underlying3 hy0
  obtain ⟨room, e1, rfl, wr⟩ := DataW.trod_int Try.underlying29 hy1
  obtain ⟨st, e2, rfl⟩ := DataW.trod_bool Try.underlying4 hy2
  simp only [List.cons.injEq, and_true] at e0 e1 e2
  subst e0; subst e1; subst e2
  have k1 := h1
  have lt1 : ∀ x ∈ p1, x.block < W.heap.size := by obtain ⟨m, hm⟩ := k1; exact DataW.trod_lt m _ _ _ hm
  obtain ⟨A, N, c, l, rfl, hmax, hlen, hRd, hpos, hbulk⟩ : ∃ (A : Option Addr) (n c : Nat) (l : List CActD), v1 = .slice A n c ∧ n ≤ maxLen ∧ l.length = n ∧ Rd W W.heap.size 5 A n (cactsC l) ∧ (∀ a ∈ l, ActOk a) ∧ ((d1 = .nil ∧ n = 0) ∨ ∃ ds sp, d1 = .slice ds sp ∧ ds.length = n) := by
    obtain ⟨fuel, hf⟩ := h1
    obtain ⟨A, n, c, e⟩ := okWide_slice Try.underlying55 (hval 1 55 v1 rfl rfl)
    subst e
    exact open_cacts hf
  have hN : N ≤ 4398046511103 := by
    rcases hbulk with ⟨_, rfl⟩ | ⟨ds, sp, rfl, hl⟩
    · exact Nat.zero_le _
    · have := sized_slice hsz (j := 1) (t := 55) (e := 60) rfl rfl Try.underlying55
      rw [bytes60, hl] at this
      simp only [reachBytes] at this
      omega
  clear hA0 hval0
  have b1 : 0 ≤ room ∧ room ≤ 18446744073709551615 := by simpa [Lit.wf, IntKind.min, IntKind.max, IntKind.signed, IntKind.bits] using wr
  have wk : Calls Try.prog 9 #[.agg #[.int .i64 n, .int .u64 room, .bool st], .slice A N c] W fun e w' => e = .returned (.bool true) ∧ Below W.heap.size W w' := by
    by_cases h : n < 1 ∨ 64 < n
    · exact acts_no n room st _ W h
    · obtain ⟨m, rfl⟩ : ∃ m : Nat, n = m := ⟨n.toNat, by omega⟩
      exact acts_ok m room st A N c l W (by omega) (by omega) b1 hRd hN hpos
  refine wk.mono fun e W' ⟨he, bel⟩ => ?_
  subst he
  exact ⟨_, rfl, _, _, _, [], _, [], hW', trodAll_mk1 (shut_bool Try.underlying4 _), (trodAll_cons_mk (Below.trod laidOut (by kernel_rfl) (of_decide_eq_true (by kernel_rfl)) k0 bel lt0) (trodAll_cons_mk (Below.trod laidOut (by kernel_rfl) (of_decide_eq_true (by kernel_rfl)) k1 bel lt1) trodAll_mk0)), rfl, bel.frame _, fun h => by cases h⟩

theorem over : Rows.cacheActsRow.holds Try.pinned (OpenSpec.ofChange Rows.cacheActsSpec) :=
  OpenClaim.holds_of_wide 9 Try.f9 rfl rfl rfl rfl rfl rfl rfl ⟨rfl, rfl, rfl, rfl, rfl⟩ rfl rfl rfl rfl rfl (by kernel_rfl) Try.func9 (by kernel_rfl)
    (of_decide_eq_true (by kernel_rfl)) (by unfold Func.isWrapper; first | (rw [if_pos (by decide +kernel)]; kernel_rfl) | (rw [if_neg (by decide +kernel)]; exact ⟨rfl, rfl⟩))
    (fun os started H enc _ => lifted os started H enc)

theorem proved : Rows.CacheActsSaid := over
end cacts
end Go.Proofs.Ytbiaelaaihieeaa
