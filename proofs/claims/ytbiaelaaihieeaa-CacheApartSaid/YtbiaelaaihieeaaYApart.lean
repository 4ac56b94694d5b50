/- CacheApart: the statement, for every input. No condition. -/
import Derived.Test.YtbiaelaaihieeaaP8
import Derived.Test.YtbiaelaaihieeaaCR
set_option linter.unusedVariables false
set_option linter.unusedSimpArgs false
set_option maxRecDepth 100000
namespace Go.Proofs.Ytbiaelaaihieeaa
open Go.ChangeShapes Go.WideShapes Go.ChangeAt Go.RowKit Go.Joins

namespace capart
open cacherow
theorem lifted (os : Os) (started : os.Started) (H : Type) (enc : TypeId × Value → H) :
    ReturnsInHanded {} Try.checked os 7 .any (Rows.cacheApartSpec.pre6 enc Try.prog Try.f7 Rows.cacheApartRow.domain false) (Rows.cacheApartSpec.post enc Try.prog Try.f7 false true false false) := by
  refine returnsInHanded_of_change_sized (C := Try.checked) own started (by kernel_rfl) Try.func7
    (ChangeSpec.witness6 (enc := enc) (C := Try.checked) false ⟨#[], #[.int .u64 0, .slice none 0 0, .string ⟨#[]⟩], []⟩ 8 (by kernel_rfl) (by kernel_rfl) (by kernel_rfl) (by kernel_rfl)) ?_
  intro W base args ds gs before hval0 hW hcnd hsz0 _
  have hval : ∀ (j : Nat) t v, Try.f7.params[j]? = some t → args[j]? = some v → Value.okWide Try.prog W .any base t v := hval0
  have hW' := hW
  obtain ⟨p, q, hA0, hV, rfl, hfz, hnd⟩ := hW
  have hA : DataW.TrodAll enc Try.prog W 0 (fun _ => true) true Try.f7.params.toList args.toList ds p := hA0
  have hsz : (DataW.weightsEach Try.prog (Try.f7.params.toList ++ Rows.cacheApartSpec.plain.varTypes Try.prog) (ds ++ gs)).all (· ≤ reachBytes) = true := hsz0
  rw [Try.params7] at hA hval hsz
  obtain ⟨v0, vs0, d0, ds0, p0, q0, hargs, rfl, rfl, h0, r0⟩ := trodAll_cons hA
  obtain ⟨v1, vs1, d1, ds1, p1, q1, rfl, rfl, rfl, h1, r1⟩ := trodAll_cons r0
  obtain ⟨v2, vs2, d2, ds2, p2, q2, rfl, rfl, rfl, h2, r2⟩ := trodAll_cons r1
  obtain ⟨rfl, rfl, rfl⟩ := trodAll_nil r2
  obtain rfl : args = #[v0, v1, v2] := by cases args; simp_all
  obtain ⟨rfl, rfl⟩ := trodVars_none hV
  have k0 := h0
  have lt0 : ∀ x ∈ p0, x.block < W.heap.size := by obtain ⟨m, hm⟩ := k0; exact DataW.trod_lt m _ _ _ hm
  obtain ⟨room, rfl, wr⟩ : ∃ n : Int, v0 = .int .u64 n ∧ (Lit.wf (.int .u64 n)) := by
    obtain ⟨fuel, hf⟩ := h0
    obtain ⟨t, rfl⟩ := okWide_int Try.underlying29 (hval 0 29 v0 rfl rfl)
    obtain ⟨s, he, _, hs⟩ := DataW.trod_int Try.underlying29 hf
    have he : [Value.int .u64 t] = [.int .u64 s] := he
    injection he with he; injection he with _ he
    exact ⟨t, rfl, by rw [he]; exact hs⟩
  have k1 := h1
  have lt1 : ∀ x ∈ p1, x.block < W.heap.size := by obtain ⟨m, hm⟩ := k1; exact DataW.trod_lt m _ _ _ hm
  obtain ⟨A, N, c, l, rfl, hmax, hlen, hRd, hpos, hbulk⟩ : ∃ (A : Option Addr) (n c : Nat) (l : List CActD), v1 = .slice A n c ∧ n ≤ maxLen ∧ l.length = n ∧ Rd W W.heap.size 5 A n (cactsC l) ∧ (∀ a ∈ l, ActOk a) ∧ ((d1 = .nil ∧ n = 0) ∨ ∃ ds sp, d1 = .slice ds sp ∧ ds.length = n) := by
    obtain ⟨fuel, hf⟩ := h1
    obtain ⟨A, n, c, e⟩ := okWide_slice Try.underlying55 (hval 1 55 v1 rfl rfl)
    subst e
    exact open_cacts hf
  have hN : N ≤ 4398046511103 := by
    rcases hbulk with ⟨_, rfl⟩ | ⟨ds, sp, rfl, hl⟩
    · exact Nat.zero_le _
    · have := sized_slice hsz (j := 1) (t := 55) (e := 60) rfl rfl Try.underlying55
      rw [bytes60, hl] at this
      simp only [reachBytes] at this
      omega
  have k2 := h2
  have lt2 : ∀ x ∈ p2, x.block < W.heap.size := by obtain ⟨m, hm⟩ := k2; exact DataW.trod_lt m _ _ _ hm
  obtain ⟨key, rfl, hkey⟩ : ∃ s : ByteArray, v2 = .string s ∧ s.size ≤ maxLen := by
    obtain ⟨fuel, hf⟩ := h2
    have hl : ∃ t, v2 = .string t := okWide_string Try.underlying9 (hval 2 9 v2 rfl rfl)
    obtain ⟨t, rfl⟩ := hl
    obtain ⟨s, he, _, hs⟩ := DataW.trod_string Try.underlying9 hf
    have he : [Value.string t] = [.string s] := he
    injection he with he; injection he with he
    exact ⟨t, rfl, by rw [he]; exact hs⟩
  clear hA0 hval0
  have b1 : 0 ≤ room ∧ room ≤ 18446744073709551615 := by simpa [Lit.wf, IntKind.min, IntKind.max, IntKind.signed, IntKind.bits] using wr
  have wk : Calls Try.prog 7 #[.int .u64 room, .slice A N c, .string key] W fun e w' => e = .returned (.bool true) ∧ Below W.heap.size W w' := apart_ok room A N c l key W b1 hkey hRd hN (fun a ha => ⟨(hpos a ha).1, (hpos a ha).2.2⟩)
  refine wk.mono fun e W' ⟨he, bel⟩ => ?_
  subst he
  exact ⟨_, rfl, _, _, _, [], _, [], hW', trodAll_mk1 (shut_bool Try.underlying4 _), (trodAll_cons_mk (Below.trod laidOut (by kernel_rfl) (of_decide_eq_true (by kernel_rfl)) k0 bel lt0) (trodAll_cons_mk (Below.trod laidOut (by kernel_rfl) (of_decide_eq_true (by kernel_rfl)) k1 bel lt1) (trodAll_cons_mk (Below.trod laidOut (by kernel_rfl) (of_decide_eq_true (by kernel_rfl)) k2 bel lt2) trodAll_mk0))), rfl, bel.frame _, fun h => by cases h⟩

theorem over : Rows.cacheApartRow.holds Try.pinned (OpenSpec.ofChange Rows.cacheApartSpec) :=
  OpenClaim.holds_of_wide 7 Try.f7 rfl rfl rfl rfl rfl rfl rfl ⟨rfl, rfl, rfl, rfl, rfl⟩ rfl rfl rfl rfl rfl (by kernel_rfl) Try.func7 (by kernel_rfl)
    (of_decide_eq_true (by kernel_rfl)) (by unfold Func.isWrapper; first | (rw [if_pos (by decide +kernel)]; kernel_rfl) | (rw [if_neg (by decide +kernel)]; exact ⟨rfl, rfl⟩))
    (fun os started H enc _ => lifted os started H enc)

theorem proved : Rows.CacheApartSaid := over
end capart
end Go.Proofs.Ytbiaelaaihieeaa
