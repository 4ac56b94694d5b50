/- The limiter of stall: New, Ask. -/
import Derived.Test.YtbiaelaaihieeaaS
import Derived.Deep.RegionLaw
set_option linter.unusedVariables false
set_option linter.unusedSimpArgs false
set_option maxRecDepth 100000
namespace Go.Proofs.Ytbiaelaaihieeaa
open Go.RowKit
variable {B : Nat}

theorem new_ok (r b : Int) (w : World) (h0 : 0 < r) (h1 : r ≤ b) :
    Calls Try.prog 11 #[.int .u64 r, .int .u64 b] w fun e w' => e = .returned (.tuple #[.pointer (some ⟨w.heap.size, 0, none⟩), .int .i64 0]) ∧
      w' = w.alloc (.cells #[.int .u64 r, .int .u64 b, .int .u64 b, .slice none 0 0, .slice none 0 0, .int .i64 0] 84) := by
  refine calls_of fun R HR => ?_
  have e1 : (r == 0) = false := by simp; omega
  have e2 : (b == 0) = false := by simp; omega
  have e3 : ¬ b < r := by omega
  go_enter Try.func11, Try.ntmps11
  go_wp2
  exact HR.out _ _ ⟨rfl, rfl⟩
theorem new_no (r b : Int) (w : World) (h0 : 0 ≤ r) (h1 : 0 ≤ b) (h : ¬ (0 < r ∧ r ≤ b)) :
    Calls Try.prog 11 #[.int .u64 r, .int .u64 b] w fun e w' => e = .returned (.tuple #[.pointer none, .int .i64 1]) ∧ w' = w := by
  refine calls_of fun R HR => ?_
  by_cases e1 : r = 0
  · subst e1
    clear h
    go_enter Try.func11, Try.ntmps11
    go_wp2
    exact HR.out _ _ ⟨rfl, rfl⟩
  · by_cases e2 : b = 0
    · subst e2
      have e3 : (r == 0) = false := by simp; omega
      clear h
      go_enter Try.func11, Try.ntmps11
      go_wp2
      exact HR.out _ _ ⟨rfl, rfl⟩
    · have e3 : (r == 0) = false := by simp; omega
      have e4 : (b == 0) = false := by simp; omega
      have e5 : b < r := by omega
      clear h
      go_enter Try.func11, Try.ntmps11
      go_wp2
      exact HR.out _ _ ⟨rfl, rfl⟩
theorem of_any (b : Bool) (w : World) : Calls Try.prog 39 #[.bool b] w fun e w' => e = .returned (.int .i64 (if b = true then 0 else 1)) ∧ w' = w := by
  refine calls_of fun R HR => ?_
  cases b
  all_goals
    go_enter Try.func39, Try.ntmps39
    go_wp2
    exact HR.out _ _ ⟨rfl, rfl⟩
theorem left_any (g : Nat) (L : Lim) (A0 : Option Addr) (c0 : Nat) (A1 : Option Addr) (c1 : Nat) (w : World) (hp : PLim B w g L A0 c0 A1 c1) :
    Calls Try.prog 22 #[.pointer (some ⟨g, 0, none⟩)] w fun e w' => e = .returned (.int .u64 L.left) ∧ w' = w := by
  refine calls_of fun R HR => ?_
  have hb := hp.blk
  go_enter Try.func22, Try.ntmps22
  go_wp2
  exact HR.out _ _ ⟨rfl, rfl⟩
set_option maxHeartbeats 800000 in
theorem ask_no (g : Nat) (L : Lim) (A0 : Option Addr) (c0 : Nat) (A1 : Option Addr) (c1 : Nat) (w : World) (who b : Int) (u : Bool) (ok : L.Ok) (hp : PLim B w g L A0 c0 A1 c1) (h : L.burst < b ∨ 4096 ≤ L.us.length + L.os.length) :
    Calls Try.prog 12 #[.pointer (some ⟨g, 0, none⟩), .int .i64 who, .int .u64 b, .bool u] w fun e w' => e = .returned (.int .i64 2) ∧ ∃ n, w' = w.drewN n := by
  refine calls_of fun R HR => ?_
  have hb := hp.blk
  have hm := ok.many
  by_cases h1 : L.burst < b
  · clear h hp ok
    go_enter Try.func12, Try.ntmps12
    go_wp2
    go_quiet (fail)
    go_wp2
    exact HR.out _ _ ⟨rfl, _, rfl⟩
  · have h2 : (4096 : Int) ≤ (L.us.length : Int) + (L.os.length : Int) := by omega
    have h3 : 4096 ≤ L.us.length + L.os.length := by omega
    have hw : IntKind.i64.wrap ((L.us.length : Int) + (L.os.length : Int)) = (L.us.length : Int) + (L.os.length : Int) := by rw [IntKind.wrap_i64]; omega
    clear h hp ok
    go_enter Try.func12, Try.ntmps12
    go_wp2
    go_quiet (fail)
    go_wp2
    exact HR.out _ _ ⟨rfl, _, rfl⟩
set_option maxHeartbeats 800000 in
theorem ask_urgent (g : Nat) (L : Lim) (A0 : Option Addr) (c0 : Nat) (A1 : Option Addr) (c1 : Nat) (w : World) (who b : Int) (ok : L.Ok) (hp : PLim B w g L A0 c0 A1 c1) (h1 : b ≤ L.burst) (h2 : L.us.length + L.os.length < 4096) :
    Calls Try.prog 12 #[.pointer (some ⟨g, 0, none⟩), .int .i64 who, .int .u64 b, .bool true] w fun e w' => ∃ A c, e = .returned (.int .i64 0) ∧ PLim B w' g { L with us := L.us ++ [(who, b, true)] } A c A1 c1 ∧
      Chg (fun k => k = g ∨ some k = (Value.slice A0 L.us.length c0).ownBlock) w w' := by
  refine calls_of fun R HR => ?_
  have hb := hp.blk
  have lg := Blk.lt hb
  have e1 : ¬ L.burst < b := by omega
  have e2 : ¬ (4096 : Int) ≤ (L.us.length : Int) + (L.os.length : Int) := by omega
  have hw : IntKind.i64.wrap ((L.us.length : Int) + (L.os.length : Int)) = (L.us.length : Int) + (L.os.length : Int) := by rw [IntKind.wrap_i64]; omega
  have Hp := hid hp
  clear ok hp
  obtain ⟨i0, hi0, hz0, hz1, hz2⟩ := info_parts Try.info87
  go_enter Try.func12, Try.ntmps12
  go_wp2
  go_quiet (fail)
  go_wp2_with (go_at_call 39; refine (of_any _ _).mono ?_; rintro e w' ⟨rfl, rfl⟩)
  have Hne := hid (own_ne_blk Hp.out.own0 hb (show (87 : TypeId) ≠ 84 by decide))
  have Hlt := hid lg
  have Hb := hid hb
  go_region_law ((refine step_append_rd _ rfl (.tmp 41) (.tmp 46) _ rfl B 87 i0 _ 3 24 Try.underlying81 hi0 hz0 hz1 hz2 rfl (by decide) (.slice A0 L.us.length c0) L.us.length (asks L.us) rfl ?_ (w.heap.size + 1) (some ⟨w.heap.size, 0, none⟩) 1 1 (askCells (who, b, true)) rfl ?_ ?_ ?_ ?_ ?_ ?_; (exact own_drewN (Hp.out.own0.alloc _) _); (exact Rd.drewN (rd_new w 87 3 1 (askCells (who, b, true)) rfl) _); (simp [askCells, Value.oneCell']); (simp only [maxLen]; omega); (omega); (have := Hp.out.base; have := Hlt.out; simp; omega); (intro v2 w2 hown2 hg2 hat2; obtain ⟨A3, c3, rfl, _⟩ := own_shape hown2; have hb2 := (gr_old hg2 (bl_drewN (bl_alloc (Below.refl _ _) _) _) Hlt.out Hne.out).trans Hb.out)))
  all_goals
    go_wp2
    have ho1 := (own_grown (own_drewN (Hp.out.own1.alloc (.cells #[.int .i64 who, .int .u64 b, .bool true] 87)) _) hg2 (by
      rcases Hp.out.apart with h | h
      · cases hv : (Value.slice A1 L.os.length c1).ownBlock with
        | none => exact .inl rfl
        | some k => exact .inr (by rw [h]; simp)
      · exact .inr (Ne.symm h)))
    refine HR.out _ _ ⟨A3, c3, rfl, ⟨?_, ?_, ?_, ?_, Hp.out.base⟩, ?_⟩
    · simp [go_sem, hb2]
    · have := own_set (p := ⟨g, 3, none⟩) hown2 (own_ne_blk hown2 hb2 (by decide)) (.slice A3 (L.us.length + 1) c3)
      simpa [asks, go_sem] using this
    · exact own_set (p := ⟨g, 3, none⟩) ho1 (own_ne_blk ho1 hb2 (by decide)) _
    · simp only [List.length_append, List.length_cons, List.length_nil]
      rcases hat2 with h | h
      · rw [h]; exact Hp.out.apart
      · refine .inr ?_
        rw [h]
        intro e
        have := own_lt Hp.out.own1 e.symm
        simp at this
        omega
    · refine Chg.setCell (p := ⟨g, 3, none⟩) (Chg.grown (Chg.drewN ((Chg.refl _ _).alloc _) _) hg2 (fun k hk _ => .inr hk.symm)) (fun _ => .inl rfl) _
set_option maxHeartbeats 800000 in
theorem ask_other (g : Nat) (L : Lim) (A0 : Option Addr) (c0 : Nat) (A1 : Option Addr) (c1 : Nat) (w : World) (who b : Int) (ok : L.Ok) (hp : PLim B w g L A0 c0 A1 c1) (h1 : b ≤ L.burst) (h2 : L.us.length + L.os.length < 4096) :
    Calls Try.prog 12 #[.pointer (some ⟨g, 0, none⟩), .int .i64 who, .int .u64 b, .bool false] w fun e w' => ∃ A c, e = .returned (.int .i64 0) ∧ PLim B w' g { L with os := L.os ++ [(who, b, false)] } A0 c0 A c ∧
      Chg (fun k => k = g ∨ some k = (Value.slice A1 L.os.length c1).ownBlock) w w' := by
  refine calls_of fun R HR => ?_
  have hb := hp.blk
  have lg := Blk.lt hb
  have e1 : ¬ L.burst < b := by omega
  have e2 : ¬ (4096 : Int) ≤ (L.us.length : Int) + (L.os.length : Int) := by omega
  have hw : IntKind.i64.wrap ((L.us.length : Int) + (L.os.length : Int)) = (L.us.length : Int) + (L.os.length : Int) := by rw [IntKind.wrap_i64]; omega
  have Hp := hid hp
  clear ok hp
  obtain ⟨i0, hi0, hz0, hz1, hz2⟩ := info_parts Try.info87
  go_enter Try.func12, Try.ntmps12
  go_wp2
  go_quiet (fail)
  go_wp2_with (go_at_call 39; refine (of_any _ _).mono ?_; rintro e w' ⟨rfl, rfl⟩)
  have Hne := hid (own_ne_blk Hp.out.own1 hb (show (87 : TypeId) ≠ 84 by decide))
  have Hlt := hid lg
  have Hb := hid hb
  go_region_law ((refine step_append_rd _ rfl (.tmp 41) (.tmp 46) _ rfl B 87 i0 _ 3 24 Try.underlying81 hi0 hz0 hz1 hz2 rfl (by decide) (.slice A1 L.os.length c1) L.os.length (asks L.os) rfl ?_ (w.heap.size + 1) (some ⟨w.heap.size, 0, none⟩) 1 1 (askCells (who, b, false)) rfl ?_ ?_ ?_ ?_ ?_ ?_; (exact own_drewN (Hp.out.own1.alloc _) _); (exact Rd.drewN (rd_new w 87 3 1 (askCells (who, b, false)) rfl) _); (simp [askCells, Value.oneCell']); (simp only [maxLen]; omega); (omega); (have := Hp.out.base; have := Hlt.out; simp; omega); (intro v2 w2 hown2 hg2 hat2; obtain ⟨A3, c3, rfl, _⟩ := own_shape hown2; have hb2 := (gr_old hg2 (bl_drewN (bl_alloc (Below.refl _ _) _) _) Hlt.out Hne.out).trans Hb.out)))
  all_goals
    go_wp2
    have ho1 := (own_grown (own_drewN (Hp.out.own0.alloc (.cells #[.int .i64 who, .int .u64 b, .bool false] 87)) _) hg2 Hp.out.apart)
    refine HR.out _ _ ⟨A3, c3, rfl, ⟨?_, ?_, ?_, ?_, Hp.out.base⟩, ?_⟩
    · simp [go_sem, hb2]
    · exact own_set (p := ⟨g, 4, none⟩) ho1 (own_ne_blk ho1 hb2 (by decide)) _
    · have := own_set (p := ⟨g, 4, none⟩) hown2 (own_ne_blk hown2 hb2 (by decide)) (.slice A3 (L.os.length + 1) c3)
      simpa [asks, go_sem] using this
    · simp only [List.length_append, List.length_cons, List.length_nil]
      rcases hat2 with h | h
      · rw [h]; exact Hp.out.apart
      · cases hv : (Value.slice A0 L.us.length c0).ownBlock with
        | none => exact .inl rfl
        | some k =>
          refine .inr ?_
          rw [h]
          intro e
          have := own_lt Hp.out.own0 (hv.trans e)
          simp at this
          omega
    · refine Chg.setCell (p := ⟨g, 4, none⟩) (Chg.grown (Chg.drewN ((Chg.refl _ _).alloc _) _) hg2 (fun k hk _ => .inr hk.symm)) (fun _ => .inl rfl) _
end Go.Proofs.Ytbiaelaaihieeaa
