/- The limiter of stall: a step. -/
import Derived.Test.YtbiaelaaihieeaaL
set_option linter.unusedVariables false
set_option linter.unusedSimpArgs false
set_option maxRecDepth 100000
namespace Go.Proofs.Ytbiaelaaihieeaa
open Go.RowKit
variable {B : Nat}

def ints (l : List Int) : List Value := l.map fun x => .int .i64 x
theorem ints_length (l : List Int) : (ints l).length = l.length := by simp [ints]
theorem ints_one (l : List Int) : ∀ u ∈ ints l, u.oneCell' = true := by
  intro u hu
  simp only [ints, List.mem_map] at hu
  obtain ⟨x, _, rfl⟩ := hu
  rfl
theorem Try.info3 : (Try.prog.info? 3).map (fun i => (i.zero, i.size, i.bytes)) = some (some (.int .i64 0), 1, 8) := by kernel_rfl

/-- What holds at the head of the loop in Step. -/
def StepRel (w : World) (g : Nat) (N : Nat) (L0 : Lim) (k : Nat) (v : Value) (wr : World) : Prop :=
  ∃ (L : Lim) (l : List Int) (A0 : Option Addr) (c0 : Nat) (A1 : Option Addr) (c1 : Nat) (A : Option Addr) (c : Nat), v = .slice A l.length c ∧ wr.ownsRow w.heap.size 3 1 (.slice A l.length c) l.length (ints l) ∧ PLim B wr g L A0 c0 A1 c1 ∧ L.Ok ∧
    L.us.length + L.os.length < k ∧ l.length + (L.us.length + L.os.length) ≤ 4096 ∧ Lim.steps N L0 = (l ++ (Lim.steps k L).1, (Lim.steps k L).2) ∧ Chg (fun k => k = g) w wr

set_option maxHeartbeats 800000 in
theorem step_any (g : Nat) (L : Lim) (A0 : Option Addr) (c0 : Nat) (A1 : Option Addr) (c1 : Nat) (w : World) (ok : L.Ok) (hp : PLim B w g L A0 c0 A1 c1) :
    Calls Try.prog 13 #[.pointer (some ⟨g, 0, none⟩)] w fun e w' => ∃ A c A0' c0' A1' c1', e = .returned (.slice A L.step.1.length c) ∧
      w'.ownsRow w.heap.size 3 1 (.slice A L.step.1.length c) L.step.1.length (ints L.step.1) ∧ PLim B w' g L.step.2 A0' c0' A1' c1' ∧ Chg (fun k => k = g) w w' ∧ L.step.2.Ok := by
  refine calls_of fun R HR => ?_
  have hb := hp.blk
  have Hp := hid hp; clear hp
  have Ok := hid ok; clear ok
  have b1 := Ok.out.left0
  have b2 := Ok.out.rate
  have b3 := Ok.out.left
  have b4 := Ok.out.burst
  have b5 := Ok.out.most
  have Hpl := hid (fun W => plus_any L.left L.rate W (by omega) (by omega))
  obtain ⟨x, hx⟩ : ∃ x, x = plusS L.left L.rate := ⟨_, rfl⟩
  have Hx := hid hx
  rw [← hx] at Hpl
  obtain ⟨y, hmin⟩ : ∃ y, (if L.burst < x then L.burst else x) = y := ⟨_, rfl⟩
  have Hy := hid (show L.fill.left = y by
    rw [← hmin, hx]
    unfold Lim.fill plusS
    dsimp only
    split <;> split <;> split <;> omega)
  clear hx
  have lg : g < w.heap.size := Blk.lt hb
  go_enter Try.func13, Try.ntmps13
  go_wp2
  refine wp_region_still_tail 17 (by kernel_rfl) (by kernel_rfl) ?_
  simp only [List.take_succ_cons, List.take_zero, List.drop_succ_cons, List.drop_zero]
  repeat still_step
  still_call ((Hpl.out _).mono fun _ _ h => ⟨h.1, h.2.symm⟩)
  repeat still_step
  refine wpStill_nil ?_
  go_wp2
  have hp1 : PLim B ((w.setCell ⟨g, 2, none⟩ (.int .u64 y)).drew) g L.fill A0 c0 A1 c1 := by
    obtain ⟨_, o0, o1, ap, bs⟩ := Hp.out
    refine ⟨?_, own_drew (own_set (p := ⟨g, 2, none⟩) o0 (own_ne_blk o0 hb (by decide)) _), own_drew (own_set (p := ⟨g, 2, none⟩) o1 (own_ne_blk o1 hb (by decide)) _), ap, bs⟩
    rw [Hy.out]
    simp [go_sem, hb, Lim.fill]
  have ok1 : L.fill.Ok := by
    have h := Ok.out
    refine Lim.Ok.take h ?_ ?_ <;> (have := h.left0; have := h.rate; have := h.left; have := h.burst; split <;> omega)
  have Hc1 := hid (show Chg (fun k => k = g) w ((w.setCell ⟨g, 2, none⟩ (.int .u64 y)).drew) from Chg.drew (Chg.setCell (F := fun k => k = g) (Chg.refl _ _) (p := ⟨g, 2, none⟩) (fun _ => rfl) _))
  have Hp1 := hid hp1
  have Ok1 := hid ok1
  clear hp1 ok1 hmin Hpl hb b1 b2 b3 b4 b5
  generalize (w.setCell ⟨g, 2, none⟩ (.int .u64 y)).drew = w1 at *
  go_loopg [3] (L.us.length + L.os.length + 1) (fun k v wr => StepRel w g (L.us.length + L.os.length + 1) L.fill k v wr)
  case atStart => exact ⟨L.fill, [], A0, c0, A1, c1, none, 0, rfl, World.ownsRow_nil _ _ _ _, Hp1.out, Ok1.out, by simp [Lim.fill], by have := Ok1.out.many; simpa using this, by simp, Hc1.out⟩
  case round =>
    obtain ⟨L', l, A0', c0', A1', c1', A, c, rfl, hown, hpl, okl, hk, hll, hst, hch⟩ := hrel
    obtain ⟨k', rfl⟩ : ∃ k', gk = k' + 1 := ⟨gk - 1, by omega⟩
    have hb := hpl.blk
    have lg' : g < wr.heap.size := Blk.lt hb
    rcases ahead_cases L'.us.length L'.os.length L'.row with e | e | e
    · have Hah := hid (ahead_lim hpl okl e)
      have hfin : L.step = (l, L') := by
        unfold Lim.step
        rw [hst]
        simp only [Lim.steps, Lim.pick_none e, List.append_nil]
      have Hfin := hid hfin
      have Hown := hid hown
      have Hpl := hid hpl
      have Okl := hid okl
      have Hch := hid hch
      clear hfin hown hpl okl hch hst e hk
      go_wp2_with (go_at_call 41; refine Hah.out.mono ?_; rintro e w' ⟨rfl, nq, rfl⟩)
      go_quiet (fail)
      go_wp2
      refine HR.out _ _ ⟨A, c, A0', c0', A1', c1', ?_⟩
      rw [Hfin.out]
      exact ⟨rfl, Hown.out, (Hpl.out.drewN _).drewN _, (Hch.out.drewN _).drewN _, Okl.out⟩
    · obtain ⟨a, us, hus, hpk⟩ := Lim.pick_zero e
      obtain ⟨b, rfl, hk1⟩ := bytes0 hpl hus
      have hln : L'.us.length = us.length + 1 := by rw [hus]; rfl
      have hpos : (0 : Int) < (L'.us.length : Int) := by omega
      have okp := okl.pick hpk
      have Hah := hid (ahead_lim hpl okl e)
      have q0 := okl.left0
      have q1 := okl.left
      have q2 := okl.most
      have q3 := okp.2.1
      have Hown := hid hown
      have Hpl := hid hpl
      have Okl := hid okl
      have Hch := hid hch
      by_cases hlt : L'.left < a.2.1
      · have hfin : L.step = (l, L') := by
          unfold Lim.step
          rw [hst]
          simp only [Lim.steps, hpk, if_pos hlt, List.append_nil]
        have Hfin := hid hfin
        clear hfin hown hpl okl hch hst e hk okp hus hpk hln
        go_wp2_with (go_at_call 41; refine Hah.out.mono ?_; rintro e w' ⟨rfl, nq, rfl⟩)
        go_quiet (fail)
        go_wp2
        refine HR.out _ _ ⟨A, c, some ⟨b, 0, none⟩, c0', A1', c1', ?_⟩
        rw [Hfin.out]
        exact ⟨rfl, Hown.out, (Hpl.out.drewN _).drewN _, (Hch.out.drewN _).drewN _, Okl.out⟩
      · have Hg := hid (goes0_at hus okl hpl)
        have hstep : Lim.steps (k' + 1) L' = (a.1 :: (Lim.steps k' { L' with us := us, row := if L'.os.length = 0 then 0 else L'.row + 1, left := L'.left - a.2.1 }).1, (Lim.steps k' { L' with us := us, row := if L'.os.length = 0 then 0 else L'.row + 1, left := L'.left - a.2.1 }).2) := by
          simp only [Lim.steps, hpk, if_neg hlt]
        rw [hstep] at hst
        have Hst := hid hst
        have Okp := hid okp
        have Hk := hid hk
        clear hown hpl okl hch hst hstep e hk okp hus hpk hln
        go_wp2_with (go_at_call 41; refine Hah.out.mono ?_; rintro e w' ⟨rfl, nq, rfl⟩)
        go_quiet (fail)
        go_wp2_with (go_at_call 42; refine (Hg.out _ ?_).mono ?_; exact ⟨rfl, rfl, rfl, rfl⟩; rintro e w1 ⟨A2, c2, rfl, hp2, hc2⟩; have hb2 := hp2.blk; dsimp only at hb2; have lg2 := Blk.lt hb2; have Hp2 := hid hp2; have Hc2 := hid hc2; clear hp2 hc2)
        have hwr : IntKind.u64.wrap (L'.left - a.2.1) = L'.left - a.2.1 := by rw [IntKind.wrap_u64]; omega
        refine wp_tail 9 (by kernel_rfl) (by kernel_rfl) ?_
        simp only [List.take_succ_cons, List.take_zero, List.drop_succ_cons, List.drop_zero]
        repeat still_step
        refine wpStill_nil ?_
        clear hwr
        obtain ⟨i3, hi0, hz0, hz1, hz2⟩ := info_parts Try.info3
        have ne1 : w1.heap.size ≠ g := by omega
        have hs1 := Hch.out.size
        have hs2 := Hc2.out.size
        have hwho : (Value.slice A l.length c).ownBlock ≠ some g := own_ne_blk Hown.out hb (by decide)
        have Hw1 := hid (own_chg Hown.out Hc2.out (fun k hk e => hwho (by rw [hk, e])))
        clear hwho
        go_wp2_with (at_builtin; refine wpList_append_rd _ rfl (.tmp 56) (.tmp 59) _ rfl w.heap.size 3 i3 _ 1 8 Try.underlying35 hi0 hz0 hz1 hz2 rfl (by decide) (.slice A l.length c) l.length (ints l) rfl ?ho (w1.heap.size + 2) (some ⟨w1.heap.size + 1, 0, none⟩) 1 1 [.int .i64 a.1] rfl ?hr ?h1 ?h63 ?hb ?hbase ?hk; case' hk => (intro v2 w2 hown2 hg2 hat2; obtain ⟨A3, c3, rfl, _⟩ := own_shape hown2))
        case ho => exact own_drew (((own_set (p := ⟨g, 2, none⟩) Hw1.out (own_ne_blk Hw1.out hb2 (by decide)) _).alloc _).alloc _)
        case hr => exact Rd.drew (by simpa using rd_new ((w1.setCell ⟨g, 2, none⟩ (.int .u64 (L'.left - a.2.1))).alloc (.cells #[.int .i64 a.1, .int .u64 a.2.1, .bool a.2.2] 87)) 3 1 1 [.int .i64 a.1] rfl)
        case h1 => simp [Value.oneCell']
        case h63 => simp only [maxLen]; omega
        case hb => omega
        case hbase => simp; omega
        have hx : ∀ {e sz n : Nat} {v : Value} {xs : List Value}, w1.ownsRow B e sz v n xs → e ≠ 84 → e ≠ 3 → w2.ownsRow B e sz v n xs := fun {e sz n v xs} h h84 h3 => by
          have h4 := own_drew (((own_set (p := ⟨g, 2, none⟩) h (own_ne_blk h hb2 h84) (.int .u64 (L'.left - a.2.1))).alloc (.cells #[.int .i64 a.1, .int .u64 a.2.1, .bool a.2.2] 87)).alloc (.cells #[.int .i64 a.1] 3))
          have h5 := own_drew (((own_set (p := ⟨g, 2, none⟩) Hw1.out (own_ne_blk Hw1.out hb2 (by decide)) (.int .u64 (L'.left - a.2.1))).alloc (.cells #[.int .i64 a.1, .int .u64 a.2.1, .bool a.2.2] 87)).alloc (.cells #[.int .i64 a.1] 3))
          exact own_grown h4 hg2 (own_own_ne h4 h5 h3)
        go_roundg k'
        case measure => omega
        case rel =>
          refine ⟨{ L' with us := us, row := if L'.os.length = 0 then 0 else L'.row + 1, left := L'.left - a.2.1 }, l ++ [a.1], A2, c2, A1', c1', A3, c3, by simp, by simpa [ints] using hown2, ⟨?_, hx Hp2.out.own0 (by decide) (by decide), hx Hp2.out.own1 (by decide) (by decide), Hp2.out.apart, Hp2.out.base⟩, Okp.out.1.take (by omega) (by have := Okp.out.2; dsimp only; omega), ?_, ?_, ?_, ?_⟩
          · refine (hg2.block g (by simp; omega) (own_ne_blk Hw1.out hb2 (by decide)).symm).trans ?_
            show blkOf _ g = _
            simp [go_sem, hb2, lg2]
          · have h1 := Okp.out.2.2.2.1
            have h2 := Hk.out
            dsimp only at h1 ⊢
            omega
          · have h1 := Okp.out.2.2.2.1
            dsimp only at h1 ⊢
            simp only [List.length_append, List.length_cons, List.length_nil]
            omega
          · rw [Hst.out]; simp
          · have h1 : Chg (fun k => k = g) w w1 := Chg.trans Hch.out Hc2.out (fun _ _ h => h) (fun _ _ h => h)
            exact Chg.grown (Chg.drew (((h1.setCell (p := ⟨g, 2, none⟩) (fun _ => rfl) _).alloc _).alloc _)) hg2 (fun k hk hlt => by have := (Hown.out.lt k hk).1; omega)
    · obtain ⟨a, os, hos, hpk⟩ := Lim.pick_one e
      obtain ⟨b, rfl, hk1⟩ := bytes1 hpl hos
      have hln : L'.os.length = os.length + 1 := by rw [hos]; rfl
      have hpos : (0 : Int) < (L'.os.length : Int) := by omega
      have okp := okl.pick hpk
      have Hah := hid (ahead_lim hpl okl e)
      have q0 := okl.left0
      have q1 := okl.left
      have q2 := okl.most
      have q3 := okp.2.1
      have Hown := hid hown
      have Hpl := hid hpl
      have Okl := hid okl
      have Hch := hid hch
      by_cases hlt : L'.left < a.2.1
      · have hfin : L.step = (l, L') := by
          unfold Lim.step
          rw [hst]
          simp only [Lim.steps, hpk, if_pos hlt, List.append_nil]
        have Hfin := hid hfin
        clear hfin hown hpl okl hch hst e hk okp hos hpk hln
        go_wp2_with (go_at_call 41; refine Hah.out.mono ?_; rintro e w' ⟨rfl, nq, rfl⟩)
        go_quiet (fail)
        go_wp2
        refine HR.out _ _ ⟨A, c, A0', c0', some ⟨b, 0, none⟩, c1', ?_⟩
        rw [Hfin.out]
        exact ⟨rfl, Hown.out, (Hpl.out.drewN _).drewN _, (Hch.out.drewN _).drewN _, Okl.out⟩
      · have Hg := hid (goes1_at hos okl hpl)
        have hstep : Lim.steps (k' + 1) L' = (a.1 :: (Lim.steps k' { L' with os := os, row := 0, left := L'.left - a.2.1 }).1, (Lim.steps k' { L' with os := os, row := 0, left := L'.left - a.2.1 }).2) := by
          simp only [Lim.steps, hpk, if_neg hlt]
        rw [hstep] at hst
        have Hst := hid hst
        have Okp := hid okp
        have Hk := hid hk
        clear hown hpl okl hch hst hstep e hk okp hos hpk hln
        go_wp2_with (go_at_call 41; refine Hah.out.mono ?_; rintro e w' ⟨rfl, nq, rfl⟩)
        go_quiet (fail)
        go_wp2_with (go_at_call 42; refine (Hg.out _ ?_).mono ?_; exact ⟨rfl, rfl, rfl, rfl⟩; rintro e w1 ⟨A2, c2, rfl, hp2, hc2⟩; have hb2 := hp2.blk; dsimp only at hb2; have lg2 := Blk.lt hb2; have Hp2 := hid hp2; have Hc2 := hid hc2; clear hp2 hc2)
        have hwr : IntKind.u64.wrap (L'.left - a.2.1) = L'.left - a.2.1 := by rw [IntKind.wrap_u64]; omega
        refine wp_tail 9 (by kernel_rfl) (by kernel_rfl) ?_
        simp only [List.take_succ_cons, List.take_zero, List.drop_succ_cons, List.drop_zero]
        repeat still_step
        refine wpStill_nil ?_
        clear hwr
        obtain ⟨i3, hi0, hz0, hz1, hz2⟩ := info_parts Try.info3
        have ne1 : w1.heap.size ≠ g := by omega
        have hs1 := Hch.out.size
        have hs2 := Hc2.out.size
        have hwho : (Value.slice A l.length c).ownBlock ≠ some g := own_ne_blk Hown.out hb (by decide)
        have Hw1 := hid (own_chg Hown.out Hc2.out (fun k hk e => hwho (by rw [hk, e])))
        clear hwho
        go_wp2_with (at_builtin; refine wpList_append_rd _ rfl (.tmp 56) (.tmp 59) _ rfl w.heap.size 3 i3 _ 1 8 Try.underlying35 hi0 hz0 hz1 hz2 rfl (by decide) (.slice A l.length c) l.length (ints l) rfl ?hox (w1.heap.size + 2) (some ⟨w1.heap.size + 1, 0, none⟩) 1 1 [.int .i64 a.1] rfl ?hrx ?h1x ?h63x ?hbx ?hbasex ?hkx; case' hkx => (intro v2 w2 hown2 hg2 hat2; obtain ⟨A3, c3, rfl, _⟩ := own_shape hown2))
        case hox => exact own_drew (((own_set (p := ⟨g, 2, none⟩) Hw1.out (own_ne_blk Hw1.out hb2 (by decide)) _).alloc _).alloc _)
        case hrx => exact Rd.drew (by simpa using rd_new ((w1.setCell ⟨g, 2, none⟩ (.int .u64 (L'.left - a.2.1))).alloc (.cells #[.int .i64 a.1, .int .u64 a.2.1, .bool a.2.2] 87)) 3 1 1 [.int .i64 a.1] rfl)
        case h1x => simp [Value.oneCell']
        case h63x => simp only [maxLen]; omega
        case hbx => omega
        case hbasex => simp; omega
        have hx : ∀ {e sz n : Nat} {v : Value} {xs : List Value}, w1.ownsRow B e sz v n xs → e ≠ 84 → e ≠ 3 → w2.ownsRow B e sz v n xs := fun {e sz n v xs} h h84 h3 => by
          have h4 := own_drew (((own_set (p := ⟨g, 2, none⟩) h (own_ne_blk h hb2 h84) (.int .u64 (L'.left - a.2.1))).alloc (.cells #[.int .i64 a.1, .int .u64 a.2.1, .bool a.2.2] 87)).alloc (.cells #[.int .i64 a.1] 3))
          have h5 := own_drew (((own_set (p := ⟨g, 2, none⟩) Hw1.out (own_ne_blk Hw1.out hb2 (by decide)) (.int .u64 (L'.left - a.2.1))).alloc (.cells #[.int .i64 a.1, .int .u64 a.2.1, .bool a.2.2] 87)).alloc (.cells #[.int .i64 a.1] 3))
          exact own_grown h4 hg2 (own_own_ne h4 h5 h3)
        go_roundg k'
        case measure => omega
        case rel =>
          refine ⟨{ L' with os := os, row := 0, left := L'.left - a.2.1 }, l ++ [a.1], A0', c0', A2, c2, A3, c3, by simp, by simpa [ints] using hown2, ⟨?_, hx Hp2.out.own0 (by decide) (by decide), hx Hp2.out.own1 (by decide) (by decide), Hp2.out.apart, Hp2.out.base⟩, Okp.out.1.take (by omega) (by have := Okp.out.2; dsimp only; omega), ?_, ?_, ?_, ?_⟩
          · refine (hg2.block g (by simp; omega) (own_ne_blk Hw1.out hb2 (by decide)).symm).trans ?_
            show blkOf _ g = _
            simp [go_sem, hb2, lg2]
          · have h1 := Okp.out.2.2.2.1
            have h2 := Hk.out
            dsimp only at h1 ⊢
            omega
          · have h1 := Okp.out.2.2.2.1
            dsimp only at h1 ⊢
            simp only [List.length_append, List.length_cons, List.length_nil]
            omega
          · rw [Hst.out]; simp
          · have h1 : Chg (fun k => k = g) w w1 := Chg.trans Hch.out Hc2.out (fun _ _ h => h) (fun _ _ h => h)
            exact Chg.grown (Chg.drew (((h1.setCell (p := ⟨g, 2, none⟩) (fun _ => rfl) _).alloc _).alloc _)) hg2 (fun k hk hlt => by have := (Hown.out.lt k hk).1; omega)
end Go.Proofs.Ytbiaelaaihieeaa
