/- StallLimits: the walk. -/
import Derived.Test.YtbiaelaaihieeaaD4
set_option linter.unusedVariables false
set_option linter.unusedSimpArgs false
set_option maxRecDepth 100000
namespace Go.Proofs.Ytbiaelaaihieeaa
open Go.RowKit

set_option maxHeartbeats 3200000 in
theorem limits_ok (r b : Int) (A : Option Addr) (n c : Nat) (l : List ActD) (w : World) (h0 : 0 < r) (h1 : r ≤ b) (h2 : b < 18446744073709551616) (hr : Rd w w.heap.size 4 A n (actsC l)) (hn : n ≤ maxLen) (hpos : ∀ a ∈ l, 0 ≤ a.2.2.1) :
    Calls Try.prog 5 #[.int .u64 r, .int .u64 b, .slice A n c] w fun e w' => e = .returned (.bool true) ∧ Below w.heap.size w w' := by
  refine calls_of fun R HR => ?_
  have Hpos := hid hpos; clear hpos
  have Hr := hid hr; clear hr
  have hn2 := hn
  simp only [maxLen] at hn2
  go_enter Try.func5, Try.ntmps5
  go_wp2_with (first | (go_at_call 11; refine (new_ok r b _ h0 h1).mono ?_; rintro e w1 ⟨rfl, rfl⟩) | (go_at_call 15; refine (rnew_ok r b _ h0 h1).mono ?_; rintro e w2 ⟨rfl, rfl⟩))
  go_loopg [13] n (fun gk v13 wr => LimitRel w w.heap.size (w.heap.size + 1) n gk v13 wr)
  case atStart =>
    refine ⟨0, Lim.new r b, Nat.zero_le _, rfl, rfl, ?_⟩
    have hp := new_at (B := w.heap.size) r b w (Nat.le_refl _)
    have hd := rnew_at r b (w.alloc (.cells #[.int .u64 r, .int .u64 b, .int .u64 b, .slice none 0 0, .slice none 0 0, .int .i64 0] 84))
    simp only [World.size_alloc] at hd
    exact ⟨hp.below (bl_alloc (Below.refl _ _) _), hd, new_okk r b h0 h1 h2, ⟨by simp [Lim.new], by simp [Lim.new]⟩, by omega, bl_alloc (bl_alloc (Below.refl _ _) _) _⟩
  case round =>
    obtain ⟨i, L, hi, rfl, rfl, inv⟩ := hrel
    obtain ⟨wo, hwo⟩ : ∃ wo : World, wo = wr := ⟨_, rfl⟩
    subst hwo
    have Inv := hid inv
    clear inv
    by_cases hlt : i < n
    · obtain ⟨ab, o, hl, rfl, lab, k0, k1, k2, k3⟩ := act_all Hr.out Inv.out.below hlt
      have hi0 : (0 : Int) ≤ (i : Int) := Int.natCast_nonneg _
      have hi1 : (i : Int) < (n : Int) := by omega
      have hxp := Hpos.out l[i] (List.getElem_mem hl)
      obtain ⟨⟨kd, who, by_, ug⟩, hx⟩ : ∃ x, x = l[i] := ⟨_, rfl⟩
      rw [← hx] at k0 k1 k2 k3 hxp
      dsimp only at k0 k1 k2 k3 hxp
      clear hx
      by_cases hk0 : kd = 0
      · subst hk0
        obtain ⟨ob, hob⟩ : ∃ ob : Obj, ob = .cells #[.int .i64 0, .int .i64 who, .int .u64 by_, .bool ug] 33 := ⟨_, rfl⟩
        have Inv1 := hid (Inv.out.later (bl_alloc (Below.refl _ _) ob))
        have lgd : w.heap.size + 1 < wo.heap.size := by obtain ⟨cs, hb⟩ := Inv.out.rl.blk; exact Blk.lt hb
        rw [hob] at Inv1
        clear hob
        obtain ⟨z, hz⟩ : ∃ z : Int, z = if L.fits by_ = true then 0 else 2 := ⟨_, rfl⟩
        have Hz := hid hz
        clear hz
        have Hap := hid (Inv1.out.ask_p who by_ ug Hz.out)
        go_wp2
        go_region_held3 (fun w' => blkOf w' wo.heap.size = some (.cells #[.int .i64 0, .int .i64 who, .int .u64 by_, .bool ug] 33 (0, 0)))
          (first | (simp [go_sem, *]; done))
          ((first
            | (go_at_call 16; have q := Hc2.out; refine (Inv1.out.ask_d q who by_ ug Hz.out _ ?_).mono ?_; exact ⟨rfl, rfl, rfl, rfl⟩; rintro e w3 ⟨rfl, hr3, hc3⟩; have e3 : blkOf w3 wo.heap.size = blkOf w2 wo.heap.size := hc3.block _ (Blk.lt e2) (Nat.ne_of_gt lgd); rw [e2] at e3; have Hr3 := hid hr3; have Hc3 := hid hc3; clear hr3 hc3 q)
            | (go_at_call 12; refine (Hap.out _ ?_).mono ?_; exact ⟨rfl, rfl, rfl, rfl⟩; rintro e w2 ⟨rfl, hp2, hc2⟩; have e2 : blkOf w2 wo.heap.size = some (.cells #[.int .i64 0, .int .i64 who, .int .u64 by_, .bool ug] 33 (0, 0)) := (hc2.block _ (Blk.lt (blk_new wo _)) (limF_ty (blk_new wo _) (by decide))).trans (blk_new wo _); have Hp2 := hid hp2; have Hc2 := hid hc2; clear hp2 hc2)))
        have inv2 := Inv1.out.step Hp2.out Hc2.out Hr3.out Hc3.out (Inv.out.ok.asked who by_ ug hxp) (Inv.out.so.asked who by_ ug)
        obtain ⟨L2, hL2⟩ : ∃ L2, L2 = L.asked who by_ ug := ⟨_, rfl⟩
        rw [← hL2] at inv2
        have Inv2 := hid inv2
        clear inv2 hL2 Inv1 Hap Hc2 Hr3 Hp2 Hc3 e2 e3
        go_wp2
        have Hw1 := hid (waiting_at Inv2.out.pl Inv2.out.ok)
        have Hbs := hid Inv2.out.below.size
        have Hml := hid (Lim.many_len Inv2.out.ok).2
        go_region_with
          ((first
            | (go_at_call 22; refine (left_at Inv6.out.pl _ ?_).mono ?_; exact ⟨rfl, rfl, rfl, rfl⟩; rintro e w7 ⟨rfl, rfl⟩)
            | (go_at_call 17; have q := Inv5.out; refine (q.same Ha4.out Hb5.out Hq5.out Hbs.out Hml.out).mono ?_; rintro e w6 ⟨rfl, inv6⟩; have hld := inv6.rl.left; have Inv6 := hid inv6; clear q inv6)
            | (go_at_call 21; have q := Inv4.out; refine (q.wait_d _ ?_).mono ?_; exact ⟨rfl, rfl, rfl, rfl⟩; rintro e w5 ⟨A5, c5, rfl, hq5, hb5⟩; have Inv5 := hid (q.later hb5); have Hq5 := hid hq5; have Hb5 := hid hb5; clear q hq5 hb5)
            | (go_at_call 14; refine (Hw1.out _ ?_).mono ?_; exact ⟨rfl, rfl, rfl, rfl⟩; rintro e w4 ⟨A4, c4, rfl, ha4, hb4⟩; have Inv4 := hid (Inv2.out.later hb4); have Ha4 := hid ha4; clear ha4 hb4)))
        all_goals
          go_wp2
          go_roundg (n - (i + 1))
          case measure => omega
          case rel => exact ⟨i + 1, L2, by omega, rfl, by go_num, Inv6.out⟩
      · have hne0 : (kd == 0) = false := by rw [beq_eq_false_iff_ne]; exact hk0
        by_cases hk1 : kd = 1
        · subst hk1
          clear hne0 hk0
          obtain ⟨ob, hob⟩ : ∃ ob : Obj, ob = .cells #[.int .i64 1, .int .i64 who, .int .u64 by_, .bool ug] 33 := ⟨_, rfl⟩
          have Inv1 := hid (Inv.out.later (bl_alloc (Below.refl _ _) ob))
          have lgd : w.heap.size + 1 < wo.heap.size := by obtain ⟨cs, hb⟩ := Inv.out.rl.blk; exact Blk.lt hb
          rw [hob] at Inv1
          clear hob
          have Hsp := hid (step_at Inv1.out.pl Inv1.out.ok)
          have Hsz := hid Inv1.out.below.size
          have Hsl := hid (Lim.many_len Inv1.out.ok).1
          go_wp2_with (first
            | (go_at_call 17; have q := Inv3.out; refine (q.same2 Ha2.out Ha3.out Hq3.out Hsz.out Hsl.out).mono ?_; rintro e wx ⟨rfl, invx⟩; have Invx := hid invx; clear q invx)
            | (go_at_call 18; have q := Hc2.out; refine (Inv1.out.step_d q _ ?_).mono ?_; exact ⟨rfl, rfl, rfl, rfl⟩; rintro e w3 ⟨A3, c3, rfl, hq3, hr3, hc3, ok3, so3⟩; have Inv3 := hid (Inv1.out.step Hp2.out q hr3 hc3 ok3 so3); have Ha3 := hid (Inv1.out.own q hc3 Ha2.out); have Hq3 := hid hq3; clear q hq3 hr3 hc3 ok3 so3)
            | (go_at_call 13; refine (Hsp.out _ ?_).mono ?_; exact ⟨rfl, rfl, rfl, rfl⟩; rintro e w2 ⟨A2, c2, rfl, ha2, hp2, hc2, ok2⟩; have Ha2 := hid ha2; have Hp2 := hid hp2; have Hc2 := hid hc2; clear ha2 hp2 hc2 ok2))
          obtain ⟨L2, hL2⟩ : ∃ L2, L2 = L.step.2 := ⟨_, rfl⟩
          rw [← hL2] at Invx
          have Inv2 := Invx
          clear hL2 Inv1 Hsp Hc2 Hp2 Invx Inv3
          have Hw1 := hid (waiting_at Inv2.out.pl Inv2.out.ok)
          have Hbs := hid Inv2.out.below.size
          have Hml := hid (Lim.many_len Inv2.out.ok).2
          go_region_with
            ((first
              | (go_at_call 22; refine (left_at Inv6.out.pl _ ?_).mono ?_; exact ⟨rfl, rfl, rfl, rfl⟩; rintro e w7 ⟨rfl, rfl⟩)
              | (go_at_call 17; have q := Inv5.out; refine (q.same Ha4.out Hb5.out Hq5.out Hbs.out Hml.out).mono ?_; rintro e w6 ⟨rfl, inv6⟩; have hld := inv6.rl.left; have Inv6 := hid inv6; clear q inv6)
              | (go_at_call 21; have q := Inv4.out; refine (q.wait_d _ ?_).mono ?_; exact ⟨rfl, rfl, rfl, rfl⟩; rintro e w5 ⟨A5, c5, rfl, hq5, hb5⟩; have Inv5 := hid (q.later hb5); have Hq5 := hid hq5; have Hb5 := hid hb5; clear q hq5 hb5)
              | (go_at_call 14; refine (Hw1.out _ ?_).mono ?_; exact ⟨rfl, rfl, rfl, rfl⟩; rintro e w4 ⟨A4, c4, rfl, ha4, hb4⟩; have Inv4 := hid (Inv2.out.later hb4); have Ha4 := hid ha4; clear ha4 hb4)))
          all_goals
            go_wp2
            go_roundg (n - (i + 1))
            case measure => omega
            case rel => exact ⟨i + 1, L2, by omega, rfl, by go_num, Inv6.out⟩
        · have hne1 : (kd == 1) = false := by rw [beq_eq_false_iff_ne]; exact hk1
          by_cases hk2 : kd = 2
          · subst hk2
            clear hne0 hne1 hk0 hk1
            obtain ⟨ob, hob⟩ : ∃ ob : Obj, ob = .cells #[.int .i64 2, .int .i64 who, .int .u64 by_, .bool ug] 33 := ⟨_, rfl⟩
            have Inv1 := hid (Inv.out.later (bl_alloc (Below.refl _ _) ob))
            have lgd : w.heap.size + 1 < wo.heap.size := by obtain ⟨cs, hb⟩ := Inv.out.rl.blk; exact Blk.lt hb
            rw [hob] at Inv1
            clear hob
            have Hap := hid (Inv1.out.drop_p who)
            have hne0 : ((2 : Int) == 0) = false := by decide
            go_wp2
            go_region_held3 (fun w' => blkOf w' wo.heap.size = some (.cells #[.int .i64 2, .int .i64 who, .int .u64 by_, .bool ug] 33 (0, 0)))
              (first | (simp [go_sem, *]; done))
              ((first
                | (go_at_call 20; have q := Hc2.out; refine (Inv1.out.drop_d q who _ ?_).mono ?_; exact ⟨rfl, rfl, rfl, rfl⟩; rintro e w3 ⟨rfl, hr3, hc3⟩; have e3 : blkOf w3 wo.heap.size = blkOf w2 wo.heap.size := hc3.block _ (Blk.lt e2) (Nat.ne_of_gt lgd); rw [e2] at e3; have Hr3 := hid hr3; have Hc3 := hid hc3; clear hr3 hc3 q)
                | (go_at_call 19; refine (Hap.out _ ?_).mono ?_; exact ⟨rfl, rfl, rfl, rfl⟩; rintro e w2 ⟨rfl, hp2, hc2⟩; have e2 : blkOf w2 wo.heap.size = some (.cells #[.int .i64 2, .int .i64 who, .int .u64 by_, .bool ug] 33 (0, 0)) := (hc2.block _ (Blk.lt (blk_new wo _)) (limF_ty (blk_new wo _) (by decide))).trans (blk_new wo _); have Hp2 := hid hp2; have Hc2 := hid hc2; clear hp2 hc2)))
            have inv2 := Inv1.out.step Hp2.out Hc2.out Hr3.out Hc3.out (Inv.out.ok.dropped who) (Inv.out.so.dropped who)
            obtain ⟨L2, hL2⟩ : ∃ L2, L2 = L.dropped who := ⟨_, rfl⟩
            rw [← hL2] at inv2
            have Inv2 := hid inv2
            clear inv2 hL2 Inv1 Hap Hc2 Hr3 Hp2 Hc3 e2 e3
            go_wp2
            have Hw1 := hid (waiting_at Inv2.out.pl Inv2.out.ok)
            have Hbs := hid Inv2.out.below.size
            have Hml := hid (Lim.many_len Inv2.out.ok).2
            go_region_with
              ((first
                | (go_at_call 22; refine (left_at Inv6.out.pl _ ?_).mono ?_; exact ⟨rfl, rfl, rfl, rfl⟩; rintro e w7 ⟨rfl, rfl⟩)
                | (go_at_call 17; have q := Inv5.out; refine (q.same Ha4.out Hb5.out Hq5.out Hbs.out Hml.out).mono ?_; rintro e w6 ⟨rfl, inv6⟩; have hld := inv6.rl.left; have Inv6 := hid inv6; clear q inv6)
                | (go_at_call 21; have q := Inv4.out; refine (q.wait_d _ ?_).mono ?_; exact ⟨rfl, rfl, rfl, rfl⟩; rintro e w5 ⟨A5, c5, rfl, hq5, hb5⟩; have Inv5 := hid (q.later hb5); have Hq5 := hid hq5; have Hb5 := hid hb5; clear q hq5 hb5)
                | (go_at_call 14; refine (Hw1.out _ ?_).mono ?_; exact ⟨rfl, rfl, rfl, rfl⟩; rintro e w4 ⟨A4, c4, rfl, ha4, hb4⟩; have Inv4 := hid (Inv2.out.later hb4); have Ha4 := hid ha4; clear ha4 hb4)))
            all_goals
              go_wp2
              go_roundg (n - (i + 1))
              case measure => omega
              case rel => exact ⟨i + 1, L2, by omega, rfl, by go_num, Inv6.out⟩
          · have hne2 : (kd == 2) = false := by rw [beq_eq_false_iff_ne]; exact hk2
            clear hk0 hk1 hk2
            obtain ⟨ob, hob⟩ : ∃ ob : Obj, ob = .cells #[.int .i64 kd, .int .i64 who, .int .u64 by_, .bool ug] 33 := ⟨_, rfl⟩
            have Inv1 := hid (Inv.out.later (bl_alloc (Below.refl _ _) ob))
            have lgd : w.heap.size + 1 < wo.heap.size := by obtain ⟨cs, hb⟩ := Inv.out.rl.blk; exact Blk.lt hb
            rw [hob] at Inv1
            clear hob
            obtain ⟨L2, hL2⟩ : ∃ L2, L2 = L := ⟨_, rfl⟩
            rw [← hL2] at Inv1
            have Inv2 := Inv1
            clear hL2 Inv1
            go_wp2
            have Hw1 := hid (waiting_at Inv2.out.pl Inv2.out.ok)
            have Hbs := hid Inv2.out.below.size
            have Hml := hid (Lim.many_len Inv2.out.ok).2
            go_region_with
              ((first
                | (go_at_call 22; refine (left_at Inv6.out.pl _ ?_).mono ?_; exact ⟨rfl, rfl, rfl, rfl⟩; rintro e w7 ⟨rfl, rfl⟩)
                | (go_at_call 17; have q := Inv5.out; refine (q.same Ha4.out Hb5.out Hq5.out Hbs.out Hml.out).mono ?_; rintro e w6 ⟨rfl, inv6⟩; have hld := inv6.rl.left; have Inv6 := hid inv6; clear q inv6)
                | (go_at_call 21; have q := Inv4.out; refine (q.wait_d _ ?_).mono ?_; exact ⟨rfl, rfl, rfl, rfl⟩; rintro e w5 ⟨A5, c5, rfl, hq5, hb5⟩; have Inv5 := hid (q.later hb5); have Hq5 := hid hq5; have Hb5 := hid hb5; clear q hq5 hb5)
                | (go_at_call 14; refine (Hw1.out _ ?_).mono ?_; exact ⟨rfl, rfl, rfl, rfl⟩; rintro e w4 ⟨A4, c4, rfl, ha4, hb4⟩; have Inv4 := hid (Inv2.out.later hb4); have Ha4 := hid ha4; clear ha4 hb4)))
            all_goals
              go_wp2
              go_roundg (n - (i + 1))
              case measure => omega
              case rel => exact ⟨i + 1, L2, by omega, rfl, by go_num, Inv6.out⟩
    · obtain rfl : i = n := by omega
      have hl := hid (left_at Inv.out.pl)
      have hld := Inv.out.rl.left
      go_wp2
      go_quiet ((go_at_call 22; exact Calls.quiet_of_same ((hl.out _ ⟨rfl, rfl, rfl, rfl⟩))))
      go_wp2
      exact HR.out _ _ ⟨by simp, bl_drewN Inv.out.below _⟩
end Go.Proofs.Ytbiaelaaihieeaa
