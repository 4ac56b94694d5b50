/- The document's limiter: a step, who waits. -/
import Derived.Test.YtbiaelaaihieeaaN
set_option linter.unusedVariables false
set_option linter.unusedSimpArgs false
set_option maxRecDepth 100000
namespace Go.Proofs.Ytbiaelaaihieeaa
open Go.RowKit

theorem Lim.pick_left {L L2 : Lim} {a : Ask} (h : L.pick = some (a, L2)) (x : Int) : ({ L with left := x } : Lim).pick = some (a, { L2 with left := x }) := by
  rcases ahead_cases L.us.length L.os.length L.row with e | e | e
  · rw [Lim.pick_none e] at h; cases h
  · obtain ⟨b, us, hu, hp⟩ := Lim.pick_zero e
    obtain ⟨b', us', hu', hp'⟩ := Lim.pick_zero (L := { L with left := x }) e
    rw [hp] at h
    simp only [Option.some.injEq, Prod.mk.injEq] at h
    obtain ⟨rfl, rfl⟩ := h
    rw [hp']
    simp only at hu'
    rw [hu] at hu'
    injection hu' with e1 e2
    subst e1; subst e2
    rfl
  · obtain ⟨b, os, ho, hp⟩ := Lim.pick_one e
    obtain ⟨b', os', ho', hp'⟩ := Lim.pick_one (L := { L with left := x }) e
    rw [hp] at h
    simp only [Option.some.injEq, Prod.mk.injEq] at h
    obtain ⟨rfl, rfl⟩ := h
    rw [hp']
    simp only at ho'
    rw [ho] at ho'
    injection ho' with e1 e2
    subst e1; subst e2
    rfl
theorem rgoes_at {w : World} {g : Nat} {L L' : Lim} {a : Ask} (ok : L.Ok) (so : L.Sorts) (h : L.pick = some (a, L')) (hp : RAt w g L) :
    Calls Try.prog 44 #[.pointer (some ⟨g, 0, none⟩)] w fun e w' => e = .returned (.agg #[.int .i64 a.1, .int .u64 a.2.1, .bool a.2.2]) ∧ RAt w' g L' ∧ Chg (fun k => k = g) w w' := by
  obtain ⟨A0, c0, A1, c1, hp⟩ := hp
  exact rgoes g L L' a A0 c0 A1 c1 w ok so hp h
theorem rrun_who (x y z : Value) (W : World) : (Instr.field 92 (.agg #[x, y, z]) 0).run Try.prog W = .ok x W := by kernel_rfl
def RStepRel (w : World) (g : Nat) (N : Nat) (L0 : Lim) (k : Nat) (v : Value) (wr : World) : Prop :=
  ∃ (L : Lim) (l : List Int) (A : Option Addr) (c : Nat), v = .slice A l.length c ∧ wr.ownsRow w.heap.size 3 1 (.slice A l.length c) l.length (ints l) ∧ RAt wr g L ∧ L.Ok ∧ L.Sorts ∧
    L.us.length + L.os.length < k ∧ l.length + (L.us.length + L.os.length) ≤ 4096 ∧ Lim.steps N L0 = (l ++ (Lim.steps k L).1, (Lim.steps k L).2) ∧ Chg (fun k => k = g) w wr
theorem rset_left {w : World} {g : Nat} {L : Lim} {A0 : Option Addr} {c0 : Nat} {A1 : Option Addr} {c1 : Nat} (hp : RLim w g L A0 c0 A1 c1) (x : Int) {w' : World} (hb : Below w.heap.size w w') :
    RAt (w'.setCell ⟨g, 2, none⟩ (.int .u64 x)) g { L with left := x } := by
  have lg := Blk.lt hp.blk
  have h' := hp.below hb
  refine rat_mk (Chg.setCell (F := fun k => k = g) (p := ⟨g, 2, none⟩) (Chg.refl _ w') (fun _ => rfl) _) h'.blk ?_ h'.rd0 h'.rd1 h'.cap0 h'.cap1
  simp [go_sem, h'.blk]
theorem RAt.drewN {w : World} {g : Nat} {L : Lim} (h : RAt w g L) (n : Nat) : RAt (w.drewN n) g L := by
  obtain ⟨A0, c0, A1, c1, h⟩ := h
  exact ⟨A0, c0, A1, c1, h.eqv ⟨rfl, rfl, rfl, rfl⟩⟩
theorem RAt.below {w W : World} {g : Nat} {L : Lim} (h : RAt w g L) (hb : Below w.heap.size w W) : RAt W g L := by
  obtain ⟨A0, c0, A1, c1, h⟩ := h
  exact ⟨A0, c0, A1, c1, h.below hb⟩
theorem own_ne_cells {w : World} {base e size n : Nat} {v : Value} {xs : List Value} (h : w.ownsRow base e size v n xs) {k t : Nat} {cs : Array Value} {fr : Nat × Nat} (hk : blkOf w k = some (.cells cs t fr)) (hne : e ≠ t) : v.ownBlock ≠ some k := by
  rcases h.2 with ⟨rfl, _⟩ | ⟨g, cap, cur, rfl, _, hg, _⟩
  · simp [Value.ownBlock]
  · intro he
    have : g = k := by simpa [Value.ownBlock] using he
    subst this
    unfold blkOf at hk
    rw [hg] at hk
    injection hk with hk
    injection hk with _ ht
    exact hne ht
theorem rstep_end {w wo W : World} {g : Nat} {L L' : Lim} {l : List Int} {A : Option Addr} {c : Nat} (hB : Below wo.heap.size wo W) (hfin : L.step = (l, L')) (hown : wo.ownsRow w.heap.size 3 1 (.slice A l.length c) l.length (ints l))
    (hp : RAt wo g L') (hc : Chg (fun k => k = g) w wo) (ok : L'.Ok) (so : L'.Sorts) :
    ∃ A' c', (Ending.returned (.slice A l.length c)) = .returned (.slice A' L.step.1.length c') ∧
      W.ownsRow w.heap.size 3 1 (.slice A' L.step.1.length c') L.step.1.length (ints L.step.1) ∧ RAt W g L.step.2 ∧ Chg (fun k => k = g) w W ∧ L.step.2.Ok ∧ L.step.2.Sorts := by
  rw [hfin]
  exact ⟨A, c, rfl, own_below hown hB, hp.below hB, Chg.below hc hB, ok, so⟩
set_option maxHeartbeats 1000000 in
theorem rstep_any (g : Nat) (L : Lim) (w : World) (ok : L.Ok) (so : L.Sorts) (hp : RAt w g L) :
    Calls Try.prog 18 #[.pointer (some ⟨g, 0, none⟩)] w fun e w' => ∃ A c, e = .returned (.slice A L.step.1.length c) ∧
      w'.ownsRow w.heap.size 3 1 (.slice A L.step.1.length c) L.step.1.length (ints L.step.1) ∧ RAt w' g L.step.2 ∧ Chg (fun k => k = g) w w' ∧ L.step.2.Ok ∧ L.step.2.Sorts := by
  refine calls_of fun R HR => ?_
  obtain ⟨A0, c0, A1, c1, hp⟩ := hp
  have hb := hp.blk
  have Hp := hid hp; clear hp
  have Ok := hid ok; clear ok
  have b1 := Ok.out.left0
  have b2 := Ok.out.rate
  have b3 := Ok.out.left
  have b4 := Ok.out.burst
  have b5 := Ok.out.most
  have hw1 : IntKind.u64.wrap (L.burst - L.rate) = L.burst - L.rate := by rw [IntKind.wrap_u64]; omega
  have okf : L.fill.Ok := Lim.Ok.take Ok.out (by split <;> omega) (by split <;> omega)
  have Okf := hid okf; clear okf
  have Sof := hid (show L.fill.Sorts from so)
  clear so
  have lg : g < w.heap.size := Blk.lt hb
  by_cases hfl : L.left + L.rate ≤ L.burst
  case' pos =>
    have e1 : ¬ (L.burst - L.rate < L.left) := by omega
    have hw2 : IntKind.u64.wrap (L.left + L.rate) = L.left + L.rate := by rw [IntKind.wrap_u64]; omega
    have hfe : L.fill = { L with left := L.left + L.rate } := by simp only [Lim.fill, if_pos hfl]
    have Hfe := hid hfe
    clear hfe
    go_enter Try.func18, Try.ntmps18
    go_wp2
    go_quiet (fail)
    go_wp2
    refine wp_tail 12 (by kernel_rfl) (by kernel_rfl) ?_
    simp only [List.take_succ_cons, List.take_zero, List.drop_succ_cons, List.drop_zero]
    repeat still_step
    refine wpStill_nil ?_
    go_wp2
    clear hw2 e1
    have hp1 : RAt ((w.setCell ⟨g, 2, none⟩ (.int .u64 (L.left + L.rate))).drewN (nq + 1)) g L.fill := by rw [Hfe.out]; exact (rset_left Hp.out _ (Below.refl _ _)).drewN _
    have hc1 : Chg (fun k => k = g) w ((w.setCell ⟨g, 2, none⟩ (.int .u64 (L.left + L.rate))).drewN (nq + 1)) := Chg.drewN (Chg.setCell (F := fun k => k = g) (Chg.refl _ _) (p := ⟨g, 2, none⟩) (fun _ => rfl) _) _
    have Hp1 := hid hp1; have Hc1 := hid hc1
    clear hp1 hc1
    generalize (w.setCell ⟨g, 2, none⟩ (.int .u64 (L.left + L.rate))).drewN (nq + 1) = w1 at *
  case' neg =>
    have e1 : L.burst - L.rate < L.left := by omega
    have hfe : L.fill = { L with left := L.burst } := by simp only [Lim.fill, if_neg hfl]
    have Hfe := hid hfe
    clear hfe
    go_enter Try.func18, Try.ntmps18
    go_wp2
    go_quiet (fail)
    go_wp2
    have hp1 : RAt ((w.setCell ⟨g, 2, none⟩ (.int .u64 L.burst)).drewN nq) g L.fill := by rw [Hfe.out]; exact (rset_left Hp.out _ (Below.refl _ _)).drewN _
    have hc1 : Chg (fun k => k = g) w ((w.setCell ⟨g, 2, none⟩ (.int .u64 L.burst)).drewN nq) := Chg.drewN (Chg.setCell (F := fun k => k = g) (Chg.refl _ _) (p := ⟨g, 2, none⟩) (fun _ => rfl) _) _
    have Hp1 := hid hp1; have Hc1 := hid hc1
    clear hp1 hc1 e1
    generalize (w.setCell ⟨g, 2, none⟩ (.int .u64 L.burst)).drewN nq = w1 at *
  · clear Hp hb hw1 b1 b2 b3 b4 b5 Hfe hfl
    go_loopg [3] (L.us.length + L.os.length + 1) (fun k v wr => RStepRel w g (L.us.length + L.os.length + 1) L.fill k v wr)
    case atStart => exact ⟨L.fill, [], none, 0, rfl, World.ownsRow_nil _ _ _ _, Hp1.out, Okf.out, Sof.out, by simp [Lim.fill], by have := Okf.out.many; simpa using this, by simp, Hc1.out⟩
    case round =>
      obtain ⟨L', l, A, c, rfl, hown, ⟨B0, d0, B1, d1, hpl⟩, okl, sol, hk, hll, hst, hch⟩ := hrel
      obtain ⟨k', rfl⟩ : ∃ k', gk = k' + 1 := ⟨gk - 1, by omega⟩
      obtain ⟨wo, hwo⟩ : ∃ wo : World, wo = wr := ⟨_, rfl⟩
      subst hwo
      have hb := hpl.blk
      have lg' : g < wo.heap.size := Blk.lt hb
      have Hown := hid hown
      have Hpl := hid hpl
      have Okl := hid okl
      have Sol := hid sol
      have Hch := hid hch
      have Hk := hid hk
      rcases hpk : L'.pick with _ | ⟨a, L2⟩
      · have hfin : L.step = (l, L') := by
          unfold Lim.step
          rw [hst]
          simp only [Lim.steps, hpk, List.append_nil]
        have Hfin := hid hfin
        have Hn := hid (next_no g L' B0 d0 B1 d1 wo hpl hpk)
        clear hfin hown hpl okl sol hch hst hk hpk
        go_wp2_with (go_at_call 43; refine Hn.out.mono ?_; rintro e w2 ⟨rfl, hb2⟩; have Hb2 := hid hb2; clear hb2)
        go_quiet (fail)
        go_wp2
        exact HR.out _ _ (rstep_end (bl_drewN (bl_alloc Hb2.out _) _) Hfin.out Hown.out ⟨B0, d0, B1, d1, Hpl.out⟩ Hch.out Okl.out Sol.out)
      · have okp := okl.pick hpk
        have q0 := okl.left0
        have q1 := okl.left
        have q2 := okl.most
        have q3 := okp.2.1
        have Hn := hid (next_yes g L' L2 a B0 d0 B1 d1 wo hpl hpk)
        by_cases hlt : L'.left < a.2.1
        · have hfin : L.step = (l, L') := by
            unfold Lim.step
            rw [hst]
            simp only [Lim.steps, hpk, if_pos hlt, List.append_nil]
          have Hfin := hid hfin
          clear hfin hown hpl okl sol hch hst hk hpk okp
          go_wp2_with (go_at_call 43; refine Hn.out.mono ?_; rintro e w2 ⟨rfl, hb2⟩; have hk2 := (bl_at hb2 g lg').trans hb; have hs2 := hb2.size; have lg2 : g < w2.heap.size := (by omega); have ne2 : w2.heap.size ≠ g := (by omega); have Hb2 := hid hb2; clear hb2)
          go_quiet (fail)
          go_wp2
          exact HR.out _ _ (rstep_end (bl_drewN (bl_alloc Hb2.out _) _) Hfin.out Hown.out ⟨B0, d0, B1, d1, Hpl.out⟩ Hch.out Okl.out Sol.out)
        · have hstep : Lim.steps (k' + 1) L' = (a.1 :: (Lim.steps k' { L2 with left := L'.left - a.2.1 }).1, (Lim.steps k' { L2 with left := L'.left - a.2.1 }).2) := by
            simp only [Lim.steps, hpk, if_neg hlt]
          rw [hstep] at hst
          have Hst := hid hst
          have Okp := hid okp
          have hokt : ({ L' with left := L'.left - a.2.1 } : Lim).Ok := okl.take (by omega) (by omega)
          have Hg := hid (fun (W : World) (h : RAt W g { L' with left := L'.left - a.2.1 }) => rgoes_at hokt sol (Lim.pick_left hpk (L'.left - a.2.1)) h)
          have Sop := hid (sol.pick hpk)
          clear hown hpl okl sol hch hst hk hpk okp hstep hokt
          have hwr : IntKind.u64.wrap (L'.left - a.2.1) = L'.left - a.2.1 := by rw [IntKind.wrap_u64]; omega
          go_wp2_with (go_at_call 43; refine Hn.out.mono ?_; rintro e w2 ⟨rfl, hb2⟩; have hk2 := (bl_at hb2 g lg').trans hb; have hs2 := hb2.size; have lg2 : g < w2.heap.size := (by omega); have ne2 : w2.heap.size ≠ g := (by omega); have Hb2 := hid hb2; clear hb2)
          go_quiet (fail)
          go_wp2
          refine wp_tail 10 (by kernel_rfl) (by kernel_rfl) ?_
          simp only [List.take_succ_cons, List.take_zero, List.drop_succ_cons, List.drop_zero]
          repeat still_step
          refine wpStill_nil ?_
          clear hwr
          obtain ⟨i3, hi0, hz0, hz1, hz2⟩ := info_parts Try.info3
          have hfd := rrun_who
          have hwho : (Value.slice A l.length c).ownBlock ≠ some g := own_ne_blk Hown.out hb (by decide)
          have Hw3 := hid (fun (w3 : World) (h : Chg (fun k => k = g) wo w3) => own_chg Hown.out h (fun k hk e => hwho (by rw [hk, e])))
          clear hwho
          have hs0 := Hch.out.size
          go_wp2_with (first
            | (go_at_call 44; (refine (Hg.out _ ?_).mono ?_; exact RAt.drewN (RAt.below (rset_left Hpl.out _ Hb2.out) (bl_alloc (Below.refl _ _) _)) _; rintro e w3 ⟨rfl, hp3, hc3⟩; have hcc : Chg (fun k => k = g) wo w3 := Chg.trans (F := fun k => k = g) (Chg.drewN (Chg.alloc (Chg.setCell (F := fun k => k = g) (Chg.of_below Hb2.out) (p := ⟨g, 2, none⟩) (fun _ => rfl) _) _) _) hc3 (fun _ _ h => h) (fun _ _ h => h); have hs3 := hcc.size; have Hp3 := hid hp3; have Hcc := hid hcc; clear hp3 hc3 hcc))
            | (at_builtin; refine wpList_append_rd _ rfl (.tmp 66) (.tmp 70) _ rfl w.heap.size 3 i3 _ 1 8 Try.underlying35 hi0 hz0 hz1 hz2 rfl (by decide) (.slice A l.length c) l.length (ints l) rfl ?ho (w3.heap.size + 1) (some ⟨w3.heap.size, 0, none⟩) 1 1 [.int .i64 a.1] rfl ?hr ?h1 ?h63 ?hb ?hbase ?hk; case' hk => (intro v2 w4 hown4 hg4 hat4; obtain ⟨A3, c3, rfl, _⟩ := own_shape hown4)))
          case ho => exact own_drew ((Hw3.out _ Hcc.out).alloc _)
          case hr => exact Rd.drew (rd_new w3 3 1 1 [.int .i64 a.1] rfl)
          case h1 => simp [Value.oneCell']
          case h63 => simp only [maxLen]; omega
          case hb => omega
          case hbase => simp; omega
          go_roundg k'
          case measure => omega
          case rel =>
            have hoc : ∀ k, (Value.slice A l.length c).ownBlock = some k → w.heap.size ≤ k := fun k hk => (Hown.out.lt k hk).1
            have hcz : Chg (fun k => (Value.slice A l.length c).ownBlock = some k) w3 w4 := Chg.grown (Chg.alloc (Chg.refl _ _) _) hg4 (fun k hk _ => hk)
            have hp4 := Hp3.out.chg hcz (fun k cs t fr hk ht e => by
              have ho3 := Hw3.out _ Hcc.out
              refine own_ne_cells ho3 hk (fun e3 => ?_) e
              rcases ht with rfl | rfl <;> exact absurd e3 (by decide))
            refine ⟨{ L2 with left := L'.left - a.2.1 }, l ++ [a.1], A3, c3, by simp, by simpa [ints] using hown4, hp4, Okp.out.1.take (by omega) (by have := Okp.out.2; omega), Sop.out, ?_, ?_, ?_, ?_⟩
            · have h1 := Okp.out.2.2.2.1
              have h2 := Hk.out
              dsimp only
              omega
            · have h1 := Okp.out.2.2.2.1
              dsimp only
              simp only [List.length_append, List.length_cons, List.length_nil]
              omega
            · rw [Hst.out]; simp
            · have h1 : Chg (fun k => k = g) w w3 := Chg.trans Hch.out Hcc.out (fun _ _ h => h) (fun _ _ h => h)
              exact Chg.grown (Chg.alloc h1 _) hg4 (fun k hk hlt => by have := hoc k hk; omega)
  · clear Hp hb hw1 b1 b2 b3 b4 b5 Hfe hfl
    go_loopg [3] (L.us.length + L.os.length + 1) (fun k v wr => RStepRel w g (L.us.length + L.os.length + 1) L.fill k v wr)
    case atStart => exact ⟨L.fill, [], none, 0, rfl, World.ownsRow_nil _ _ _ _, Hp1.out, Okf.out, Sof.out, by simp [Lim.fill], by have := Okf.out.many; simpa using this, by simp, Hc1.out⟩
    case round =>
      obtain ⟨L', l, A, c, rfl, hown, ⟨B0, d0, B1, d1, hpl⟩, okl, sol, hk, hll, hst, hch⟩ := hrel
      obtain ⟨k', rfl⟩ : ∃ k', gk = k' + 1 := ⟨gk - 1, by omega⟩
      obtain ⟨wo, hwo⟩ : ∃ wo : World, wo = wr := ⟨_, rfl⟩
      subst hwo
      have hb := hpl.blk
      have lg' : g < wo.heap.size := Blk.lt hb
      have Hown := hid hown
      have Hpl := hid hpl
      have Okl := hid okl
      have Sol := hid sol
      have Hch := hid hch
      have Hk := hid hk
      rcases hpk : L'.pick with _ | ⟨a, L2⟩
      · have hfin : L.step = (l, L') := by
          unfold Lim.step
          rw [hst]
          simp only [Lim.steps, hpk, List.append_nil]
        have Hfin := hid hfin
        have Hn := hid (next_no g L' B0 d0 B1 d1 wo hpl hpk)
        clear hfin hown hpl okl sol hch hst hk hpk
        go_wp2_with (go_at_call 43; refine Hn.out.mono ?_; rintro e w2 ⟨rfl, hb2⟩; have Hb2 := hid hb2; clear hb2)
        go_quiet (fail)
        go_wp2
        exact HR.out _ _ (rstep_end (bl_drewN (bl_alloc Hb2.out _) _) Hfin.out Hown.out ⟨B0, d0, B1, d1, Hpl.out⟩ Hch.out Okl.out Sol.out)
      · have okp := okl.pick hpk
        have q0 := okl.left0
        have q1 := okl.left
        have q2 := okl.most
        have q3 := okp.2.1
        have Hn := hid (next_yes g L' L2 a B0 d0 B1 d1 wo hpl hpk)
        by_cases hlt : L'.left < a.2.1
        · have hfin : L.step = (l, L') := by
            unfold Lim.step
            rw [hst]
            simp only [Lim.steps, hpk, if_pos hlt, List.append_nil]
          have Hfin := hid hfin
          clear hfin hown hpl okl sol hch hst hk hpk okp
          go_wp2_with (go_at_call 43; refine Hn.out.mono ?_; rintro e w2 ⟨rfl, hb2⟩; have hk2 := (bl_at hb2 g lg').trans hb; have hs2 := hb2.size; have lg2 : g < w2.heap.size := (by omega); have ne2 : w2.heap.size ≠ g := (by omega); have Hb2 := hid hb2; clear hb2)
          go_quiet (fail)
          go_wp2
          exact HR.out _ _ (rstep_end (bl_drewN (bl_alloc Hb2.out _) _) Hfin.out Hown.out ⟨B0, d0, B1, d1, Hpl.out⟩ Hch.out Okl.out Sol.out)
        · have hstep : Lim.steps (k' + 1) L' = (a.1 :: (Lim.steps k' { L2 with left := L'.left - a.2.1 }).1, (Lim.steps k' { L2 with left := L'.left - a.2.1 }).2) := by
            simp only [Lim.steps, hpk, if_neg hlt]
          rw [hstep] at hst
          have Hst := hid hst
          have Okp := hid okp
          have hokt : ({ L' with left := L'.left - a.2.1 } : Lim).Ok := okl.take (by omega) (by omega)
          have Hg := hid (fun (W : World) (h : RAt W g { L' with left := L'.left - a.2.1 }) => rgoes_at hokt sol (Lim.pick_left hpk (L'.left - a.2.1)) h)
          have Sop := hid (sol.pick hpk)
          clear hown hpl okl sol hch hst hk hpk okp hstep hokt
          have hwr : IntKind.u64.wrap (L'.left - a.2.1) = L'.left - a.2.1 := by rw [IntKind.wrap_u64]; omega
          go_wp2_with (go_at_call 43; refine Hn.out.mono ?_; rintro e w2 ⟨rfl, hb2⟩; have hk2 := (bl_at hb2 g lg').trans hb; have hs2 := hb2.size; have lg2 : g < w2.heap.size := (by omega); have ne2 : w2.heap.size ≠ g := (by omega); have Hb2 := hid hb2; clear hb2)
          go_quiet (fail)
          go_wp2
          refine wp_tail 10 (by kernel_rfl) (by kernel_rfl) ?_
          simp only [List.take_succ_cons, List.take_zero, List.drop_succ_cons, List.drop_zero]
          repeat still_step
          refine wpStill_nil ?_
          clear hwr
          obtain ⟨i3, hi0, hz0, hz1, hz2⟩ := info_parts Try.info3
          have hfd := rrun_who
          have hwho : (Value.slice A l.length c).ownBlock ≠ some g := own_ne_blk Hown.out hb (by decide)
          have Hw3 := hid (fun (w3 : World) (h : Chg (fun k => k = g) wo w3) => own_chg Hown.out h (fun k hk e => hwho (by rw [hk, e])))
          clear hwho
          have hs0 := Hch.out.size
          go_wp2_with (first
            | (go_at_call 44; (refine (Hg.out _ ?_).mono ?_; exact RAt.drewN (RAt.below (rset_left Hpl.out _ Hb2.out) (bl_alloc (Below.refl _ _) _)) _; rintro e w3 ⟨rfl, hp3, hc3⟩; have hcc : Chg (fun k => k = g) wo w3 := Chg.trans (F := fun k => k = g) (Chg.drewN (Chg.alloc (Chg.setCell (F := fun k => k = g) (Chg.of_below Hb2.out) (p := ⟨g, 2, none⟩) (fun _ => rfl) _) _) _) hc3 (fun _ _ h => h) (fun _ _ h => h); have hs3 := hcc.size; have Hp3 := hid hp3; have Hcc := hid hcc; clear hp3 hc3 hcc))
            | (at_builtin; refine wpList_append_rd _ rfl (.tmp 66) (.tmp 70) _ rfl w.heap.size 3 i3 _ 1 8 Try.underlying35 hi0 hz0 hz1 hz2 rfl (by decide) (.slice A l.length c) l.length (ints l) rfl ?hox (w3.heap.size + 1) (some ⟨w3.heap.size, 0, none⟩) 1 1 [.int .i64 a.1] rfl ?hrx ?h1x ?h63x ?hbx ?hbasex ?hkx; case' hkx => (intro v2 w4 hown4 hg4 hat4; obtain ⟨A3, c3, rfl, _⟩ := own_shape hown4)))
          case hox => exact own_drew ((Hw3.out _ Hcc.out).alloc _)
          case hrx => exact Rd.drew (rd_new w3 3 1 1 [.int .i64 a.1] rfl)
          case h1x => simp [Value.oneCell']
          case h63x => simp only [maxLen]; omega
          case hbx => omega
          case hbasex => simp; omega
          go_roundg k'
          case measure => omega
          case rel =>
            have hoc : ∀ k, (Value.slice A l.length c).ownBlock = some k → w.heap.size ≤ k := fun k hk => (Hown.out.lt k hk).1
            have hcz : Chg (fun k => (Value.slice A l.length c).ownBlock = some k) w3 w4 := Chg.grown (Chg.alloc (Chg.refl _ _) _) hg4 (fun k hk _ => hk)
            have hp4 := Hp3.out.chg hcz (fun k cs t fr hk ht e => by
              have ho3 := Hw3.out _ Hcc.out
              refine own_ne_cells ho3 hk (fun e3 => ?_) e
              rcases ht with rfl | rfl <;> exact absurd e3 (by decide))
            refine ⟨{ L2 with left := L'.left - a.2.1 }, l ++ [a.1], A3, c3, by simp, by simpa [ints] using hown4, hp4, Okp.out.1.take (by omega) (by have := Okp.out.2; omega), Sop.out, ?_, ?_, ?_, ?_⟩
            · have h1 := Okp.out.2.2.2.1
              have h2 := Hk.out
              dsimp only
              omega
            · have h1 := Okp.out.2.2.2.1
              dsimp only
              simp only [List.length_append, List.length_cons, List.length_nil]
              omega
            · rw [Hst.out]; simp
            · have h1 : Chg (fun k => k = g) w w3 := Chg.trans Hch.out Hcc.out (fun _ _ h => h) (fun _ _ h => h)
              exact Chg.grown (Chg.alloc h1 _) hg4 (fun k hk hlt => by have := hoc k hk; omega)
end Go.Proofs.Ytbiaelaaihieeaa
