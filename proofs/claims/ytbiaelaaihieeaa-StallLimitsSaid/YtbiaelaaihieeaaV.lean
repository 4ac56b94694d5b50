/- The limiter of stall: who waits. -/
import Derived.Test.YtbiaelaaihieeaaS
set_option linter.unusedVariables false
set_option linter.unusedSimpArgs false
set_option maxRecDepth 100000
namespace Go.Proofs.Ytbiaelaaihieeaa
open Go.RowKit
variable {B : Nat}

theorem run_who (x y z : Value) (W : World) : (Instr.field 87 (.agg #[x, y, z]) 0).run Try.prog W = .ok x W := by kernel_rfl
/-- What holds at the head of the loop in Waiting: g is the copy. -/
def WaitRel (w : World) (g : Nat) (N : Nat) (L0 : Lim) (k : Nat) (v i : Value) (wr : World) : Prop :=
  ∃ (L : Lim) (l : List Int) (A0 : Option Addr) (c0 : Nat) (A1 : Option Addr) (c1 : Nat) (A : Option Addr) (c : Nat), v = .slice A l.length c ∧ i = .int .i64 (ahead L.us.length L.os.length L.row) ∧
    wr.ownsRow w.heap.size 3 1 (.slice A l.length c) l.length (ints l) ∧ PLim B wr g L A0 c0 A1 c1 ∧ L.Ok ∧
    L.us.length + L.os.length < k ∧ l.length + (L.us.length + L.os.length) ≤ 4096 ∧ Lim.waits N L0 = l ++ Lim.waits k L ∧ Below w.heap.size w wr

set_option maxHeartbeats 800000 in
theorem waiting_any (g : Nat) (L : Lim) (A0 : Option Addr) (c0 : Nat) (A1 : Option Addr) (c1 : Nat) (w : World) (ok : L.Ok) (hp : PLim B w g L A0 c0 A1 c1) :
    Calls Try.prog 14 #[.pointer (some ⟨g, 0, none⟩)] w fun e w' => ∃ A c, e = .returned (.slice A L.waiting.length c) ∧
      w'.ownsRow w.heap.size 3 1 (.slice A L.waiting.length c) L.waiting.length (ints L.waiting) ∧ Below w.heap.size w w' := by
  refine calls_of fun R HR => ?_
  have hb := hp.blk
  have lg : g < w.heap.size := Blk.lt hb
  have hq : PLim B (w.alloc (.cells #[.int .u64 L.rate, .int .u64 L.burst, .int .u64 L.left, .slice A0 L.us.length c0, .slice A1 L.os.length c1, .int .i64 L.row] 84)) w.heap.size L A0 c0 A1 c1 :=
    ⟨blk_new _ _, hp.own0.alloc _, hp.own1.alloc _, hp.apart, Nat.le_trans hp.base (Nat.le_of_lt lg)⟩
  have Hq := hid hq
  have Ok := hid ok
  have Hah := hid (ahead_lim hq ok rfl)
  clear hp hq ok
  go_enter Try.func14, Try.ntmps14
  go_wp2_with (go_at_call 41; refine Hah.out.mono ?_; rintro e w' ⟨rfl, nq, rfl⟩)
  go_loopg [4, 5] (L.us.length + L.os.length + 1) (fun k v i wr => WaitRel w w.heap.size (L.us.length + L.os.length + 1) L k v i wr)
  case atStart =>
    exact ⟨L, [], A0, c0, A1, c1, none, 0, rfl, rfl, World.ownsRow_nil _ _ _ _, Hq.out.drewN _, Ok.out, by omega, by have := Ok.out.many; simpa using this, by simp, bl_drewN (bl_alloc (Below.refl _ _) _) _⟩
  case round =>
    obtain ⟨L', l, A0', c0', A1', c1', A, c, rfl, rfl, hown, hpl, okl, hk, hll, hst, hbl⟩ := hrel
    obtain ⟨k', rfl⟩ : ∃ k', gk = k' + 1 := ⟨gk - 1, by omega⟩
    have hb := hpl.blk
    have Hown := hid hown
    have Hpl := hid hpl
    have Okl := hid okl
    have Hbl := hid hbl
    have Hk := hid hk
    obtain ⟨i3, hi0, hz0, hz1, hz2⟩ := info_parts Try.info3
    have hs0 := hbl.size
    have hfd := run_who
    rcases hpk : L'.pick with _ | ⟨a, L2⟩
    · have e := Lim.pick_no hpk
      have hfin : L.waiting = l := by
        unfold Lim.waiting
        rw [hst]
        simp only [Lim.waits, hpk, List.append_nil]
      have Hfin := hid hfin
      clear hfin hown hpl okl hbl hst hk hpk
      go_wp2
      refine HR.out _ _ ⟨A, c, ?_⟩
      rw [Hfin.out]
      exact ⟨rfl, Hown.out, Hbl.out⟩
    · have hx0 := Lim.pick_some hpk
      have okp := okl.pick hpk
      have Hg := hid (goes_at hpk okl hpl)
      have hstep : Lim.waits (k' + 1) L' = a.1 :: Lim.waits k' L2 := by simp only [Lim.waits, hpk]
      rw [hstep] at hst
      have Hst := hid hst
      have Okp := hid okp
      have hwho : (Value.slice A l.length c).ownBlock ≠ some w.heap.size := own_ne_blk hown hb (by decide)
      have Hw1 := hid (fun (w1 : World) (h : Chg (fun k => k = w.heap.size) wr w1) => own_chg hown h (fun k hk e => hwho (by rw [hk, e])))
      generalize hxx : ahead L'.us.length L'.os.length L'.row = x at *
      clear hown hpl okl hbl hst hstep hk okp hpk hwho hxx hb
      go_wp2_with (first
        | (go_at_call 42; refine (Hg.out _ ?_).mono ?_; exact ⟨rfl, rfl, rfl, rfl⟩; rintro e w1 ⟨A2, c2, A2', c2', rfl, hp2, hc2⟩; have hs1 := hc2.size; have Hp2 := hid hp2; have Hc2 := hid hc2; clear hp2 hc2)
        | (at_builtin; refine wpList_append_rd _ rfl (.tmp 13) (.tmp 17) _ rfl w.heap.size 3 i3 _ 1 8 Try.underlying35 hi0 hz0 hz1 hz2 rfl (by decide) (.slice A l.length c) l.length (ints l) rfl ?ho (w1.heap.size + 1) (some ⟨w1.heap.size, 0, none⟩) 1 1 [.int .i64 a.1] rfl ?hr ?h1 ?h63 ?hb ?hbase ?hk; case' hk => (intro v2 w2 hown2 hg2 hat2; obtain ⟨A3, c3, rfl, _⟩ := own_shape hown2)))
      case ho => exact own_drew ((Hw1.out _ Hc2.out).alloc _)
      case hr => exact Rd.drew (rd_new w1 3 1 1 [.int .i64 a.1] rfl)
      case h1 => simp [Value.oneCell']
      case h63 => simp only [maxLen]; omega
      case hb => omega
      case hbase => simp; omega
      have hq2 : PLim B w2 w.heap.size L2 A2 c2 A2' c2' := by
        have h5 := ((Hw1.out _ Hc2.out).alloc (.cells #[.int .i64 a.1] 3))
        have hx : ∀ {e sz n : Nat} {v : Value} {xs : List Value}, w1.ownsRow B e sz v n xs → e ≠ 3 → w2.ownsRow B e sz v n xs := fun {e sz n v xs} h h3 => by
          have h4 := (h.alloc (.cells #[.int .i64 a.1] 3))
          exact own_grown h4 hg2 (own_own_ne h4 h5 h3)
        refine ⟨?_, hx Hp2.out.own0 (by decide), hx Hp2.out.own1 (by decide), Hp2.out.apart, Hp2.out.base⟩
        have hb2 := Hp2.out.blk
        have lg2 := Blk.lt hb2
        refine (hg2.block w.heap.size (by simp; omega) (own_ne_blk (Hw1.out _ Hc2.out) hb2 (by decide)).symm).trans ?_
        show blkOf _ w.heap.size = _
        simp [go_sem, hb2, lg2]
      have Hah2 := hid (ahead_lim hq2 Okp.out.1 rfl)
      have Hq2 := hid hq2
      clear hq2
      go_wp2_with (go_at_call 41; refine Hah2.out.mono ?_; rintro e w' ⟨rfl, nq, rfl⟩)
      go_roundg k'
      case measure => omega
      case rel =>
        refine ⟨L2, l ++ [a.1], A2, c2, A2', c2', A3, c3, by simp, rfl, by simpa [ints] using own_drewN hown2 _, Hq2.out.drewN _, Okp.out.1, ?_, ?_, ?_, ?_⟩
        · have h1 := Okp.out.2.2.2.1
          have h2 := Hk.out
          omega
        · have h1 := Okp.out.2.2.2.1
          simp only [List.length_append, List.length_cons, List.length_nil]
          omega
        · rw [Hst.out]; simp
        · have h1 : Below w.heap.size w w1 := (Chg.trans (H := fun k => k = w.heap.size) (Chg.of_below (F := fun k => k = w.heap.size) Hbl.out) Hc2.out (fun _ _ h => h) (fun _ _ h => h)).to_below (Nat.le_refl _) (fun k hk e => by omega)
          exact bl_drewN (bl_grown (bl_alloc h1 _) hg2 (fun k hk => (Hown.out.lt k hk).1)) _
end Go.Proofs.Ytbiaelaaihieeaa
