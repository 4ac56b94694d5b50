/- The document's limiter: who waits; asks. -/
import Derived.Test.YtbiaelaaihieeaaN2
import Derived.Deep.RegionLaw
set_option linter.unusedVariables false
set_option linter.unusedSimpArgs false
set_option maxRecDepth 100000
namespace Go.Proofs.Ytbiaelaaihieeaa
open Go.RowKit

def RWaitRel (w : World) (g : Nat) (N : Nat) (L0 : Lim) (k : Nat) (v : Value) (wr : World) : Prop :=
  ∃ (L : Lim) (l : List Int) (A : Option Addr) (c : Nat), v = .slice A l.length c ∧ wr.ownsRow w.heap.size 3 1 (.slice A l.length c) l.length (ints l) ∧ RAt wr g L ∧ L.Ok ∧ L.Sorts ∧
    L.us.length + L.os.length < k ∧ l.length + (L.us.length + L.os.length) ≤ 4096 ∧ Lim.waits N L0 = l ++ Lim.waits k L ∧ Below w.heap.size w wr
set_option maxHeartbeats 1000000 in
theorem rwaiting_any (g : Nat) (L : Lim) (w : World) (ok : L.Ok) (so : L.Sorts) (hp : RAt w g L) :
    Calls Try.prog 21 #[.pointer (some ⟨g, 0, none⟩)] w fun e w' => ∃ A c, e = .returned (.slice A L.waiting.length c) ∧
      w'.ownsRow w.heap.size 3 1 (.slice A L.waiting.length c) L.waiting.length (ints L.waiting) ∧ Below w.heap.size w w' := by
  refine calls_of fun R HR => ?_
  obtain ⟨A0, c0, A1, c1, hp⟩ := hp
  have hb := hp.blk
  have lg : g < w.heap.size := Blk.lt hb
  have hq : RAt (w.alloc (.cells #[.int .u64 L.rate, .int .u64 L.burst, .int .u64 L.left, .slice A0 L.us.length c0, .slice A1 L.os.length c1, .int .i64 L.row] 51)) w.heap.size L :=
    ⟨A0, c0, A1, c1, blk_new _ _, hp.rd0.below (bl_alloc (Below.refl _ _) _), hp.rd1.below (bl_alloc (Below.refl _ _) _), hp.cap0, hp.cap1⟩
  have Hq := hid hq
  have Ok := hid ok
  have So := hid so
  clear hp hq ok so
  go_enter Try.func21, Try.ntmps21
  go_wp2
  go_loopg [4] (L.us.length + L.os.length + 1) (fun k v wr => RWaitRel w w.heap.size (L.us.length + L.os.length + 1) L k v wr)
  case atStart =>
    exact ⟨L, [], none, 0, rfl, World.ownsRow_nil _ _ _ _, Hq.out, Ok.out, So.out, by omega, by have := Ok.out.many; simpa using this, by simp, bl_alloc (Below.refl _ _) _⟩
  case round =>
    clear Hq hb
    obtain ⟨L', l, A, c, rfl, hown, ⟨B0, d0, B1, d1, hpl⟩, okl, sol, hk, hll, hst, hbl⟩ := hrel
    obtain ⟨k', rfl⟩ : ∃ k', gk = k' + 1 := ⟨gk - 1, by omega⟩
    obtain ⟨wo, hwo⟩ : ∃ wo : World, wo = wr := ⟨_, rfl⟩
    subst hwo
    have hb := hpl.blk
    have lg' : w.heap.size < wo.heap.size := Blk.lt hb
    have Hown := hid hown
    have Hpl := hid hpl
    have Okl := hid okl
    have Sol := hid sol
    have Hbl := hid hbl
    have Hk := hid hk
    rcases hpk : L'.pick with _ | ⟨a, L2⟩
    · have hfin : L.waiting = l := by
        unfold Lim.waiting
        rw [hst]
        simp only [Lim.waits, hpk, List.append_nil]
      have Hfin := hid hfin
      have Hn := hid (next_no w.heap.size L' B0 d0 B1 d1 wo hpl hpk)
      clear hfin hown hpl okl sol hbl hst hk hpk
      go_wp2_with (go_at_call 43; refine Hn.out.mono ?_; rintro e w2 ⟨rfl, hb2⟩; have Hb2 := hid hb2; clear hb2)
      refine HR.out _ _ ⟨A, c, ?_⟩
      rw [Hfin.out]
      exact ⟨rfl, own_below Hown.out (bl_alloc Hb2.out _), bl_then Hbl.out (bl_alloc Hb2.out _)⟩
    · have okp := okl.pick hpk
      have Hn := hid (next_yes w.heap.size L' L2 a B0 d0 B1 d1 wo hpl hpk)
      have hstep : Lim.waits (k' + 1) L' = a.1 :: Lim.waits k' L2 := by simp only [Lim.waits, hpk]
      rw [hstep] at hst
      have Hst := hid hst
      have Okp := hid okp
      have Hg := hid (fun (W : World) (h : RAt W w.heap.size L') => rgoes_at okl sol hpk h)
      have Sop := hid (sol.pick hpk)
      have hwho : (Value.slice A l.length c).ownBlock ≠ some w.heap.size := own_ne_blk hown hb (by decide)
      have Hw3 := hid (fun (w3 : World) (h : Chg (fun k => k = w.heap.size) wo w3) => own_chg hown h (fun k hk e => hwho (by rw [hk, e])))
      clear hown hpl okl sol hbl hst hk hpk okp hstep hwho
      obtain ⟨i3, hi0, hz0, hz1, hz2⟩ := info_parts Try.info3
      have hfd := rrun_who
      have hs0 := Hbl.out.size
      go_wp2_with (first
        | (go_at_call 43; refine Hn.out.mono ?_; rintro e w2 ⟨rfl, hb2⟩; have hk2 := (bl_at hb2 w.heap.size lg').trans hb; have hs2 := hb2.size; have lg2 : w.heap.size < w2.heap.size := (by omega); have ne2 : w2.heap.size ≠ w.heap.size := (by omega); have Hb2 := hid hb2; clear hb2)
        | (go_at_call 44; refine (Hg.out _ ?_).mono ?_; exact RAt.below ⟨B0, d0, B1, d1, Hpl.out⟩ (bl_alloc Hb2.out _); rintro e w3 ⟨rfl, hp3, hc3⟩; have hcc : Chg (fun k => k = w.heap.size) wo w3 := Chg.trans (F := fun k => k = w.heap.size) (Chg.of_below (bl_alloc Hb2.out _)) hc3 (fun _ _ h => h) (fun _ _ h => h); have hs3 := hcc.size; have Hp3 := hid hp3; have Hcc := hid hcc; clear hp3 hc3 hcc)
        | (at_builtin; refine wpList_append_rd _ rfl (.tmp 17) (.tmp 20) _ rfl w.heap.size 3 i3 _ 1 8 Try.underlying35 hi0 hz0 hz1 hz2 rfl (by decide) (.slice A l.length c) l.length (ints l) rfl ?ho (w3.heap.size + 1) (some ⟨w3.heap.size, 0, none⟩) 1 1 [.int .i64 a.1] rfl ?hr ?h1 ?h63 ?hb ?hbase ?hk; case' hk => (intro v2 w4 hown4 hg4 hat4; obtain ⟨A3, c3, rfl, _⟩ := own_shape hown4)))
      case ho => exact own_drew ((Hw3.out _ Hcc.out).alloc _)
      case hr => exact Rd.drew (rd_new w3 3 1 1 [.int .i64 a.1] rfl)
      case h1 => simp [Value.oneCell']
      case h63 => simp only [maxLen]; omega
      case hb => omega
      case hbase => simp; omega
      go_roundg k'
      case measure => omega
      case rel =>
        have hoc : ∀ k, (Value.slice A l.length c).ownBlock = some k → w.heap.size ≤ k := fun k hk => (Hown.out.lt k hk).1
        have hcz : Chg (fun k => (Value.slice A l.length c).ownBlock = some k) w3 w4 := Chg.grown (Chg.alloc (Chg.refl _ _) _) hg4 (fun k hk _ => hk)
        have hp4 := Hp3.out.chg hcz (fun k cs t fr hk ht e => by
          have ho3 := Hw3.out _ Hcc.out
          refine own_ne_cells ho3 hk (fun e3 => ?_) e
          rcases ht with rfl | rfl <;> exact absurd e3 (by decide))
        refine ⟨L2, l ++ [a.1], A3, c3, by simp, by simpa [ints] using hown4, hp4, Okp.out.1, Sop.out, ?_, ?_, ?_, ?_⟩
        · have h1 := Okp.out.2.2.2.1
          have h2 := Hk.out
          omega
        · have h1 := Okp.out.2.2.2.1
          simp only [List.length_append, List.length_cons, List.length_nil]
          omega
        · rw [Hst.out]; simp
        · have h1 : Below w.heap.size w w3 := (Chg.trans (H := fun k => k = w.heap.size) (Chg.of_below (F := fun k => k = w.heap.size) Hbl.out) Hcc.out (fun _ _ h => h) (fun _ _ h => h)).to_below (Nat.le_refl _) (fun k hk e => by omega)
          exact bl_grown (bl_alloc h1 _) hg4 hoc
end Go.Proofs.Ytbiaelaaihieeaa
