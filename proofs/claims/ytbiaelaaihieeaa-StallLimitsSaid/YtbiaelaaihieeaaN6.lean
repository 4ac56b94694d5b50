/- The document's limiter: drop. -/
import Derived.Test.YtbiaelaaihieeaaN5
set_option linter.unusedVariables false
set_option linter.unusedSimpArgs false
set_option maxRecDepth 100000
namespace Go.Proofs.Ytbiaelaaihieeaa
open Go.RowKit

def Lim.dropped (L : Lim) (who : Int) : Lim := { L with us := keep who L.us, os := keep who L.os }
def Lim.many (L : Lim) (who : Int) : Int := (L.us.length : Int) + L.os.length - (keep who L.us).length - (keep who L.os).length
theorem without_at {w : World} {A : Option Addr} {c : Nat} {l : List Ask} (who : Int) (h : Rt w 92 3 A l.length (asks l)) (hn : l.length ≤ 4096) (W : World) (hW : Below w.heap.size w W) :
    Calls Try.prog 48 #[.slice A l.length c, .int .i64 who] W fun e w' => ∃ A' c', e = .returned (.slice A' (keep who l).length c') ∧
      w'.ownsRow W.heap.size 92 3 (.slice A' (keep who l).length c') (keep who l).length (asks (keep who l)) ∧ Below W.heap.size W w' :=
  without_any A c l who W (h.below hW).rd hn
theorem rdrop_end {w w3 : World} {g n : Nat} {L : Lim} {who : Int} {A0 : Option Addr} {c0 : Nat} {A1 : Option Addr} {c1 : Nat} {A2 : Option Addr} {c2 : Nat} {A3 : Option Addr} {c3 : Nat} (hp : RLim w g L A0 c0 A1 c1) (hb : Below w.heap.size w w3)
    (r2 : Rt w3 92 3 A2 (keep who L.us).length (asks (keep who L.us))) (r3 : Rt w3 92 3 A3 (keep who L.os).length (asks (keep who L.os))) (q2 : (keep who L.us).length ≤ c2) (q3 : (keep who L.os).length ≤ c3) :
    RAt (((w3.setCell ⟨g, 3, none⟩ (.slice A2 (keep who L.us).length c2)).setCell ⟨g, 4, none⟩ (.slice A3 (keep who L.os).length c3)).drewN n) g (L.dropped who) ∧ Chg (fun k => k = g) w (((w3.setCell ⟨g, 3, none⟩ (.slice A2 (keep who L.us).length c2)).setCell ⟨g, 4, none⟩ (.slice A3 (keep who L.os).length c3)).drewN n) := by
  have hb3 := (bl_at hb g (Blk.lt hp.blk)).trans hp.blk
  have h1 : Chg (fun k => k = g) w3 (((w3.setCell ⟨g, 3, none⟩ (.slice A2 (keep who L.us).length c2)).setCell ⟨g, 4, none⟩ (.slice A3 (keep who L.os).length c3)).drewN n) :=
    Chg.drewN (Chg.setCell (F := fun k => k = g) (Chg.setCell (F := fun k => k = g) (Chg.refl _ w3) (p := ⟨g, 3, none⟩) (fun _ => rfl) _) (p := ⟨g, 4, none⟩) (fun _ => rfl) _) n
  refine ⟨rat_mk h1 hb3 ?_ r2 r3 q2 q3, Chg.trans (F := fun k => k = g) (Chg.of_below hb) h1 (fun _ _ h => h) (fun _ _ h => h)⟩
  simp [go_sem, hb3, Lim.dropped]
set_option maxHeartbeats 1600000 in
theorem rdrop (g : Nat) (L : Lim) (A0 : Option Addr) (c0 : Nat) (A1 : Option Addr) (c1 : Nat) (w : World) (who : Int) (ok : L.Ok) (hp : RLim w g L A0 c0 A1 c1) :
    Calls Try.prog 20 #[.pointer (some ⟨g, 0, none⟩), .int .i64 who] w fun e w' => e = .returned (.int .i64 (L.many who)) ∧ RAt w' g (L.dropped who) ∧ Chg (fun k => k = g) w w' := by
  refine calls_of fun R HR => ?_
  have hb := hp.blk
  have lg := Blk.lt hb
  have hm := ok.many
  have hw : IntKind.i64.wrap ((L.us.length : Int) + (L.os.length : Int)) = (L.us.length : Int) + (L.os.length : Int) := by rw [IntKind.wrap_i64]; omega
  have Hp := hid hp
  have Hu := hid (without_at who hp.rd0 (c := c0) (by omega))
  have Ho := hid (without_at who hp.rd1 (c := c1) (by omega))
  clear ok hp
  go_enter Try.func20, Try.ntmps20
  go_wp2
  go_quiet (fail)
  go_wp2
  go_region_with
    ((first
      | (go_at_call 48; have q := Hbw2.out; refine (Ho.out _ q).mono ?_; rintro e w3 ⟨A3, c3, rfl, hown3, hb3⟩; have hbw3 : Below w.heap.size w w3 := bl_then q hb3; have e3 := (bl_at hbw3 g lg).trans hb; have Hown3 := hid hown3; have Hb3 := hid hb3; have Hbw3 := hid hbw3; clear hown3 hb3 hbw3)
      | (go_at_call 48; refine (Hu.out _ ?_).mono ?_; exact bl_drewN (Below.refl _ _) _; rintro e w2 ⟨A2, c2, rfl, hown2, hb2⟩; have hbw2 : Below w.heap.size w w2 := bl_then (bl_drewN (Below.refl _ _) _) hb2; have e2 := (bl_at hbw2 g lg).trans hb; have lg2 : g < w2.heap.size := Nat.lt_of_lt_of_le lg hbw2.size; have Hown2 := hid hown2; have Hbw2 := hid hbw2; clear hown2 hb2 hbw2)))
  all_goals
    have hx1 : IntKind.i64.wrap ((L.us.length : Int) + (L.os.length : Int) - ((keep who L.us).length : Int)) = (L.us.length : Int) + (L.os.length : Int) - ((keep who L.us).length : Int) := by have := keep_le who L.us; rw [IntKind.wrap_i64]; omega
    have hx2 : IntKind.i64.wrap ((L.us.length : Int) + (L.os.length : Int) - ((keep who L.us).length : Int) - ((keep who L.os).length : Int)) = (L.us.length : Int) + (L.os.length : Int) - ((keep who L.us).length : Int) - ((keep who L.os).length : Int) := by have := keep_le who L.us; have := keep_le who L.os; rw [IntKind.wrap_i64]; omega
    go_wp2
    go_quiet (fail)
    go_wp2
    exact HR.out _ _ ⟨rfl, rdrop_end Hp.out Hbw3.out (Rt.below (Rt.of_own Hown2.out) Hb3.out) (Rt.of_own Hown3.out) (own_cap Hown2.out).2 (own_cap Hown3.out).2⟩
end Go.Proofs.Ytbiaelaaihieeaa
