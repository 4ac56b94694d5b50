/- The document's first example: a living limiter. -/
import Derived.Test.YtbiaelaaihieeaaF
set_option linter.unusedVariables false
set_option linter.unusedSimpArgs false
set_option maxRecDepth 100000
namespace Go.Proofs.Ytbiaelaaihieeaa
open Go.RowKit
variable {B : Nat}

theorem step_to {w : World} {g n : Nat} {L L' : Lim} {l : List Int} (h : L.step = (l, L')) (hn : l.length = n) (hp : PAt B w g L) (ok : L.Ok) (W : World) (hW : Eqv W w) :
    Calls Try.prog 13 #[.pointer (some ⟨g, 0, none⟩)] W fun e w' => ∃ A c, e = .returned (.slice A n c) ∧ w'.ownsRow w.heap.size 3 1 (.slice A n c) n (ints l) ∧ PAt B w' g L' ∧ Chg (LimF B w) w w' ∧ L'.Ok := by
  have := step_at hp ok W hW
  rw [h] at this
  subst hn
  exact this
theorem own_first {w : World} {base n c : Nat} {A : Option Addr} {x : Int} {l : List Int} (h : w.ownsRow base 3 1 (.slice A n c) n (ints (x :: l))) : ∃ b, A = some ⟨b, 0, none⟩ ∧ b < w.heap.size ∧ (blkOf w b).bind (cellAt 0) = some (.int .i64 x) := by
  have hl := h.1
  simp only [ints, List.map_cons, List.length_cons] at hl
  obtain ⟨b, cap, hv, _, hlt⟩ := h.form (by omega)
  have hA : A = some ⟨b, 0, none⟩ := by injection hv
  subst hA
  exact ⟨b, rfl, hlt, cell_at ((h.cellAt 0 (by omega)).trans rfl)⟩

def lv0 : Lim := Lim.new 10 20
def lv1 : Lim := { lv0 with os := [(1, 20, false)] }
def lv2 : Lim := { lv0 with os := [(1, 20, false), (2, 15, false)] }
def lv3 : Lim := { lv0 with left := 0, os := [(2, 15, false)] }
def lv4 : Lim := { lv0 with left := 10, os := [(2, 15, false)] }
def lv5 : Lim := { lv0 with left := 5 }
theorem lv_ask1 : lv0.asked 1 20 false = lv1 := by kernel_rfl
theorem lv_ask2 : lv1.asked 2 15 false = lv2 := by kernel_rfl
theorem lv_step1 : lv2.step = ([1], lv3) := by kernel_rfl
theorem lv_step2 : lv3.step = ([], lv4) := by kernel_rfl
theorem lv_step3 : lv4.step = ([2], lv5) := by kernel_rfl
set_option maxHeartbeats 800000 in
theorem lives_any (w : World) : Calls Try.prog 10 #[] w fun e w' => e = .returned (.bool true) ∧ Below w.heap.size w w' := by
  refine calls_of fun R HR => ?_
  have hp0 : PAt w.heap.size _ w.heap.size lv0 := new_at 10 20 w (Nat.le_refl _)
  have ok0 : lv0.Ok := new_okk 10 20 (by omega) (by omega) (by omega)
  have Hp0 := hid hp0; clear hp0
  have Ok0 := hid ok0; clear ok0
  go_enter Try.func10, Try.ntmps10
  go_wp2_with fail
  refine (new_ok 10 20 _ (by omega) (by omega)).mono ?_
  rintro e w1 ⟨rfl, rfl⟩
  go_wp2_with fail
  refine (ask_at Hp0.out Ok0.out 1 20 false _ ?_).mono ?_
  · exact ⟨rfl, rfl, rfl, rfl⟩
  rw [lv_ask1, show lv0.fits 20 = true from by kernel_rfl]
  rintro e w2 ⟨rfl, hp, hc1⟩
  have Ok1 := hid (Ok0.out.asked 1 20 false (by omega))
  rw [lv_ask1] at Ok1
  have Hp1 := hid hp; have Hc1 := hid hc1; clear hp hc1
  go_wp2_with fail
  refine (ask_at Hp1.out Ok1.out 2 15 false _ ?_).mono ?_
  · exact ⟨rfl, rfl, rfl, rfl⟩
  rw [lv_ask2, show lv1.fits 15 = true from by kernel_rfl]
  rintro e w3 ⟨rfl, hp, hc1⟩
  have Ok2 := hid (Ok1.out.asked 2 15 false (by omega))
  rw [lv_ask2] at Ok2
  have Hp2 := hid hp; have Hc2 := hid hc1; clear hp hc1
  go_wp2_with fail
  refine (step_to lv_step1 rfl Hp2.out Ok2.out _ ?_).mono ?_
  · exact ⟨rfl, rfl, rfl, rfl⟩
  rintro e w4 ⟨Aa, ca, rfl, ha, hp, hc1, ok⟩
  have Ha := hid ha; have Hp3 := hid hp; have Hc3 := hid hc1; have Ok3 := hid ok; clear ha hp hc1 ok
  go_wp2_with fail
  refine (step_to lv_step2 rfl Hp3.out Ok3.out _ ?_).mono ?_
  · exact ⟨rfl, rfl, rfl, rfl⟩
  rintro e w5 ⟨Ab, cb, rfl, hbb, hp, hc1, ok⟩
  have Hp4 := hid hp; have Hc4 := hid hc1; have Ok4 := hid ok; clear hbb hp hc1 ok
  go_wp2_with fail
  refine (step_to lv_step3 rfl Hp4.out Ok4.out _ ?_).mono ?_
  · exact ⟨rfl, rfl, rfl, rfl⟩
  rintro e w6 ⟨Ac, cc, rfl, hcc, hp, hc1, ok⟩
  have ha5 := own_chg Ha.out Hc4.out (fun k hk => limF_row Ha.out (by decide) (by decide) hk)
  have ha6 := own_chg ha5 hc1 (fun k hk => limF_row ha5 (by decide) (by decide) hk)
  obtain ⟨ba, rfl, lba, ka⟩ := own_first ha6
  obtain ⟨bc, rfl, lbc, kc⟩ := own_first hcc
  have hbl : Below w.heap.size w w6 := by
    have h1 : Chg (LimF w.heap.size w2) w2 w3 := Hc2.out
    have g1 : Chg (fun k => w.heap.size ≤ k) w w2 := ((Chg.refl _ w).alloc _).trans Hc1.out (fun _ _ h => h) (fun _ _ h => h.1)
    have g2 := g1.trans Hc2.out (H := fun k => w.heap.size ≤ k) (fun _ _ h => h) (fun _ _ h => h.1)
    have g3 := g2.trans Hc3.out (H := fun k => w.heap.size ≤ k) (fun _ _ h => h) (fun _ _ h => h.1)
    have g4 := g3.trans Hc4.out (H := fun k => w.heap.size ≤ k) (fun _ _ h => h) (fun _ _ h => h.1)
    have g5 := g4.trans hc1 (H := fun k => w.heap.size ≤ k) (fun _ _ h => h) (fun _ _ h => h.1)
    exact g5.to_below (Nat.le_refl _) (fun k hk h => by omega)
  have Hbl := hid hbl
  clear ha5 ha6 hcc hp hc1 ok hbl
  go_wp2
  exact HR.out _ _ ⟨rfl, Hbl.out⟩
end Go.Proofs.Ytbiaelaaihieeaa
