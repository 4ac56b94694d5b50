/- The cache: a living cache of strings. -/
import Derived.Test.YtbiaelaaihieeaaSt16
set_option linter.unusedVariables false
set_option linter.unusedSimpArgs false
set_option maxRecDepth 100000
namespace Go.Proofs.Ytbiaelaaihieeaa.Str
open Go.RowKit

variable {B : Nat}
def I0 : Nat → It := fun _ => ⟨⟨#[]⟩, .bool false, 0, false, 0⟩
def S0 : CS := ⟨10, false, 0, [], fun _ => Sh.nil, I0, []⟩
theorem ok0 (n : Nat) (S : CS) (hr : 0 ≤ S.room ∧ S.room ≤ 18446744073709551615) (h1 : S.last = 0) (h2 : S.pins = []) (h3 : ∀ i, S.sh i = Sh.nil) (h4 : S.its = []) : COk n S := by
  refine ⟨hr, by omega, fun i _ => ?_, fun i _ b hb => ?_, fun i _ b hb => ?_, fun i _ p hp => ?_, fun p hp => ?_, fun b hb => ?_, fun i _ => ?_, ?_, fun b hb => ?_, fun b hb => ?_, fun p hp => ?_, fun i _ b hb => ?_⟩
  · rw [h3]; exact ⟨fun y hy => by simp [Sh.nil] at hy, fun y hy => by simp [Sh.nil] at hy⟩
  · rw [h3] at hb; simp [Sh.nil] at hb
  · rw [h3] at hb; simp [Sh.nil] at hb
  · rw [h3] at hp; simp [Sh.nil] at hp
  · rw [h2] at hp; simp at hp
  · rw [h4] at hb; simp at hb
  · rw [h3]; simp [Sh.nil]
  · rw [h4, h1]; simp
  · rw [h4] at hb; simp at hb
  · rw [h4] at hb; simp at hb
  · rw [h2] at hp; simp at hp
  · rw [h3] at hb; simp [Sh.nil] at hb
theorem made_nil' {more room : Int} {S T : Sh} {I J : Nat → It} (h : Made more room S I T J) (hw : S.wt = []) : T = S ∧ J = I := by
  cases h with
  | none => exact ⟨rfl, rfl⟩
  | fits => exact ⟨rfl, rfl⟩
  | step hw' => rw [hw] at hw'; cases hw'
theorem sidx_one (key : ByteArray) : sidx 1 key = 0 := by have := sidx_lt (n := 1) (by decide) key; omega
def ka : ByteArray := ⟨#[97]⟩
def va : ByteArray := ⟨#[120]⟩
def a1 : It := ⟨ka, .string va, 4, true, 0⟩
def S1 (nb : Nat) : CS := (S0.added 0 nb a1).pinned nb
def S2 (nb : Nat) : CS := ((S1 nb).unwait 0 nb).pinned nb
theorem ok1 (nb : Nat) : COk 1 (S1 nb) := (ok0 1 S0 (by decide) rfl rfl (fun _ => rfl) rfl).added (by decide) (by simp [S0]) (sidx_one _) rfl (by decide) rfl (by decide)
theorem s1_sh (nb : Nat) : (S1 nb).sh 0 = ⟨[(ka, nb)], [nb], []⟩ := rfl
theorem s1_it (nb : Nat) : (S1 nb).it nb = { a1 with pins := 1 } := by
  show upd (upd S0.it nb a1) nb { upd S0.it nb a1 nb with pins := (upd S0.it nb a1 nb).pins + 1 } nb = _
  rw [upd_same, upd_same]; rfl
theorem ok2 (nb : Nat) : COk 1 (S2 nb) := by
  refine ((ok1 nb).busy (i := 0) (by decide) nb).pinned (by show nb ∈ S0.its ++ [nb]; simp) (fun i hi => ?_) ?_
  · obtain rfl : i = 0 := by omega
    show nb ∉ less ((S1 nb).sh 0).wt nb
    rw [s1_sh]; simp [less]
  · rw [sidx_one]
    show nb ∈ ((S1 nb).sh 0).al
    rw [s1_sh]; simp
theorem s2_it (nb : Nat) : (S2 nb).it nb = { a1 with pins := 2 } := by
  show upd (S1 nb).it nb { (S1 nb).it nb with pins := ((S1 nb).it nb).pins + 1 } nb = _
  rw [upd_same, s1_it]; rfl
theorem s2_sh (nb : Nat) : (S2 nb).sh 0 = ⟨[(ka, nb)], [nb], []⟩ := rfl
theorem s2_charge (nb : Nat) : (S2 nb).charge 1 = 4 := by
  rw [charge_succ, s2_sh]
  simp [CS.charge, chs, s2_it, a1]
theorem s2_pcharge (nb : Nat) : (S2 nb).pcharge 1 = 4 := by
  rw [pcharge_succ, s2_sh]
  simp [CS.pcharge, pchs, pch, s2_it, a1]
theorem s2_count (nb : Nat) : (S2 nb).count 1 = 1 := by
  rw [count_succ, s2_sh]; simp [CS.count]
theorem put_S1 {w w' : World} {x : CL} {T : Sh} {I : Nat → It} {e : Ending} (hp : CPut B w x S0 ka (.string va) 4 T I e w') (hx : x.n = 1) : e = .returned (.tuple #[.int .i64 1, .int .i64 0]) ∧ Chg (x.F S0) w w' ∧ ∃ nb, CAt B w' x (S1 nb) := by
  obtain ⟨hm, hc, ho⟩ := hp
  obtain ⟨rfl, rfl⟩ := made_nil' hm rfl
  rcases ho with ⟨⟨hf, _⟩, _⟩ | ⟨_, nb, _, he, hC⟩
  · exact absurd hf (by decide)
  · refine ⟨he, hc, nb, ?_⟩
    have e0 : sidx x.n ka = 0 := by rw [hx]; exact sidx_one _
    rw [e0, turn_self] at hC
    exact hC
theorem get_S2 {w w' : World} {x : CL} {nb : Nat} {e : Ending} (hg : CGet B w x (S1 nb) ka e w') (hx : x.n = 1) : e = .returned (.tuple #[.int .i64 2, .string va, .bool true]) ∧ Chg (x.F (S1 nb)) w w' ∧ CAt B w' x (S2 nb) := by
  obtain ⟨hc, hm⟩ := hg
  have e0 : sidx x.n ka = 0 := by rw [hx]; exact sidx_one _
  rw [e0, s1_sh] at hm
  have hl : look [(ka, nb)] ka = some nb := by simp [look]
  rw [hl] at hm
  obtain ⟨h1, h2⟩ := hm
  refine ⟨?_, hc, h2⟩
  rw [h1, s1_it]; rfl
set_option maxHeartbeats 1600000 in
theorem clives_any (w : World) : Calls Try.prog 24 #[] w fun e w' => e = .returned (.bool true) ∧ Below w.heap.size w w' := by
  refine calls_of fun R HR => ?_
  go_enter Try.func24, Try.ntmps24
  go_wp2_with fail
  refine (cnew_any 1 10 false _ (by decide) (by decide)).mono ?_
  rintro e w1 ⟨x, rfl, hx, c1, hb1⟩
  have Hx := hid hx
  have C1 : Hid (CAt w.heap.size w1 x S0) := hid c1
  have Hb1 := hid hb1
  clear c1 hb1 hx
  go_wp2_with fail
  refine (cput_any x S0 ka va 4 _ C1.out Hb1.out.size (by rw [Hx.out]; exact ok0 1 S0 (by decide) rfl rfl (fun _ => rfl) rfl) (by decide) (by decide) (by decide)).mono ?_
  rintro e w2 ⟨T, I, hp⟩
  obtain ⟨rfl, hc2, nb, c2⟩ := put_S1 hp Hx.out
  have C2 := hid c2; have Hc2 := hid hc2
  clear hp c2 hc2
  go_wp2_with fail
  refine (value_any x (S1 nb) 1 nb va _ C2.out (by rfl) (by show nb ∈ S0.its ++ [nb]; simp) (by rw [s1_it]; rfl)).mono ?_
  rintro e w2' ⟨rfl, hww⟩
  subst hww
  go_wp2_with fail
  refine (cget_any x (S1 nb) ka _ C2.out (by rw [Hx.out]; exact ok1 nb) (by decide) (by show (0 : Int) + 1 < _; decide) (fun b hb => ?_)).mono ?_
  · have hb' : b ∈ S0.its ++ [nb] := hb
    obtain rfl : b = nb := by simpa [S0] using hb'
    exact ⟨va, by rw [s1_it]; rfl⟩
  rintro e w3 hg
  obtain ⟨rfl, hc3, c3⟩ := get_S2 hg Hx.out
  have C3 := hid c3; have Hc3 := hid hc3
  have Ok2 : Hid (COk x.n (S2 nb)) := hid (by rw [Hx.out]; exact ok2 nb)
  have Hch : Hid (∀ W, Below w3.heap.size w3 W → Calls Try.prog 53 #[.pointer (some ⟨x.g, 0, none⟩)] W fun e w' => e = .returned (.int .u64 4) ∧ Below w3.heap.size w3 w') := hid fun W hW => by
    have := charge_any x (S2 nb) W (C3.out.below hW) Ok2.out
    rw [Hx.out, s2_charge] at this
    exact this.mono fun _ _ ⟨h1, h2⟩ => ⟨h1, bl_then hW h2⟩
  have Hpc : Hid (∀ W, Below w3.heap.size w3 W → Calls Try.prog 54 #[.pointer (some ⟨x.g, 0, none⟩)] W fun e w' => e = .returned (.int .u64 4) ∧ Below w3.heap.size w3 w') := hid fun W hW => by
    have := pinned_any x (S2 nb) W (C3.out.below hW) Ok2.out
    rw [Hx.out, s2_pcharge] at this
    exact this.mono fun _ _ ⟨h1, h2⟩ => ⟨h1, bl_then hW h2⟩
  have Hln : Hid (∀ W, Below w3.heap.size w3 W → Calls Try.prog 55 #[.pointer (some ⟨x.g, 0, none⟩)] W fun e w' => e = .returned (.int .i64 1) ∧ Below w3.heap.size w3 w') := hid fun W hW => by
    have hm : ∀ j, j < x.n → ((S2 nb).sh j).inm.length ≤ 4503599627370496 := by
      intro j hj
      rw [Hx.out] at hj
      have hj0 : j = 0 := by omega
      rw [hj0, s2_sh]
      show 1 ≤ 4503599627370496
      decide
    have := len_any x (S2 nb) W (C3.out.below hW) hm
    rw [Hx.out, s2_count] at this
    exact this.mono fun _ _ ⟨h1, h2⟩ => ⟨h1, by rw [h2]; exact hW⟩
  have hva : va.toList = [120] := by kernel_rfl
  clear hg c3 hc3
  go_wp2_with (first
    | (go_at_call 55; have q := Hb5.out; refine (Hln.out _ q).mono ?_; rintro e w6 ⟨rfl, hb6⟩; have Hb6 := hid hb6; clear hb6 q)
    | (go_at_call 54; have q := Hb4.out; refine (Hpc.out _ q).mono ?_; rintro e w5 ⟨rfl, hb5⟩; have Hb5 := hid hb5; clear hb5 q)
    | (go_at_call 53; refine (Hch.out _ (Below.refl _ _)).mono ?_; rintro e w4 ⟨rfl, hb4⟩; have Hb4 := hid hb4; clear hb4))
  have h12 : Below w.heap.size w w2' := Hb1.out.trans (Hc2.out.to_below Hb1.out.size (fun k hk hf => by have := (C1.out.lt hf).1; omega))
  have h13 : Below w.heap.size w w3 := h12.trans (Hc3.out.to_below h12.size (fun k hk hf => by have := (C2.out.lt hf).1; omega))
  exact HR.out _ _ ⟨rfl, h13.trans (Hb6.out.mono h13.size)⟩
end Go.Proofs.Ytbiaelaaihieeaa.Str
