/- CachePinned: the walk. -/
import Derived.Test.YtbiaelaaihieeaaP4
import Derived.Test.YtbiaelaaihieeaaP2
import Derived.Test.YtbiaelaaihieeaaLv
import Derived.Deep.DeepCutAuto
import Derived.Deep.CutBlock
set_option linter.unusedVariables false
set_option linter.unusedSimpArgs false
set_option maxRecDepth 100000
namespace Go.Proofs.Ytbiaelaaihieeaa
open Go.RowKit

def CS.fresh (room : Int) (st : Bool) : CS := ⟨room, st, 0, [], fun _ => Sh.nil, fun _ => ⟨⟨#[]⟩, .bool false, 0, false, 0⟩, []⟩
theorem ok_fresh (n : Nat) (room : Int) (st : Bool) (hr : 0 ≤ room ∧ room ≤ 18446744073709551615) : COk n (CS.fresh room st) := by
  refine ⟨hr, by simp [CS.fresh], fun i _ => ?_, fun i _ b hb => ?_, fun i _ b hb => ?_, fun i _ p hp => ?_, fun p hp => ?_, fun b hb => ?_, fun i _ => ?_, ?_, fun b hb => ?_, fun b hb => ?_, fun p hp => ?_, fun i _ b hb => ?_⟩
  · exact ⟨fun y hy => by simp [CS.fresh, Sh.nil] at hy, fun y hy => by simp [CS.fresh, Sh.nil] at hy⟩
  · simp [CS.fresh, Sh.nil] at hb
  · simp [CS.fresh, Sh.nil] at hb
  · simp [CS.fresh, Sh.nil] at hp
  · simp [CS.fresh] at hp
  · simp [CS.fresh] at hb
  · simp [CS.fresh, Sh.nil]
  · simp [CS.fresh]
  · simp [CS.fresh] at hb
  · simp [CS.fresh] at hb
  · simp [CS.fresh] at hp
  · simp [CS.fresh, Sh.nil] at hb
theorem cw_fresh {w w1 : World} {x : CL} {n : Nat} {room : Int} {st : Bool} (hn : x.n = n) (hr : 0 ≤ room ∧ room ≤ 18446744073709551615) (hC : CAt w.heap.size w1 x (CS.fresh room st)) (hb : Below w.heap.size w w1) : CW w w.heap.size x.g n 0 x (CS.fresh room st) w1 :=
  ⟨rfl, hn, hC, ok_fresh n room st hr, fun b hb => by simp [CS.fresh] at hb, Int.le_refl _, by decide, Nat.le_refl _, hb.size, hb⟩
/-- The first Put is refused where there is no room at all. -/
theorem full_fresh {n : Nat} {room : Int} {st : Bool} {key : ByteArray} {T : Sh} {I : Nat → It} (hm : Made 1 ((CS.fresh room st).room / n) ((CS.fresh room st).sh (sidx n key)) (CS.fresh room st).it T I) (hf : (CS.fresh room st).full n 1 T I) : st = true ∧ room / n < 1 := by
  have hT : T = Sh.nil ∧ I = (CS.fresh room st).it := by
    cases hm with
    | none => exact ⟨rfl, rfl⟩
    | fits => exact ⟨rfl, rfl⟩
    | step h => simp [CS.fresh, Sh.nil] at h
  obtain ⟨rfl, rfl⟩ := hT
  refine ⟨hf.1, ?_⟩
  have h2 := hf.2
  have hu : addTop (usedOf Sh.nil (CS.fresh room st).it) 1 = 1 := by simp [usedOf, Sh.nil, chs, cap, addTop]
  rw [hu] at h2
  exact h2
theorem pin_no (n room : Int) (st : Bool) (key : ByteArray) (v : Value) (w : World) (h : n < 1 ∨ 64 < n) :
    Calls Try.prog 8 #[.agg #[.int .i64 n, .int .u64 room, .bool st], .string key, v] w fun e w' => e = .returned (.bool true) ∧ Below w.heap.size w w' := by
  refine calls_of fun R HR => ?_
  have Hn := hid (cnew_no n room st (w.alloc (.cells #[.int .i64 n, .int .u64 room, .bool st] 54)) h)
  have Hl := hid (Str.clives_any (w.alloc (.cells #[.int .i64 n, .int .u64 room, .bool st] 54)))
  by_cases h1 : n < 1
  · clear h
    go_enter Try.func8, Try.ntmps8
    go_wp2_with (first
      | (go_at_call 24; refine Hl.out.mono ?_; rintro e w2 ⟨rfl, hb⟩; have Hb := hid hb; clear hb)
      | (go_at_call 23; refine Hn.out.mono ?_; rintro e w1 ⟨rfl, rfl⟩))
    exact HR.out _ _ ⟨rfl, bl_then (bl_alloc (Below.refl _ _) _) Hb.out⟩
  · have h2 : 64 < n := by omega
    clear h
    go_enter Try.func8, Try.ntmps8
    go_wp2_with (first
      | (go_at_call 24; refine Hl.out.mono ?_; rintro e w2 ⟨rfl, hb⟩; have Hb := hid hb; clear hb)
      | (go_at_call 23; refine Hn.out.mono ?_; rintro e w1 ⟨rfl, rfl⟩))
    exact HR.out _ _ ⟨rfl, bl_then (bl_alloc (Below.refl _ _) _) Hb.out⟩
def actCells (a : CActD) : Array Value := #[.int .i64 a.1, .int .i64 a.2.1, .string a.2.2.1, .int .u64 a.2.2.2.1, .int .u64 a.2.2.2.2]
def PinRel (w1 : World) (g n : Nat) (k : Int) (N : Nat) (gk : Nat) (v11 : Value) (wr : World) : Prop :=
  ∃ (i : Nat) (x : CL) (S : CS), i ≤ N ∧ gk = N - i ∧ v11 = .int .i64 i ∧ CW w1 w1.heap.size g n (i + 1) x S wr ∧ Holds S k 4711
set_option maxHeartbeats 3200000 in
theorem pin_ok (n : Nat) (room : Int) (st : Bool) (key : ByteArray) (A : Option Addr) (N c : Nat) (l : List CActD) (w : World) (h0 : 0 < n) (h1 : n ≤ 64) (hroom : 0 ≤ room ∧ room ≤ 18446744073709551615) (hk : key.size ≤ maxLen) (hr : Rd w w.heap.size 5 A N (cactsC l)) (hN : N ≤ 4398046511103)
    (hQ : ∀ a ∈ l, a.2.2.1.size ≤ maxLen ∧ (0 ≤ a.2.2.2.2 ∧ a.2.2.2.2 ≤ 18446744073709551615)) :
    Calls Try.prog 8 #[.agg #[.int .i64 n, .int .u64 room, .bool st], .string key, .slice A N c] w fun e w' => e = .returned (.bool true) ∧ Below w.heap.size w w' := by
  refine calls_of fun R HR => ?_
  have HQ := hid hQ; have Hr := hid hr; have HN := hid hN; have Hroom := hid hroom; have Hk := hid hk
  clear hQ hr hroom hk
  go_enter Try.func8, Try.ntmps8
  go_wp2_with fail
  obtain ⟨v, hv⟩ : ∃ v : World, v = w.alloc (.cells #[.int .i64 n, .int .u64 room, .bool st] 54) := ⟨_, rfl⟩
  rw [← hv]
  have Hv := hid hv
  have hf : blkOf v w.heap.size = some (.cells #[.int .i64 n, .int .u64 room, .bool st] 54 (0, 0)) := by rw [hv]; exact blk_new w _
  have hvs : v.heap.size = w.heap.size + 1 := by rw [hv]; exact World.size_alloc ..
  have Hvs := hid hvs
  clear hv
  refine (cnew_any n room st _ h0 h1).mono ?_
  rintro e w1 ⟨x, rfl, hxn, c1, hb1⟩
  have cw := cw_fresh hxn Hroom.out c1 hb1
  have hf1 : blkOf w1 w.heap.size = _ := (bl_at hb1 _ (by omega)).trans hf
  obtain ⟨g, hg⟩ : ∃ g, g = x.g := ⟨_, rfl⟩
  rw [← hg] at cw ⊢
  have Cw := hid cw
  have Hf1 := hid hf1
  have Hput := hid (cw.put key 4711 1 Hk.out (by decide) (by decide) w1 (Below.refl _ _))
  clear c1 hb1 hxn hg cw hf hf1 hvs
  go_wp2_with fail
  refine Hput.out.mono ?_
  rintro e w2 ⟨z, a, S', rfl, po⟩
  have Po := hid po
  have hf2 : blkOf w2 w.heap.size = _ := (bl_at po.cw.below _ (by have := Hvs.out; omega)).trans ((bl_at Cw.out.below _ (by have := Hvs.out; omega)).symm.trans Hf1.out)
  have Hb2 : Hid (Below w.heap.size w w2) := hid (by
    have h1 : Below w.heap.size w v := by have := Hv.out; rw [this]; exact bl_alloc (Below.refl _ _) _
    exact h1.trans (po.cw.below.mono (by have := Hvs.out; omega)))
  have hor := po.or
  clear po Hput
  rcases hor with ⟨rfl, hl⟩ | ⟨rfl, T, I, hm, hf⟩ | ⟨rfl, rfl, ho⟩
  · have hl2 : (1024 : Int) < (key.size : Int) := by omega
    have Hlv := hid (Str.clives_any w2)
    go_wp2_with (go_at_call 24; refine Hlv.out.mono ?_; rintro e w3 ⟨rfl, hb3⟩; have Hb3 := hid (bl_then Hb2.out hb3); clear hb3)
    exact HR.out _ _ ⟨rfl, Hb3.out⟩
  · have hq := full_fresh hm hf
    obtain ⟨rfl, hq⟩ := hq
    have hr0 := Hroom.out
    have hn : IntKind.u64.wrap (n : Int) = (n : Int) := by unfold IntKind.wrap; simp [IntKind.bits, IntKind.signed]; omega
    have hn0 : ((n : Int) == 0) = false := by rw [beq_eq_false_iff_ne]; omega
    have hn1 : (1 : Int) ≤ n := by omega
    have h2 : room / (n : Int) ≤ room := Int.ediv_le_self _ hr0.1
    have h3 : 0 ≤ room / (n : Int) := Int.ediv_nonneg hr0.1 (by omega)
    have h4 : IntKind.u64.wrap (room.tdiv (n : Int)) = room / (n : Int) := by
      rw [Int.tdiv_eq_ediv_of_nonneg hr0.1]
      unfold IntKind.wrap; simp [IntKind.bits, IntKind.signed]; omega
    clear hm hf
    have Hlv := hid (Str.clives_any w2)
    go_wp2_with (go_at_call 24; refine Hlv.out.mono ?_; rintro e w3 ⟨rfl, hb3⟩; have Hb3 := hid (bl_then Hb2.out hb3); clear hb3)
    exact HR.out _ _ ⟨rfl, Hb3.out⟩
  · have Ho := hid ho
    clear ho hf2
    go_wp2
    go_loopg [11, 12, 13, 14, 15, 16] N (fun gk v11 v12 v13 v14 v15 v16 wr => PinRel v g n ((CS.fresh room st).last + 1) N gk v11 wr)
    case atStart => exact ⟨0, x, S', Nat.zero_le _, rfl, rfl, Po.out.cw, Ho.out⟩
    case round =>
      obtain ⟨i, x3, S3, hi, rfl, rfl, cw3, ho3⟩ := hrel
      obtain ⟨wo, hwo⟩ : ∃ wo : World, wo = wr := ⟨_, rfl⟩
      subst hwo
      have C3 := hid cw3
      have O3 := hid ho3
      have Hbo : Hid (Below w.heap.size w wo) := hid (by
        have h1 : Below w.heap.size w v := by have := Hv.out; rw [this]; exact bl_alloc (Below.refl _ _) _
        exact h1.trans (cw3.below.mono (by have := Hvs.out; omega)))
      clear cw3 ho3 Ho Po Hb2 Cw Hf1
      by_cases hlt : i < N
      · obtain ⟨ab, o, hl, rfl, lab, k0, k1, k2, k3, k4⟩ := cact_at Hr.out Hbo.out hlt
        have hi0 : (0 : Int) ≤ (i : Int) := Int.natCast_nonneg _
        have hi1 : (i : Int) < (N : Int) := by omega
        have hq := HQ.out l[i] (List.getElem_mem hl)
        obtain ⟨a, ha⟩ : ∃ a, a = l[i] := ⟨_, rfl⟩
        rw [← ha] at k0 k1 k2 k3 k4 hq
        clear ha
        go_upto_block 2 with fail
        obtain ⟨wb, hwb⟩ : ∃ wb : World, wb = wo.alloc (.cells (actCells a) 60) := ⟨_, rfl⟩
        have hbw : Below wo.heap.size wo wb := by rw [hwb]; exact bl_alloc (Below.refl _ _) _
        have hba : blkOf wb wo.heap.size = some (.cells (actCells a) 60 (0, 0)) := by rw [hwb]; exact blk_new wo _
        have hwb0 : wo.heap.size < wb.heap.size := by rw [hwb, World.size_alloc]; omega
        show Code.wp _ _ _ _ (wo.alloc (.cells (actCells a) 60))
        rw [← hwb]
        have Hbw := hid hbw
        have Hwb0 := hid hwb0
        clear k0 k1 k2 k3 k4 hwb hbw hwb0
        go_cut [12] (fun v12 wx => ∃ x4 S4, CW v v.heap.size g n (i + 1 + 1) x4 S4 wx ∧ Holds S4 ((CS.fresh room st).last + 1) 4711)
        case first =>
          by_cases h0 : a.1 = 0
          · have Hput := hid (C3.out.put a.2.2.1 a.2.2.2.1 a.2.2.2.2 hq.1 hq.2 (by have := HN.out; omega) wb Hbw.out)
            simp only [actCells] at hba
            have e0 : (a.1 == 0) = true := by rw [beq_iff_eq]; exact h0
            clear h0
            go_wp2_with fail
            refine Hput.out.mono ?_
            rintro e w3 ⟨z, y, S4, rfl, po⟩
            have Po := hid po
            have e3 := (po.far wo.heap.size (Nat.le_refl _) Hwb0.out).trans hba
            have hor := po.or
            clear po
            rcases hor with ⟨rfl, _⟩ | ⟨rfl, _⟩ | ⟨rfl, rfl, ho⟩
            · go_wp2_with fail
              go_meet
              exact ⟨x3, S4, Po.out.cw, Po.out.keeps _ _ O3.out⟩
            · go_wp2_with fail
              go_meet
              exact ⟨x3, S4, Po.out.cw, Po.out.keeps _ _ O3.out⟩
            · have hne : (CS.fresh room st).last + 1 ≠ S3.last + 1 := by
                obtain ⟨b, hb, _⟩ := O3.out
                have := (C3.out.ok.pins _ (lookP_some hb)).1
                show (0 : Int) + 1 ≠ _
                have h9 : ((CS.fresh room st).last + 1 : Int) ≤ S3.last := this
                have h8 : (CS.fresh room st).last = 0 := rfl
                omega
              obtain ⟨nb, hnb, _⟩ := ho
              have Hfr := hid (Po.out.cw.free hnb w3 (Below.refl _ _))
              have Hne := hid hne
              clear hnb hne
              go_wp2_with (go_at_call 27; refine Hfr.out.mono ?_; rintro e w5 ⟨rfl, x5, S5, c5, hk5, _⟩; have C5 := hid c5; have K5 := hid hk5; clear c5 hk5)
              · go_meet
                exact ⟨x5, S5, C5.out, K5.out _ _ Hne.out (Po.out.keeps _ _ O3.out)⟩
              · go_meet
                exact ⟨x3, S4, Po.out.cw, Po.out.keeps _ _ O3.out⟩
          · have e0 : (a.1 == 0) = false := by rw [beq_eq_false_iff_ne]; exact h0
            clear h0
            by_cases h1 : a.1 = 1
            · have Hget := hid (C3.out.get a.2.2.1 hq.1 (by have := HN.out; omega) wb Hbw.out)
              simp only [actCells] at hba
              have e1 : (a.1 == 1) = true := by rw [beq_iff_eq]; exact h1
              clear h1
              go_wp2_with (go_at_call 31; refine Hget.out.mono ?_; rintro e w3 ⟨⟨u, rfl⟩, S4, c4, hk4⟩; have C4 := hid c4; have K4 := hid hk4; clear c4 hk4)
              go_meet
              exact ⟨x3, S4, C4.out, K4.out _ _ O3.out⟩
            · have e1 : (a.1 == 1) = false := by rw [beq_eq_false_iff_ne]; exact h1
              clear h1
              by_cases h4 : a.1 = 4
              · have Hdr := hid (C3.out.drop a.2.2.1 hq.1 (by have := HN.out; omega) wb Hbw.out)
                simp only [actCells] at hba
                have e4 : (a.1 == 4) = true := by rw [beq_iff_eq]; exact h4
                clear h4
                go_wp2_with (go_at_call 32; refine Hdr.out.mono ?_; rintro e w3 ⟨⟨u, rfl⟩, S4, c4, hk4⟩; have C4 := hid c4; have K4 := hid hk4; clear c4 hk4)
                go_meet
                exact ⟨x3, S4, C4.out, K4.out _ _ O3.out⟩
              · have e4 : (a.1 == 4) = false := by rw [beq_eq_false_iff_ne]; exact h4
                clear h4
                by_cases h5 : a.1 = 5
                · have Hro := hid (C3.out.room a.2.2.2.2 hq.2 (by have := HN.out; omega) wb Hbw.out)
                  simp only [actCells] at hba
                  have e5 : (a.1 == 5) = true := by rw [beq_iff_eq]; exact h5
                  clear h5
                  go_wp2_with (go_at_call 33; refine Hro.out.mono ?_; rintro e w3 ⟨rfl, S4, c4, hk4⟩; have C4 := hid c4; have K4 := hid hk4; clear c4 hk4)
                  go_meet
                  exact ⟨x3, S4, C4.out, K4.out _ _ O3.out⟩
                · have e5 : (a.1 == 5) = false := by rw [beq_eq_false_iff_ne]; exact h5
                  clear h5
                  simp only [actCells] at hba
                  go_wp2_with fail
                  go_meet
                  exact ⟨x3, S3, (C3.out.later Hbw.out).more (by omega) (by have := HN.out; omega), O3.out⟩
        case rest =>
          obtain ⟨x4, S4, cw4, ho4⟩ := hcut
          have C4 := hid cw4
          have O4 := hid ho4
          have Hva := hid (cw4.value ho4)
          clear cw4 ho4
          go_wp2_with (go_at_call 34; refine Hva.out.mono ?_; rintro e w4 ⟨rfl, rfl⟩)
          go_roundg (N - (i + 1))
          case measure => omega
          case rel => exact ⟨i + 1, x4, S4, by omega, rfl, by go_num, C4.out.more (by push_cast; omega) (by have := HN.out; push_cast; omega), O4.out⟩
      · obtain rfl : i = N := by omega
        obtain ⟨b, hb, hv⟩ := O3.out
        have Hfr := hid (C3.out.free hb wo (Below.refl _ _))
        clear hb hv
        go_wp2_with (first
          | (go_at_call 24; refine (Str.clives_any _).mono ?_; rintro e w6 ⟨rfl, hb6⟩; have Hb6 := hid hb6; clear hb6)
          | (go_at_call 27; refine Hf2.out.mono ?_; rintro e w5 ⟨rfl, rfl⟩)
          | (go_at_call 27; refine Hfr.out.mono ?_; rintro e w5 ⟨rfl, x5, S5, c5, _, hq5⟩; have Hf2 := hid (c5.free_no hq5); have C5 := hid c5; clear c5 hq5))
        refine HR.out _ _ ⟨rfl, ?_⟩
        have h1 : Below w.heap.size w v := by have := Hv.out; rw [this]; exact bl_alloc (Below.refl _ _) _
        exact bl_then (h1.trans (C5.out.below.mono (by have := Hvs.out; omega))) Hb6.out
end Go.Proofs.Ytbiaelaaihieeaa
