/- CacheApart: the walk. -/
import Derived.Test.YtbiaelaaihieeaaP7
import Derived.Test.YtbiaelaaihieeaaP5
set_option linter.unusedVariables false
set_option linter.unusedSimpArgs false
set_option maxRecDepth 100000
namespace Go.Proofs.Ytbiaelaaihieeaa
open Go.RowKit

def ApartRel (w : World) (B' g h : Nat) (key : ByteArray) (N : Nat) (gk : Nat) (v12 : Value) (wr : World) : Prop :=
  ∃ (i : Nat) (x : CL) (S : CS) (y : CL) (D : CS), i ≤ N ∧ gk = N - i ∧ v12 = .int .i64 i ∧ Pair w w.heap.size B' g h 3 i i x S y D wr ∧ ∃ ρ, SameAt ρ (sidx 3 key) S D
theorem Pair.more {w wr : World} {B B' g h n : Nat} {mc md mc' md' : Int} {x y : CL} {S D : CS} (p : Pair w B B' g h n mc md x S y D wr) (h1 : mc ≤ mc') (h2 : md ≤ md') (h3 : mc' < 8796093022208) (h4 : md' < 8796093022208) : Pair w B B' g h n mc' md' x S y D wr :=
  ⟨p.c.more h1 h3, p.d.more h2 h4, p.ap, p.sc, p.sd⟩
theorem same_fresh (room : Int) (i : Nat) : SameAt (fun b => b) i (CS.fresh room false) (CS.fresh room false) := by
  refine ⟨rfl, ?_, ?_, ?_, ?_, fun b hb => rfl, fun b hb => ?_, fun p hp => ?_⟩
  · simp [CS.fresh, Sh.nil]
  · simp [CS.fresh, Sh.nil]
  · simp [CS.fresh, Sh.nil]
  · intro b hb; simp [CS.fresh, Sh.nil] at hb
  · simp [CS.fresh, Sh.nil] at hb
  · simp [CS.fresh, Sh.nil] at hp
theorem pair_fresh {w w1 w2 : World} {x y : CL} {room : Int} (hr : 0 ≤ room ∧ room ≤ 18446744073709551615) (hx : x.n = 3) (hy : y.n = 3) (hC : CAt w.heap.size w1 x (CS.fresh room false)) (hb : Below w.heap.size w w1) (hD : CAt w1.heap.size w2 y (CS.fresh room false)) (hb2 : Below w1.heap.size w1 w2) :
    Pair w w.heap.size w1.heap.size x.g y.g 3 0 0 x (CS.fresh room false) y (CS.fresh room false) w2 :=
  ⟨(cw_fresh hx hr hC hb).later hb2, (cw_fresh hy hr hD hb2).old hb, fun k hk hk' => by have h1 := (hC.lt hk).2; have h2 := (hD.lt hk').1; omega, rfl, rfl⟩
set_option maxHeartbeats 6400000 in
theorem apart_ok (room : Int) (A : Option Addr) (N c : Nat) (l : List CActD) (key : ByteArray) (w : World) (hroom : 0 ≤ room ∧ room ≤ 18446744073709551615) (hk : key.size ≤ maxLen) (hr : Rd w w.heap.size 5 A N (cactsC l)) (hN : N ≤ 4398046511103)
    (hQ : ∀ a ∈ l, a.2.2.1.size ≤ maxLen ∧ (0 ≤ a.2.2.2.2 ∧ a.2.2.2.2 ≤ 18446744073709551615)) :
    Calls Try.prog 7 #[.int .u64 room, .slice A N c, .string key] w fun e w' => e = .returned (.bool true) ∧ Below w.heap.size w w' := by
  refine calls_of fun R HR => ?_
  have HQ := hid hQ; have Hr := hid hr; have HN := hid hN; have Hroom := hid hroom; have Hk := hid hk
  have Hsi := hid (sidx_lt (n := 3) (by decide) key)
  obtain ⟨i0, hi0⟩ : ∃ i0, i0 = sidx 3 key := ⟨_, rfl⟩
  have HI := hid hi0
  clear hQ hr hroom hk hi0
  go_enter Try.func7, Try.ntmps7
  go_wp2_with fail
  refine (cnew_any 3 room false _ (by decide) (by decide)).mono ?_
  rintro e w1 ⟨x, rfl, hxn, c1, hb1⟩
  go_wp2_with fail
  refine (cnew_any 3 room false _ (by decide) (by decide)).mono ?_
  rintro e w2 ⟨y, rfl, hyn, d1, hb2⟩
  have pr := pair_fresh Hroom.out hxn hyn c1 hb1 d1 hb2
  obtain ⟨g, hg⟩ : ∃ g, g = x.g := ⟨_, rfl⟩
  obtain ⟨h, hh⟩ : ∃ h, h = y.g := ⟨_, rfl⟩
  rw [← hg, ← hh] at pr ⊢
  have Pr := hid pr
  have Hsh := hid (pr.c.shard2 key Hk.out w2 (Below.refl _ _))
  rw [← HI.out] at Hsh
  obtain ⟨B', hB'⟩ : ∃ B', B' = w1.heap.size := ⟨_, rfl⟩
  rw [← hB'] at Pr
  clear c1 hb1 d1 hb2 hxn hyn hg hh pr hB'
  go_wp2_with (go_at_call 29; refine Hsh.out.mono ?_; rintro e w3 ⟨rfl, hb3⟩; have Pr3 := hid (Pr.out.later hb3); clear hb3)
  go_loopg [12, 13, 14, 15, 16, 17] N (fun gk v12 v13 v14 v15 v16 v17 wr => ApartRel w B' g h key N gk v12 wr)
  case atStart => exact ⟨0, x, _, y, _, Nat.zero_le _, rfl, rfl, Pr3.out, _, same_fresh room _⟩
  case round =>
    obtain ⟨i, x, S, y, D, hi, rfl, rfl, pr, ρ, same⟩ := hrel
    obtain ⟨wo, hwo⟩ : ∃ wo : World, wo = wr := ⟨_, rfl⟩
    subst hwo
    have P := hid pr
    have Sm := hid same
    have Hbo : Hid (Below w.heap.size w wo) := hid pr.c.below
    clear pr same Pr Pr3 Hsh
    by_cases hlt : i < N
    · obtain ⟨ab, o, hl, rfl, lab, k0, k1, k2, k3, k4⟩ := cact_at Hr.out Hbo.out hlt
      have hi0 : (0 : Int) ≤ (i : Int) := Int.natCast_nonneg _
      have hi1 : (i : Int) < (N : Int) := by omega
      have hq := HQ.out l[i] (List.getElem_mem hl)
      obtain ⟨a, ha⟩ : ∃ a, a = l[i] := ⟨_, rfl⟩
      rw [← ha] at k0 k1 k2 k3 k4 hq
      clear ha
      go_upto_region 10 with fail
      obtain ⟨wb, hwb⟩ : ∃ wb : World, wb = wo.alloc (.cells (actCells a) 60) := ⟨_, rfl⟩
      have hbw : Below wo.heap.size wo wb := by rw [hwb]; exact bl_alloc (Below.refl _ _) _
      have hba : blkOf wb wo.heap.size = some (.cells (actCells a) 60 (0, 0)) := by rw [hwb]; exact blk_new wo _
      have hwb0 : wo.heap.size < wb.heap.size := by rw [hwb, World.size_alloc]; omega
      show Code.wp _ _ _ _ (wo.alloc (.cells (actCells a) 60))
      rw [← hwb]
      have Hbw := hid hbw
      have He := hid (P.out.held _ hwb0 hba)
      clear k0 k1 k2 k3 k4 hwb hbw hwb0
      by_cases h0 : a.1 = 0
      · have e0 : (a.1 == 0) = true := by rw [beq_iff_eq]; exact h0
        clear h0
        have Hput := hid (P.out.put a.2.2.1 a.2.2.2.1 a.2.2.2.2 hq.1 hq.2 (by have := HN.out; omega) wb Hbw.out)
        simp only [actCells] at hba
        go_wp2_with fail
        refine Hput.out.mono ?_
        rintro e w3 (⟨hl, rfl, rfl⟩ | ⟨hl, S1, nb, rfl, hp, hnb, hlk, p3, hh⟩)
        · have Hs := hid (P.out.c.shard2 a.2.2.1 hq.1 w3 Hbw.out)
          have Hput2 := hid (P.out.symm.put a.2.2.1 a.2.2.2.1 a.2.2.2.2 hq.1 hq.2 (by have := HN.out; omega))
          obtain ⟨j, hj⟩ : ∃ j, j = sidx 3 a.2.2.1 := ⟨_, rfl⟩
          rw [← hj] at Hs
          have lt3 := He.out.lt
          clear hj Hput
          by_cases hji : j = i0
          · subst hji
            go_wp2_with (go_at_call 29; refine Hs.out.mono ?_; rintro e w4 ⟨rfl, hb4⟩; have e4 := (bl_at hb4 _ lt3).trans hba; have Hb4 := hid hb4; clear hb4)
            refine (Hput2.out _ (bl_then Hbw.out Hb4.out)).mono ?_
            rintro e w5 (⟨hl2, rfl, rfl⟩ | ⟨hl2, _⟩)
            · go_wp2_with fail
              go_roundg (N - (i + 1))
              case measure => omega
              case rel => exact ⟨i + 1, x, S, y, D, by omega, rfl, by go_num, (P.out.later (bl_then Hbw.out Hb4.out)).more (by push_cast; omega) (by push_cast; omega) (by have := HN.out; push_cast; omega) (by have := HN.out; push_cast; omega), ρ, Sm.out⟩
            · exact absurd hl (by omega)
          · have hji2 : ¬ ((j : Int) = (i0 : Int)) := by omega
            go_wp2_with (go_at_call 29; refine Hs.out.mono ?_; rintro e w4 ⟨rfl, hb4⟩; have Hb4 := hid hb4; clear hb4)
            go_roundg (N - (i + 1))
            case measure => omega
            case rel => exact ⟨i + 1, x, S, y, D, by omega, rfl, by go_num, (P.out.later (bl_then Hbw.out Hb4.out)).more (by push_cast; omega) (by push_cast; omega) (by have := HN.out; push_cast; omega) (by have := HN.out; push_cast; omega), ρ, Sm.out⟩
        · have it1 := hp.it_new
          have he3 := hh _ _ He.out
          have e3 := he3.blk
          have He3 := hid he3
          have P3 := hid p3
          have Hp := hid hp
          have Hnb := hid hnb
          have Hfr := hid (fun W hW => p3.free (key := a.2.2.1) hlk (by rw [it1]) (by rw [it1]) (by rw [it1]) W hW)
          simp only [actCells] at e3
          clear Hput hba p3 hh hp hnb hlk it1 he3
          cases hfr : (a.2.1.tmod 2 == 0) with
          | false =>
            have Act := hid (show ActR 3 false a.2.2.1 a.2.2.2.1 a.2.2.2.2 S S1 from ⟨S1, nb, Hp.out, Hnb.out, P3.out.c.ok, fun _ => rfl, fun h => by cases h⟩)
            have Hs := hid (P3.out.c.shard2 a.2.2.1 hq.1 w3 (Below.refl _ _))
            have Hput2 := hid (P3.out.symm.put a.2.2.1 a.2.2.2.1 a.2.2.2.2 hq.1 hq.2 (by have := HN.out; omega))
            obtain ⟨j, hj⟩ : ∃ j, j = sidx 3 a.2.2.1 := ⟨_, rfl⟩
            rw [← hj] at Hs
            have Hj := hid hj
            have lt3 := He3.out.lt
            clear hj Hfr
            by_cases hji : j = i0
            · subst hji
              go_wp2_with (go_at_call 29; refine Hs.out.mono ?_; rintro e w4 ⟨rfl, hb4⟩; have e4 := (bl_at hb4 _ lt3).trans e3; have Hb4 := hid hb4; clear hb4)
              refine (Hput2.out _ Hb4.out).mono ?_
              rintro e w5 (⟨hl2, rfl, rfl⟩ | ⟨hl2, D1, nb', rfl, hp', hnb', hlk', p5, hh5⟩)
              · exact absurd hl2 (by omega)
              · have e5 := (hh5 _ _ (He3.out.below Hb4.out).symm).blk
                simp only [actCells] at e5
                have P5 := hid p5.symm
                have Act2 := hid (show ActR 3 false a.2.2.1 a.2.2.2.1 a.2.2.2.2 D D1 from ⟨D1, nb', hp', hnb', p5.c.ok, fun _ => rfl, fun h => by cases h⟩)
                clear hp' hnb' hlk' p5 hh5
                go_wp2_with fail
                go_roundg (N - (i + 1))
                case measure => omega
                case rel =>
                  have hs := Sm.out
                  rw [← HI.out, Hj.out] at hs
                  have hb := Act.out.both Act2.out P.out.c.ok P.out.d.ok (by decide) hs
                  rw [← Hj.out, HI.out] at hb
                  exact ⟨i + 1, x, S1, y, D1, by omega, rfl, by go_num, P5.out.more (by push_cast; omega) (by push_cast; omega) (by have := HN.out; push_cast; omega) (by have := HN.out; push_cast; omega), hb⟩
            · have hji2 : ¬ ((j : Int) = (i0 : Int)) := by omega
              go_wp2_with (go_at_call 29; refine Hs.out.mono ?_; rintro e w4 ⟨rfl, hb4⟩; have Hb4 := hid hb4; clear hb4)
              go_roundg (N - (i + 1))
              case measure => omega
              case rel =>
                exact ⟨i + 1, x, S1, y, D, by omega, rfl, by go_num, (P3.out.later Hb4.out).more (by push_cast; omega) (by push_cast; omega) (by have := HN.out; push_cast; omega) (by have := HN.out; push_cast; omega), ρ, Act.out.far P.out.c.ok (by decide) Hsi.out (by rw [← Hj.out, ← HI.out]; exact hji) Sm.out⟩
          | true =>
            go_wp2_with fail
            refine (Hfr.out _ (Below.refl _ _)).mono ?_
            rintro e w4 ⟨rfl, x2, S2, hf, p4, hh4⟩
            have he4 := hh4 _ _ He3.out
            have e4 := he4.blk
            simp only [actCells] at e4
            have He4 := hid he4
            have P4 := hid p4
            have Act := hid (show ActR 3 true a.2.2.1 a.2.2.2.1 a.2.2.2.2 S S2 from ⟨S1, nb, Hp.out, Hnb.out, P3.out.c.ok, fun h => by (cases h), fun _ => ⟨_, hf⟩⟩)
            have Hs := hid (P4.out.c.shard2 a.2.2.1 hq.1 w4 (Below.refl _ _))
            have Hput2 := hid (P4.out.symm.put a.2.2.1 a.2.2.2.1 a.2.2.2.2 hq.1 hq.2 (by have := HN.out; omega))
            obtain ⟨j, hj⟩ : ∃ j, j = sidx 3 a.2.2.1 := ⟨_, rfl⟩
            rw [← hj] at Hs
            have Hj := hid hj
            have lt3 := He4.out.lt
            clear hj Hfr e3 hf p4 hh4 he4
            by_cases hji : j = i0
            · subst hji
              go_wp2_with (go_at_call 29; refine Hs.out.mono ?_; rintro e w5 ⟨rfl, hb5⟩; have e5 := (bl_at hb5 _ lt3).trans e4; have Hb5 := hid hb5; clear hb5)
              refine (Hput2.out _ Hb5.out).mono ?_
              rintro e w6 (⟨hl2, rfl, rfl⟩ | ⟨hl2, D1, nb', rfl, hp', hnb', hlk', p6, hh6⟩)
              · exact absurd hl2 (by omega)
              · have it2 := hp'.it_new
                have he6 := hh6 _ _ (He4.out.below Hb5.out).symm
                have e6 := he6.blk
                simp only [actCells] at e6
                have Hfr2 := hid (p6.free (key := a.2.2.1) hlk' (by rw [it2]) (by rw [it2]) (by rw [it2]) w6 (Below.refl _ _))
                have P6 := hid p6
                have Hp2 := hid hp'
                have Hnb2 := hid hnb'
                have He6 := hid he6
                clear hp' hnb' hlk' p6 hh6 it2 he6 e4 e5
                go_wp2_with fail
                refine Hfr2.out.mono ?_
                rintro e w7 ⟨rfl, y2, D2, hf2, p7, hh7⟩
                have P7 := hid p7.symm
                have Act2 := hid (show ActR 3 true a.2.2.1 a.2.2.2.1 a.2.2.2.2 D D2 from ⟨D1, nb', Hp2.out, Hnb2.out, P6.out.c.ok, fun h => by (cases h), fun _ => ⟨_, hf2⟩⟩)
                clear hf2 p7 hh7 e6
                go_wp2_with fail
                go_roundg (N - (i + 1))
                case measure => omega
                case rel =>
                  have hs := Sm.out
                  rw [← HI.out, Hj.out] at hs
                  have hb := Act.out.both Act2.out P.out.c.ok P.out.d.ok (by decide) hs
                  rw [← Hj.out, HI.out] at hb
                  exact ⟨i + 1, x2, S2, y2, D2, by omega, rfl, by go_num, P7.out.more (by push_cast; omega) (by push_cast; omega) (by have := HN.out; push_cast; omega) (by have := HN.out; push_cast; omega), hb⟩
            · have hji2 : ¬ ((j : Int) = (i0 : Int)) := by omega
              go_wp2_with (go_at_call 29; refine Hs.out.mono ?_; rintro e w5 ⟨rfl, hb5⟩; have Hb5 := hid hb5; clear hb5)
              go_roundg (N - (i + 1))
              case measure => omega
              case rel =>
                exact ⟨i + 1, x2, S2, y, D, by omega, rfl, by go_num, (P4.out.later Hb5.out).more (by push_cast; omega) (by push_cast; omega) (by have := HN.out; push_cast; omega) (by have := HN.out; push_cast; omega), ρ, Act.out.far P.out.c.ok (by decide) Hsi.out (by rw [← Hj.out, ← HI.out]; exact hji) Sm.out⟩
      · have e0 : (a.1 == 0) = false := by rw [beq_eq_false_iff_ne]; exact h0
        clear h0
        simp only [actCells] at hba
        go_wp2_with fail
        go_roundg (N - (i + 1))
        case measure => omega
        case rel =>
          have p2 := P.out.later Hbw.out
          exact ⟨i + 1, x, S, y, D, by omega, rfl, by go_num, ⟨p2.c.more (by omega) (by have := HN.out; omega), p2.d.more (by omega) (by have := HN.out; omega), p2.ap, p2.sc, p2.sd⟩, ρ, Sm.out⟩
    · obtain rfl : i = N := by omega
      have sm := Sm.out
      rw [← HI.out] at sm
      have hi3 : i0 < 3 := by rw [HI.out]; exact Hsi.out
      have hkc := P.out.c.keys2 hi3 (by have := HN.out; omega)
      have hkd := P.out.d.keys2 hi3 (by have := HN.out; omega)
      have hKl : (S.keys i0).length ≤ 9223372036854775807 := by
        have h1 := wt_len P.out.c.ok hi3
        have h2 := P.out.c.last
        have h3 := HN.out
        rw [keys_length]; omega
      rw [sm.keys] at hkd
      obtain ⟨K, hK⟩ : ∃ K, K = S.keys i0 := ⟨_, rfl⟩
      rw [← hK] at hkc hkd hKl
      have Hkc := hid (hkc wo (Below.refl _ _))
      have Hkd := hid hkd
      clear hkc hkd hK sm hi3
      go_wp2_with (first
        | (go_at_call 30; refine (Hkd.out _ Hb5.out).mono ?_; rintro e w6 ⟨A6, c6, rfl, rd6, hb6⟩; have Rd6 := hid rd6; have Hb6 := hid hb6; clear rd6 hb6)
        | (go_at_call 30; refine Hkc.out.mono ?_; rintro e w5 ⟨A5, c5, rfl, rd5, hb5⟩; have Rd5 := hid rd5; have Hb5 := hid hb5; clear rd5 hb5))
      go_loopg [20] K.length (fun gk v20 wr => ∃ j, j ≤ K.length ∧ gk = K.length - j ∧ v20 = .int .i64 j ∧ Below w6.heap.size w6 wr)
      case atStart => exact ⟨0, Nat.zero_le _, rfl, rfl, Below.refl _ _⟩
      case round =>
        obtain ⟨j, hj, rfl, rfl, hb7⟩ := hrel
        obtain ⟨wv, hwv⟩ : ∃ wv : World, wv = wr := ⟨_, rfl⟩
        subst hwv
        have Hb7 := hid hb7
        clear hb7
        by_cases hlt : j < K.length
        · obtain ⟨b5, o5, hl5, rfl, lb5, k5⟩ := key_at Rd5.out (bl_then Hb6.out Hb7.out) hlt
          obtain ⟨b6, o6, hl6, rfl, lb6, k6⟩ := key_at Rd6.out Hb7.out hlt
          have hj0 : (0 : Int) ≤ (j : Int) := Int.natCast_nonneg _
          have hj1 : (j : Int) < (K.length : Int) := by omega
          obtain ⟨kj, hkj⟩ : ∃ kj, kj = K[j] := ⟨_, rfl⟩
          rw [← hkj] at k5 k6
          clear hkj
          go_wp2
          go_quiet (fail)
          go_wp2
          go_roundg (K.length - (j + 1))
          case measure => omega
          case rel => exact ⟨j + 1, by omega, rfl, by go_num, bl_drewN Hb7.out _⟩
        · obtain rfl : j = K.length := by omega
          have sm := Sm.out
          obtain ⟨hv, hs⟩ := sm.val key
          have hgc := P.out.c.get2 key Hk.out wv (bl_then Hb5.out (bl_then Hb6.out Hb7.out))
          have hgd := fun (W : World) (hc : Chg (x.F S) wo W) => (P.out.d.other hc (fun k hk hk' => P.out.ap k hk' hk) (fun k hk => Nat.le_trans P.out.c.base (P.out.c.at_.lt hk).1)).get2 key Hk.out W (Below.refl _ _)
          rw [hv, hs] at hgd
          obtain ⟨z, hz⟩ : ∃ z, z = S.val (sidx 3 key) key := ⟨_, rfl⟩
          obtain ⟨bb, hbb⟩ : ∃ bb, bb = (look (S.sh (sidx 3 key)).inm key).isSome := ⟨_, rfl⟩
          rw [← hz, ← hbb] at hgc hgd
          have Hgc := hid hgc
          have Hgd := hid hgd
          clear hgc hgd hv hs hz hbb sm
          go_wp2_with (first
            | (go_at_call 24; refine (Str.clives_any _).mono ?_; rintro e w10 ⟨rfl, hb10⟩; have Hb10 := hid hb10; clear hb10)
            | (go_at_call 31; refine (Hgd.out _ Hc8.out).mono ?_; rintro e w9 ⟨⟨a9, rfl⟩, _, hb9⟩; have Hb9 := hid hb9; clear hb9)
            | (go_at_call 31; refine Hgc.out.mono ?_; rintro e w8 ⟨⟨a8, rfl⟩, hc8, _⟩; have Hc8 := hid hc8; clear hc8))
          exact HR.out _ _ ⟨rfl, bl_then Hb9.out Hb10.out⟩
end Go.Proofs.Ytbiaelaaihieeaa
