/- The program's limiter: drop. -/
import Derived.Test.YtbiaelaaihieeaaD2
set_option linter.unusedVariables false
set_option linter.unusedSimpArgs false
set_option maxRecDepth 100000
namespace Go.Proofs.Ytbiaelaaihieeaa
open Go.RowKit

theorem clone_at {w : World} {base c : Nat} {A : Option Addr} {l : List Ask} (h : w.ownsRow base 87 3 (.slice A l.length c) l.length (asks l)) (hn : l.length ≤ 4096) (W : World) (hW : Below w.heap.size w W) :
    Calls Try.prog 46 #[.slice A l.length c] W fun e w' => ∃ A' c', e = .returned (.slice A' l.length c') ∧ w'.ownsRow W.heap.size 87 3 (.slice A' l.length c') l.length (asks l) ∧ Below W.heap.size W w' :=
  clone_ask A l.length c (asks l) W ((Rd.of_own h).later hW) (asks_one l) hn

/-- The limiter of which the first k lists are done. -/
def Lim.part (L : Lim) (who : Int) (k : Nat) : Lim := { L with us := if k = 0 then L.us else keep who L.us, os := if k ≤ 1 then L.os else keep who L.os }
def Lim.gone (L : Lim) (who : Int) (k : Nat) : Int := (if k = 0 then 0 else (L.us.length : Int) - (keep who L.us).length) + (if k ≤ 1 then 0 else (L.os.length : Int) - (keep who L.os).length)
theorem one_ne : ((1 : Nat) = 0) = False := by simp
structure DropInv (w : World) (B g : Nat) (L : Lim) (who : Int) (k : Nat) (wr : World) : Prop where
  lim : PAt B wr g (L.part who k)
  wb : blkOf wr w.heap.size = some (.cells #[.int .i64 who] 3 (0, 0))
  cnt : blkOf wr (w.heap.size + 1) = some (.cells #[.int .i64 (L.gone who k)] 3 (0, 0))
  chg : Chg (fun i => i = g) w wr
def DropRel (w : World) (B g : Nat) (L : Lim) (who : Int) (gk : Nat) (v7 : Value) (wr : World) : Prop :=
  ∃ (k : Nat) (z : Int), k ≤ 2 ∧ gk = 2 - k ∧ z = k ∧ v7 = .int .i64 z ∧ DropInv w B g L who k wr
theorem delete_at {w : World} {g p q : Nat} {who n : Int} {l : List Ask} (hp : blkOf w p = some (.cells #[.int .i64 who] 3 (0, 0))) (hq : blkOf w q = some (.cells #[.int .i64 n] 3 (0, 0))) (hpq : p ≠ q) (h0 : 0 ≤ n) (h1 : n < 50000)
    (hn : l.length ≤ 4096) (lg : g < w.heap.size) (hgq : g ≠ q) (A : Option Addr) (c : Nat) (W : World) (hW : Below w.heap.size w W) (hr : W.ownsRow w.heap.size 87 3 (.slice A l.length c) l.length (asks l)) :
    Calls Try.prog 45 #[.slice A l.length c, .func (.func 47) #[] #[.pointer (some ⟨p, 0, none⟩), .pointer (some ⟨q, 0, none⟩)]] W fun e w' => ∃ A' c', e = .returned (.slice A' (keep who l).length c') ∧
      w'.ownsRow w.heap.size 87 3 (.slice A' (keep who l).length c') (keep who l).length (asks (keep who l)) ∧ blkOf w' q = some (.cells #[.int .i64 (n + (l.length - (keep who l).length))] 3 (0, 0)) ∧
      Chg (fun k => k = q) w w' ∧ blkOf w' g = blkOf w g ∧ g < w'.heap.size := by
  refine (delete_any A c l p q w.heap.size who n W hr ((bl_at hW p (Blk.lt hp)).trans hp) ((bl_at hW q (Blk.lt hq)).trans hq) hpq h0 h1 hn).mono ?_
  rintro e w' ⟨A', c', h1, h2, h3, h4⟩
  have hc : Chg (fun k => k = q) w w' := Chg.trans (F := fun _ => False) (Chg.of_below hW) h4 (fun _ _ h => h.elim) (fun i hi h => by
    rcases h with h | h
    · exact h
    · have := (hr.lt i h).1; omega)
  exact ⟨A', c', h1, h2, h3, hc, hc.block g lg hgq, Nat.lt_of_lt_of_le lg hc.size⟩
theorem ne_back {w W : World} {base base' : Nat} {e e' : TypeId} {size n size' n' : Nat} {v v' : Value} {xs xs' : List Value} (h : w.ownsRow base e size v n xs) (h' : W.ownsRow base' e' size' v' n' xs') (hb : w.heap.size ≤ base') :
    v.ownBlock = none ∨ v.ownBlock ≠ v'.ownBlock := by
  rcases own_new_ne h h' hb with e | e
  · cases hv : v.ownBlock with
    | none => exact .inl rfl
    | some k => exact .inr (by rw [e]; simp)
  · exact .inr (Ne.symm e)
theorem drop_put0 {B : Nat} {w wo w3 : World} {g : Nat} {L : Lim} {who : Int} {A0 : Option Addr} {c0 : Nat} {A1 : Option Addr} {c1 : Nat} {A3 : Option Addr} {c3 : Nat} (inv : DropInv w B g L who 0 wo) (hp : PLim B wo g (L.part who 0) A0 c0 A1 c1) (hB : B ≤ w.heap.size) (hg : g < w.heap.size)
    (hown3 : w3.ownsRow wo.heap.size 87 3 (.slice A3 (keep who L.us).length c3) (keep who L.us).length (asks (keep who L.us))) (hq3 : blkOf w3 (w.heap.size + 1) = some (.cells #[.int .i64 (0 + (L.us.length - (keep who L.us).length))] 3 (0, 0))) (hc3 : Chg (fun k => k = w.heap.size + 1) wo w3) :
    DropInv w B g L who 1 (w3.setCell ⟨g, 3, none⟩ (.slice A3 (keep who L.us).length c3)) := by
  have lgo : g < wo.heap.size := Nat.lt_of_lt_of_le hg inv.chg.size
  have hbg : blkOf w3 g = _ := (hc3.block g lgo (Nat.ne_of_lt (by omega))).trans hp.blk
  have ng : (Value.slice A3 (keep who L.us).length c3).ownBlock ≠ some g := fun e => by have := (hown3.lt g e).1; omega
  have n1 := own_ne_cells hp.own1 hp.blk (by decide)
  have hs := inv.chg.size
  refine ⟨⟨A3, c3, A1, c1, ?_, ?_, ?_, ?_, hp.base⟩, ?_, ?_, ?_⟩
  · rw [blk_set_same, hbg]; simp [objSet, Lim.part]
  · exact own_set (own_base hown3 (Nat.le_trans hB hs)) ng _
  · exact own_set (own_chg hp.own1 hc3 (fun k hk e => own_ne_cells hp.own1 inv.cnt (by decide) (by rw [hk, e]))) n1 _
  · exact own_new_ne hp.own1 hown3 (Nat.le_refl _)
  · rw [blk_set_ne' _ _ _ _ _ (by omega)]
    exact (hc3.block _ (Blk.lt inv.wb) (Nat.ne_of_lt (by omega))).trans inv.wb
  · rw [blk_set_ne' _ _ _ _ _ (by omega), hq3]
    simp [Lim.gone]
  · refine Chg.setCell (F := fun i => i = g) (inv.chg.trans hc3 (fun _ _ h => h) (fun i hi h => by omega)) (fun _ => rfl) _
theorem drop_put1 {B : Nat} {w wo w3 : World} {g : Nat} {L : Lim} {who : Int} {A0 : Option Addr} {c0 : Nat} {A1 : Option Addr} {c1 : Nat} {A3 : Option Addr} {c3 : Nat} {z : Int} (inv : DropInv w B g L who 1 wo) (hp : PLim B wo g (L.part who 1) A0 c0 A1 c1) (hB : B ≤ w.heap.size) (hg : g < w.heap.size)
    (hown3 : w3.ownsRow wo.heap.size 87 3 (.slice A3 (keep who L.os).length c3) (keep who L.os).length (asks (keep who L.os))) (hz : z = L.gone who 1) (hq3 : blkOf w3 (w.heap.size + 1) = some (.cells #[.int .i64 (z + (L.os.length - (keep who L.os).length))] 3 (0, 0))) (hc3 : Chg (fun k => k = w.heap.size + 1) wo w3) :
    DropInv w B g L who 2 (w3.setCell ⟨g, 4, none⟩ (.slice A3 (keep who L.os).length c3)) := by
  have lgo : g < wo.heap.size := Nat.lt_of_lt_of_le hg inv.chg.size
  have hbg : blkOf w3 g = _ := (hc3.block g lgo (Nat.ne_of_lt (by omega))).trans hp.blk
  have ng : (Value.slice A3 (keep who L.os).length c3).ownBlock ≠ some g := fun e => by have := (hown3.lt g e).1; omega
  have n1 := own_ne_cells hp.own0 hp.blk (by decide)
  have hs := inv.chg.size
  refine ⟨⟨A0, c0, A3, c3, ?_, ?_, ?_, ?_, hp.base⟩, ?_, ?_, ?_⟩
  · rw [blk_set_same, hbg]; simp [objSet, Lim.part]
  · exact own_set (own_chg hp.own0 hc3 (fun k hk e => own_ne_cells hp.own0 inv.cnt (by decide) (by rw [hk, e]))) n1 _
  · exact own_set (own_base hown3 (Nat.le_trans hB hs)) ng _
  · exact ne_back hp.own0 hown3 (Nat.le_refl _)
  · rw [blk_set_ne' _ _ _ _ _ (by omega)]
    exact (hc3.block _ (Blk.lt inv.wb) (Nat.ne_of_lt (by omega))).trans inv.wb
  · rw [blk_set_ne' _ _ _ _ _ (by omega), hq3, hz]
    simp [Lim.gone]
  · refine Chg.setCell (F := fun i => i = g) (inv.chg.trans hc3 (fun _ _ h => h) (fun i hi h => by omega)) (fun _ => rfl) _

set_option maxHeartbeats 1600000 in
theorem drop_any {B : Nat} (g : Nat) (L : Lim) (w : World) (who : Int) (ok : L.Ok) (hB : B ≤ w.heap.size) (hp : PAt B w g L) :
    Calls Try.prog 19 #[.pointer (some ⟨g, 0, none⟩), .int .i64 who] w fun e w' => e = .returned (.int .i64 (L.many who)) ∧ PAt B w' g (L.dropped who) ∧ Chg (fun k => k = g) w w' := by
  refine calls_of fun R HR => ?_
  have hm := ok.many
  have Hp := hid hp
  have lgq : g < w.heap.size + 1 := by obtain ⟨A0, c0, A1, c1, h⟩ := hp; have := Blk.lt h.blk; omega
  have lg : g < w.heap.size := by obtain ⟨A0, c0, A1, c1, h⟩ := hp; exact Blk.lt h.blk
  clear hp ok
  have hk1 := keep_le who L.us
  have hk2 := keep_le who L.os
  go_enter Try.func19, Try.ntmps19
  go_wp2
  go_loopg [6, 7] 2 (fun gk v6 v7 wr => DropRel w B g L who gk v7 wr)
  case atStart =>
    refine ⟨0, 0, by omega, rfl, rfl, rfl, ?_, ?_, ?_, ?_⟩
    · exact Hp.out.below (bl_alloc (bl_alloc (Below.refl _ _) _) _)
    · simp [go_sem]
    · simp [go_sem, Lim.gone]
    · exact ((Chg.refl _ _).alloc _).alloc _
  case round =>
    obtain ⟨k, z, hk, rfl, hz, rfl, inv⟩ := hrel
    obtain ⟨wo, hwo⟩ : ∃ wo : World, wo = wr := ⟨_, rfl⟩
    subst hwo
    have Inv := hid inv
    have lgo : g < wo.heap.size := Nat.lt_of_lt_of_le lg inv.chg.size
    have lq := Blk.lt inv.cnt
    have hqn := inv.cnt
    have hpn := inv.wb
    rcases (show k = 0 ∨ k = 1 ∨ k = 2 by omega) with rfl | rfl | rfl
    · obtain rfl : z = 0 := by omega
      obtain ⟨A0, c0, A1, c1, hp⟩ := inv.lim
      have hb := hp.blk
      simp only [Lim.part, if_true, Nat.le_refl, Nat.zero_le] at hb
      have Hc := hid (clone_at hp.own0 (by simp only [Lim.part, if_true]; omega))
      simp only [Lim.part, if_true, Nat.zero_le] at Hc
      have Hp0 := hid hp
      have hqn0 : blkOf wo (w.heap.size + 1) = some (.cells #[.int .i64 0] 3 (0, 0)) := by simpa [Lim.gone] using hqn
      have Hd := hid (delete_at (g := g) (l := L.us) hpn hqn0 (by omega) (by omega) (by omega) (by omega) lgo (by omega))
      clear inv hp hz hqn hqn0 hpn
      go_wp2
      go_region_with
        ((first
          | (go_at_call 45; have q := Hq.out; refine (Hd.out A2 c2 w2 q Hown2.out).mono ?_; rintro e w3 ⟨A3, c3, rfl, hown3, hq3, hc3, e3, lg3⟩; have Hown3 := hid hown3; have Hq3 := hid hq3; have Hc3 := hid hc3; clear q hown3 hq3 hc3)
          | (go_at_call 46; refine (Hc.out _ ?_).mono ?_; (repeat (first | exact Below.refl _ _ | apply Below.drew | apply bl_drewN)); rintro e w2 ⟨A2, c2, rfl, hown2, hb2⟩; have hb2' : Below wo.heap.size wo w2 := bl_then (by (repeat (first | exact Below.refl _ _ | apply Below.drew | apply bl_drewN))) hb2; have Hown2 : Hid (w2.ownsRow wo.heap.size 87 3 (.slice A2 L.us.length c2) L.us.length (asks L.us)) := hid hown2; have Hq := hid hb2'; clear hown2 hb2 hb2')))
      all_goals
        go_wp2
        go_roundg (2 - 1)
        case measure => omega
        case rel => exact ⟨1, 1, by omega, rfl, rfl, rfl, drop_put0 Inv.out Hp0.out hB lg Hown3.out Hq3.out Hc3.out⟩
    · obtain rfl : z = 1 := by omega
      obtain ⟨A0, c0, A1, c1, hp⟩ := inv.lim
      have hb := hp.blk
      simp only [Lim.part, if_true, Nat.le_refl, one_ne] at hb
      have Hc := hid (clone_at hp.own1 (by simp only [Lim.part, if_true, Nat.le_refl]; omega))
      simp only [Lim.part, if_true, Nat.le_refl] at Hc
      have Hp0 := hid hp
      obtain ⟨y, hy⟩ : ∃ y, y = L.gone who 1 := ⟨_, rfl⟩
      have hy2 : 0 ≤ y ∧ y ≤ 4096 := by rw [hy]; simp [Lim.gone]; omega
      have hqn0 : blkOf wo (w.heap.size + 1) = some (.cells #[.int .i64 y] 3 (0, 0)) := by rw [hy]; exact hqn
      have Hy := hid hy
      have Hd := hid (delete_at (g := g) (l := L.os) hpn hqn0 (by omega) (by omega) (by omega) (by omega) lgo (by omega))
      clear inv hp hz hqn hqn0 hpn hy
      go_wp2
      go_region_with
        ((first
          | (go_at_call 45; have q := Hq.out; refine (Hd.out A2 c2 w2 q Hown2.out).mono ?_; rintro e w3 ⟨A3, c3, rfl, hown3, hq3, hc3, e3, lg3⟩; have Hown3 := hid hown3; have Hq3 := hid hq3; have Hc3 := hid hc3; clear q hown3 hq3 hc3)
          | (go_at_call 46; refine (Hc.out _ ?_).mono ?_; (repeat (first | exact Below.refl _ _ | apply Below.drew | apply bl_drewN)); rintro e w2 ⟨A2, c2, rfl, hown2, hb2⟩; have hb2' : Below wo.heap.size wo w2 := bl_then (by (repeat (first | exact Below.refl _ _ | apply Below.drew | apply bl_drewN))) hb2; have Hown2 : Hid (w2.ownsRow wo.heap.size 87 3 (.slice A2 L.os.length c2) L.os.length (asks L.os)) := hid hown2; have Hq := hid hb2'; clear hown2 hb2 hb2')))
      all_goals
        go_wp2
        go_roundg (2 - 2)
        case measure => omega
        case rel => exact ⟨2, 2, by omega, rfl, rfl, rfl, drop_put1 Inv.out Hp0.out hB lg Hown3.out Hy.out Hq3.out Hc3.out⟩
    · obtain rfl : z = 2 := by omega
      have hgo : L.gone who 2 = L.many who := by simp [Lim.gone, Lim.many]; omega
      rw [hgo] at hqn
      clear inv hz hpn hgo
      go_wp2
      exact HR.out _ _ ⟨rfl, Inv.out.lim, Inv.out.chg⟩
end Go.Proofs.Ytbiaelaaihieeaa
