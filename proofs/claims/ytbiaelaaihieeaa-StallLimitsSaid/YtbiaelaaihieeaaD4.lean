/- StallLimits: what holds ahead of each act. -/
import Derived.Test.YtbiaelaaihieeaaD3
import Derived.Test.YtbiaelaaihieeaaX
import Derived.Test.YtbiaelaaihieeaaTu
set_option linter.unusedVariables false
set_option linter.unusedSimpArgs false
set_option maxRecDepth 100000
namespace Go.Proofs.Ytbiaelaaihieeaa
open Go.RowKit

theorem act_all {w : World} {A : Option Addr} {n : Nat} {l : List ActD} (h : Rd w w.heap.size 4 A n (actsC l)) {w' : World} (hb : Below w.heap.size w w') {i : Nat} (hi : i < n) :
    ∃ b o, ∃ hl : i < l.length, A = some ⟨b, o, none⟩ ∧ b < w.heap.size ∧ (blkOf w' b).bind (cellAt (o + i * 4)) = some (.int .i64 l[i].1) ∧ (blkOf w' b).bind (cellAt (o + i * 4 + 1)) = some (.int .i64 l[i].2.1) ∧
      (blkOf w' b).bind (cellAt (o + i * 4 + 2)) = some (.int .u64 l[i].2.2.1) ∧ (blkOf w' b).bind (cellAt (o + i * 4 + 3)) = some (.bool l[i].2.2.2) := by
  have hl : i < l.length := by have := h.1; rw [actsC_length] at this; omega
  obtain ⟨b, o, rfl, hlt, hc⟩ := (h.below hb).2 (by omega)
  have h0 := hc (i * 4 + 0) _ ((actsC_at l i hl 0 (by omega)).trans rfl)
  have h1 := hc (i * 4 + 1) _ ((actsC_at l i hl 1 (by omega)).trans rfl)
  have h2 := hc (i * 4 + 2) _ ((actsC_at l i hl 2 (by omega)).trans rfl)
  have h3 := hc (i * 4 + 3) _ ((actsC_at l i hl 3 (by omega)).trans rfl)
  exact ⟨b, o, hl, rfl, hlt, cell_at h0, cell_at h1, cell_at h2, cell_at h3⟩
theorem limF_ty {B : Nat} {w : World} {k : Nat} {cs : Array Value} {t : TypeId} {fr : Nat × Nat} (hk : blkOf w k = some (.cells cs t fr)) (ht : t ≠ 84 ∧ t ≠ 87) : ¬ LimF B w k := by
  rintro ⟨_, cs', t', fr', h, ht'⟩
  rw [hk] at h
  injection h with h
  injection h with _ e _
  subst e
  rcases ht' with e | e
  · exact ht.1 e
  · exact ht.2 e
theorem RAt.lim {B : Nat} {w w2 : World} {g : Nat} {L : Lim} (h : RAt w g L) (hc : Chg (LimF B w) w w2) : RAt w2 g L := h.chg hc (fun k cs t fr hk ht => limF_ty hk (by rcases ht with rfl | rfl <;> decide))
theorem RAt.eqv {W w : World} {g : Nat} {L : Lim} (h : RAt w g L) (e : Eqv W w) : RAt W g L := by
  obtain ⟨A0, c0, A1, c1, h⟩ := h
  exact ⟨A0, c0, A1, c1, h.eqv e⟩
theorem RAt.blk {w : World} {g : Nat} {L : Lim} (h : RAt w g L) : ∃ cs, blkOf w g = some (.cells cs 51 (0, 0)) := by
  obtain ⟨A0, c0, A1, c1, h⟩ := h
  exact ⟨_, h.blk⟩
theorem RAt.left {w : World} {g : Nat} {L : Lim} (h : RAt w g L) : (blkOf w g).bind (cellAt 2) = some (.int .u64 L.left) := by
  obtain ⟨A0, c0, A1, c1, h⟩ := h
  rw [h.blk]; rfl
theorem PAt.rat {B : Nat} {w w2 : World} {gp gd : Nat} {L L2 : Lim} (hp : PAt B w gp L) (h : RAt w gd L2) (hc : Chg (fun k => k = gd) w w2) : PAt B w2 gp L := by
  obtain ⟨cs, hb⟩ := h.blk
  exact hp.later hc (fun k hk e => limF_ty hb (by decide) (by rw [← e]; exact hk))

structure LInv (w : World) (gp gd : Nat) (L : Lim) (wr : World) : Prop where
  pl : PAt w.heap.size wr gp L
  rl : RAt wr gd L
  ok : L.Ok
  so : L.Sorts
  base : w.heap.size ≤ gd
  below : Below w.heap.size w wr
section
variable {w wr wo w2 w3 : World} {gp gd : Nat} {L L2 : Lim}
theorem LInv.step (inv : LInv w gp gd L wo) (p2 : PAt w.heap.size w2 gp L2) (hc2 : Chg (LimF w.heap.size wo) wo w2) (r3 : RAt w3 gd L2) (hc3 : Chg (fun k => k = gd) w2 w3) (ok2 : L2.Ok) (so2 : L2.Sorts) : LInv w gp gd L2 w3 := by
  have hb := inv.base
  have h2 := inv.below.trans (hc2.to_below inv.below.size (fun k hk h => by have := h.1; omega))
  exact ⟨p2.rat (inv.rl.lim hc2) hc3, r3, ok2, so2, inv.base, h2.trans (hc3.to_below h2.size (fun k hk h => by omega))⟩
theorem LInv.later (inv : LInv w gp gd L wr) (hb : Below wr.heap.size wr w2) : LInv w gp gd L w2 := ⟨inv.pl.below hb, inv.rl.below hb, inv.ok, inv.so, inv.base, inv.below.trans (hb.mono inv.below.size)⟩
theorem LInv.drewN (inv : LInv w gp gd L wr) (n : Nat) : LInv w gp gd L (wr.drewN n) := inv.later (bl_drewN (Below.refl _ _) n)
theorem LInv.row (inv : LInv w gp gd L wr) {base n : Nat} {v : Value} {xs : List Value} (h : wr.ownsRow base 3 1 v n xs) (hb : w.heap.size ≤ base) (hc : Chg (fun k => v.ownBlock = some k) wr w2) : LInv w gp gd L w2 :=
  ⟨inv.pl.later hc (fun k hk e => limF_row h (by decide) (by decide) e hk), inv.rl.chg hc (fun k cs t fr hk ht e => own_ne_cells h hk (by rcases ht with rfl | rfl <;> decide) e), inv.ok, inv.so, inv.base,
    inv.below.trans (hc.to_below inv.below.size (fun k hk e => by have := (h.lt k e).1; omega))⟩
theorem LInv.ask_p (inv : LInv w gp gd L wo) (who b : Int) (u : Bool) {z : Int} (hz : z = if L.fits b = true then 0 else 2) (W : World) (hW : Eqv W wo) :
    Calls Try.prog 12 #[.pointer (some ⟨gp, 0, none⟩), .int .i64 who, .int .u64 b, .bool u] W fun e w' => e = .returned (.int .i64 z) ∧ PAt w.heap.size w' gp (L.asked who b u) ∧ Chg (LimF w.heap.size wo) wo w' := by
  subst hz; exact ask_at inv.pl inv.ok who b u W hW
theorem LInv.ask_d (inv : LInv w gp gd L wo) (hc : Chg (LimF w.heap.size wo) wo w2) (who b : Int) (u : Bool) {z : Int} (hz : z = if L.fits b = true then 0 else 2) (W : World) (hW : Eqv W w2) :
    Calls Try.prog 16 #[.pointer (some ⟨gd, 0, none⟩), .int .i64 who, .int .u64 b, .bool u] W fun e w' => e = .returned (.int .i64 z) ∧ RAt w' gd (L.asked who b u) ∧ Chg (fun k => k = gd) w2 w' := by
  subst hz; exact (rask_at ((inv.rl.lim hc).eqv hW) inv.ok who b u).mono fun _ _ ⟨h1, h2, h3⟩ => ⟨h1, h2, hW.chg h3⟩
theorem Lim.many_len {L : Lim} (ok : L.Ok) : L.step.1.length ≤ 4096 ∧ L.waiting.length ≤ 4096 := by
  refine ⟨?_, ?_⟩
  · obtain ⟨gs, e1, e2⟩ := step_run L
    have h1 := e2.perm.length_eq
    have h2 := ok.many
    simp only [Lim.queue, List.length_append, Lim.fill] at h1
    rw [e1]; simp; omega
  · rw [waiting_length ok]; simp only [Lim.queue, List.length_append]; exact ok.many
theorem LInv.step_d (inv : LInv w gp gd L wo) (hc : Chg (LimF w.heap.size wo) wo w2) (W : World) (hW : Eqv W w2) :
    Calls Try.prog 18 #[.pointer (some ⟨gd, 0, none⟩)] W fun e w' => ∃ A c, e = .returned (.slice A L.step.1.length c) ∧
      w'.ownsRow w2.heap.size 3 1 (.slice A L.step.1.length c) L.step.1.length (ints L.step.1) ∧ RAt w' gd L.step.2 ∧ Chg (fun k => k = gd) w2 w' ∧ L.step.2.Ok ∧ L.step.2.Sorts := by
  have e : W.heap.size = w2.heap.size := by rw [hW.1]
  rw [← e]
  exact (rstep_any gd L W inv.ok inv.so ((inv.rl.lim hc).eqv hW)).mono fun _ _ ⟨A, c, h1, h2, h3, h4, h5, h6⟩ => ⟨A, c, h1, h2, h3, hW.chg h4, h5, h6⟩
theorem LInv.wait_d (inv : LInv w gp gd L w2) (W : World) (hW : Eqv W w2) :
    Calls Try.prog 21 #[.pointer (some ⟨gd, 0, none⟩)] W fun e w' => ∃ A c, e = .returned (.slice A L.waiting.length c) ∧
      w'.ownsRow w2.heap.size 3 1 (.slice A L.waiting.length c) L.waiting.length (ints L.waiting) ∧ Below w2.heap.size w2 w' := by
  have e : W.heap.size = w2.heap.size := by rw [hW.1]
  rw [← e]
  exact (rwaiting_any gd L W inv.ok inv.so (inv.rl.eqv hW)).mono fun _ _ ⟨A, c, h1, h2, h3⟩ => ⟨A, c, h1, h2, hW.below h3⟩
theorem keep_mem {who : Int} {l : List Ask} {a : Ask} (h : a ∈ keep who l) : a ∈ l := (List.mem_filter.1 h).1
theorem Lim.Ok.dropped {L : Lim} (ok : L.Ok) (who : Int) : (L.dropped who).Ok := by
  obtain ⟨h1, h2, h3, h4, h5, h6, h7, h8, h9, h10⟩ := ok
  have := keep_le who L.us; have := keep_le who L.os
  exact ⟨h1, h2, h3, h4, h5, h6, h7, by simp only [Lim.dropped]; omega, fun a ha => h9 a (keep_mem ha), fun a ha => h10 a (keep_mem ha)⟩
theorem Lim.Sorts.dropped {L : Lim} (so : L.Sorts) (who : Int) : (L.dropped who).Sorts := ⟨fun a ha => so.1 a (keep_mem ha), fun a ha => so.2 a (keep_mem ha)⟩
theorem LInv.drop_p (inv : LInv w gp gd L wo) (who : Int) (W : World) (hW : Eqv W wo) :
    Calls Try.prog 19 #[.pointer (some ⟨gp, 0, none⟩), .int .i64 who] W fun e w' => e = .returned (.int .i64 (L.many who)) ∧ PAt w.heap.size w' gp (L.dropped who) ∧ Chg (LimF w.heap.size wo) wo w' := by
  have hs : W.heap.size = wo.heap.size := by rw [hW.1]
  refine (drop_any gp L W who inv.ok (by rw [hs]; exact inv.below.size) (inv.pl.eqv hW)).mono ?_
  rintro e w' ⟨h1, h2, h3⟩
  refine ⟨h1, h2, (hW.chg h3).mono ?_⟩
  rintro k _ rfl
  obtain ⟨A0, c0, A1, c1, h⟩ := inv.pl
  exact limF_g h
theorem LInv.drop_d (inv : LInv w gp gd L wo) (hc : Chg (LimF w.heap.size wo) wo w2) (who : Int) (W : World) (hW : Eqv W w2) :
    Calls Try.prog 20 #[.pointer (some ⟨gd, 0, none⟩), .int .i64 who] W fun e w' => e = .returned (.int .i64 (L.many who)) ∧ RAt w' gd (L.dropped who) ∧ Chg (fun k => k = gd) w2 w' := by
  obtain ⟨A0, c0, A1, c1, h⟩ := (inv.rl.lim hc).eqv hW
  exact (rdrop gd L A0 c0 A1 c1 W who inv.ok h).mono fun _ _ ⟨h1, h2, h3⟩ => ⟨h1, h2, hW.chg h3⟩
theorem LInv.same (inv : LInv w gp gd L wo) {A5 : Option Addr} {c4 c5 b4 : Nat} {A4 : Option Addr} {l : List Int} (h4 : w2.ownsRow b4 3 1 (.slice A4 l.length c4) l.length (ints l)) (hb : Below w2.heap.size w2 wo)
    (h5 : wo.ownsRow w2.heap.size 3 1 (.slice A5 l.length c5) l.length (ints l)) (hw : w.heap.size ≤ b4) (hl : l.length ≤ 4096) :
    Calls Try.prog 17 #[.slice A4 l.length c4, .slice A5 l.length c5] wo fun e w' => e = .returned (.bool true) ∧ LInv w gp gd L w' :=
  (ints_same A4 A5 c4 c5 _ _ l wo (own_below h4 hb) h5 (ne_back h4 h5 (Nat.le_refl _)) hl).mono fun _ _ ⟨h1, h2⟩ => ⟨h1, inv.row (own_below h4 hb) hw h2⟩
theorem LInv.same2 (inv : LInv w gp gd L wo) {A5 : Option Addr} {c4 c5 b4 : Nat} {A4 : Option Addr} {l : List Int} (h4 : w2.ownsRow b4 3 1 (.slice A4 l.length c4) l.length (ints l)) (h4' : wo.ownsRow b4 3 1 (.slice A4 l.length c4) l.length (ints l))
    (h5 : wo.ownsRow w2.heap.size 3 1 (.slice A5 l.length c5) l.length (ints l)) (hw : w.heap.size ≤ b4) (hl : l.length ≤ 4096) :
    Calls Try.prog 17 #[.slice A4 l.length c4, .slice A5 l.length c5] wo fun e w' => e = .returned (.bool true) ∧ LInv w gp gd L w' :=
  (ints_same A4 A5 c4 c5 _ _ l wo h4' h5 (ne_back h4 h5 (Nat.le_refl _)) hl).mono fun _ _ ⟨h1, h2⟩ => ⟨h1, inv.row h4' hw h2⟩
theorem LInv.own (inv : LInv w gp gd L wo) (hc : Chg (LimF w.heap.size wo) wo w2) (hc3 : Chg (fun k => k = gd) w2 w3) {base n : Nat} {v : Value} {xs : List Value} (h : w2.ownsRow base 3 1 v n xs) : w3.ownsRow base 3 1 v n xs := by
  obtain ⟨cs, hb⟩ := (inv.rl.lim hc).blk
  exact own_chg h hc3 (fun k hk e => own_ne_cells h hb (by decide) (by rw [hk, e]))
end
def LimitRel (w : World) (gp gd n : Nat) (gk : Nat) (v13 : Value) (wr : World) : Prop :=
  ∃ (i : Nat) (L : Lim), i ≤ n ∧ gk = n - i ∧ v13 = .int .i64 i ∧ LInv w gp gd L wr
end Go.Proofs.Ytbiaelaaihieeaa
