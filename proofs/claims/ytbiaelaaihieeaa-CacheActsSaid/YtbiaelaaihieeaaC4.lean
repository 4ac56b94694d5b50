/- The cache: a shard in memory; its calls: busy, gone. -/
import Derived.Test.YtbiaelaaihieeaaC3
set_option linter.unusedVariables false
set_option linter.unusedSimpArgs false
set_option maxRecDepth 100000
namespace Go.Proofs.Ytbiaelaaihieeaa
open Go.RowKit

/-- Where a shard lies. -/
structure ShL where
  s : Nat
  mi : Nat
  ma : Nat
  A : Option Addr
  c : Nat
/-- What a shard holds: entries by key, all entries, those that wait. -/
structure Sh where
  inm : List (ByteArray × Nat)
  al : List Nat
  wt : List Nat
def skey (k : ByteArray) : Value := .string k
def inP (l : List (ByteArray × Nat)) : List (ByteArray × Value) := l.map fun p => (p.1, .pointer (some ⟨p.2, 0, none⟩))
variable {B : Nat}
structure ShAt (B : Nat) (w : World) (x : ShL) (S : Sh) : Prop where
  blk : blkOf w x.s = some (.cells #[.map (some x.mi), .map (some x.ma), .slice x.A S.wt.length x.c] 109 (0, 0))
  inm : MapAt skey w x.mi (inP S.inm)
  al : MapAt ptr w x.ma (setP S.al)
  wt : w.ownsRow B 120 1 (.slice x.A S.wt.length x.c) S.wt.length (ptrs S.wt)
  ne : x.mi ≠ x.ma
  base : B ≤ x.s ∧ B ≤ x.mi ∧ B ≤ x.ma
def rowOf (A : Option Addr) : Option Nat := (Value.slice A 0 0).ownBlock
theorem rowOf_eq (A : Option Addr) (n c : Nat) : (Value.slice A n c).ownBlock = rowOf A := by cases A <;> rfl
/-- A shard's blocks. -/
def ShL.F (x : ShL) (k : Nat) : Prop := k = x.s ∨ k = x.mi ∨ k = x.ma ∨ rowOf x.A = some k
/-- What a world has done to a shard of whose blocks it has turned none. -/
theorem ShAt.chg {w w' : World} {x : ShL} {S : Sh} (h : ShAt B w x S) {F : Nat → Prop} (hc : Chg F w w') (hF : ∀ k, x.F k → ¬ F k) : ShAt B w' x S :=
  ⟨(hc.block x.s (Blk.lt h.blk) (hF _ (.inl rfl))).trans h.blk, h.inm.of_blk (hc.block _ h.inm.lt (hF _ (.inr (.inl rfl)))), h.al.of_blk (hc.block _ h.al.lt (hF _ (.inr (.inr (.inl rfl))))),
    own_chg h.wt hc (fun k hk => hF k (.inr (.inr (.inr (by rw [← hk, rowOf_eq]))))), h.ne, h.base⟩
theorem ShAt.lt {w : World} {x : ShL} {S : Sh} (h : ShAt B w x S) {k : Nat} (hk : x.F k) : B ≤ k ∧ k < w.heap.size := by
  rcases hk with rfl | rfl | rfl | hk
  · exact ⟨h.base.1, Blk.lt h.blk⟩
  · exact ⟨h.base.2.1, h.inm.lt⟩
  · exact ⟨h.base.2.2, h.al.lt⟩
  · exact h.wt.lt k (by rw [rowOf_eq]; exact hk)
/-- A shard's blocks are no entries. -/
theorem ShAt.ni {w : World} {x : ShL} {S : Sh} (h : ShAt B w x S) {k : Nat} (hk : x.F k) : ¬ IsI w k := by
  rintro ⟨ck, hc⟩
  rcases hk with rfl | rfl | rfl | hk
  · have := h.blk; rw [hc] at this; injection this with this; injection this with _ e _; exact absurd e (by decide)
  · exact map_ne_blk h.inm hc rfl
  · exact map_ne_blk h.al hc rfl
  · exact own_ne_cells1 h.wt hc (by decide) (by rw [rowOf_eq]; exact hk)
theorem ShAt.put_row {w w1 : World} {x : ShL} {S : Sh} (h : ShAt B w x S) (hc : Chg (fun k => rowOf x.A = some k) w w1) {A : Option Addr} {c : Nat} {l : List Nat} (hown : w1.ownsRow B 120 1 (.slice A l.length c) l.length (ptrs l)) :
    ShAt B (w1.setCell ⟨x.s, 2, none⟩ (.slice A l.length c)) { x with A := A, c := c } { S with wt := l } ∧ Chg (fun k => k = x.s ∨ rowOf x.A = some k) w (w1.setCell ⟨x.s, 2, none⟩ (.slice A l.length c)) := by
  have nr : ∀ k, rowOf x.A = some k → k ≠ x.s ∧ k ≠ x.mi ∧ k ≠ x.ma := fun k hk =>
    ⟨fun e => own_ne_cells1 h.wt h.blk (by decide) (by rw [rowOf_eq, hk, e]), fun e => own_ne_map h.inm h.wt (by rw [rowOf_eq, hk, e]), fun e => own_ne_map h.al h.wt (by rw [rowOf_eq, hk, e])⟩
  have e1 : blkOf w1 x.s = _ := (hc.block x.s (Blk.lt h.blk) (fun e => (nr _ e).1 rfl)).trans h.blk
  have nm : x.mi ≠ x.s := map_ne_blk h.inm h.blk
  have na : x.ma ≠ x.s := map_ne_blk h.al h.blk
  refine ⟨⟨?_, ?_, ?_, ?_, h.ne, h.base⟩, Chg.setCell (F := fun k => k = x.s ∨ rowOf x.A = some k) (hc.mono (fun _ _ h => .inr h)) (p := ⟨x.s, 2, none⟩) (fun _ => .inl rfl) _⟩
  · rw [blk_set_same, e1]; rfl
  · exact h.inm.of_blk ((blk_set_ne' _ _ _ _ _ nm).trans (hc.block _ h.inm.lt (fun e => (nr _ e).2.1 rfl)))
  · exact h.al.of_blk ((blk_set_ne' _ _ _ _ _ na).trans (hc.block _ h.al.lt (fun e => (nr _ e).2.2 rfl)))
  · exact own_set hown (own_ne_cells1 hown e1 (by decide)) _

set_option maxHeartbeats 800000 in
theorem busy_any (x : ShL) (S : Sh) (b : Nat) (w : World) (h : ShAt B w x S) (hI : ∀ y ∈ S.wt, IsI w y) (hb : IsI w b) (hn : S.wt.length ≤ maxLen) :
    Calls Try.prog 64 #[.pointer (some ⟨x.s, 0, none⟩), .pointer (some ⟨b, 0, none⟩)] w fun e w' => e = .returned (.tuple #[]) ∧ ShAt B w' x { S with wt := less S.wt b } ∧ Chg (fun k => k = x.s ∨ rowOf x.A = some k) w w' := by
  refine calls_of fun R HR => ?_
  have hbs := h.blk
  have lb := hb.lt
  have H := hid h
  have ls := Blk.lt hbs
  have Hd : Hid (∀ W, W = w.alloc (.cells #[.pointer (some ⟨b, 0, none⟩)] 120) → _) := hid fun W hW => by
    subst hW
    exact pdelete_any x.A x.c S.wt b w.heap.size B (w.alloc (.cells #[.pointer (some ⟨b, 0, none⟩)] 120)) (h.wt.alloc _) (blk_new _ _) (fun e => by have := (h.wt.lt _ e).2; omega)
      (fun y hy => by obtain ⟨cy, hy⟩ := hI y hy; exact ⟨cy, (blk_past _ _ _ (Blk.lt hy)).trans hy⟩) (by obtain ⟨cy, hy⟩ := hb; exact ⟨cy, (blk_past _ _ _ (Blk.lt hy)).trans hy⟩) hn
  clear h hI hb
  go_enter Try.func64, Try.ntmps64
  go_wp2_with (go_at_call 82; refine (Hd.out _ rfl).mono ?_; rintro e w1 ⟨rfl, hown, hc⟩; have e1 : blkOf w1 x.s = _ := (hc.block x.s (by simp; omega) (fun e => own_ne_cells1 H.out.wt H.out.blk (by decide) e)).trans ((blk_past _ _ _ ls).trans hbs); have ls1 := Blk.lt e1; have Hown := hid hown; have Hc := hid hc; clear hown hc)
  go_end0
  refine HR.out _ _ ⟨rfl, H.out.put_row ?_ Hown.out⟩
  exact Chg.trans (F := fun _ => False) ((Chg.refl _ w).alloc _) Hc.out (fun _ _ h => h.elim) (fun k _ e => by rw [← rowOf_eq]; exact e)

theorem pdel_setP (l : List Nat) (b : Nat) : pdel (setP l) b = setP (less l b) := by
  unfold pdel setP less
  rw [List.filter_map]
  congr 1
  apply List.filter_congr
  intro y _
  simp
def out (l : List (ByteArray × Nat)) (k : ByteArray) : List (ByteArray × Nat) := l.filter fun p => decide (p.1 ≠ k)
theorem pdel_inP (l : List (ByteArray × Nat)) (k : ByteArray) : pdel (inP l) k = inP (out l k) := by
  unfold pdel inP out
  rw [List.filter_map]
  congr 1
  apply List.filter_congr
  intro y _
  simp
theorem skeys : Keys Try.prog 9 skey := string_keys Try.underlying9
theorem pkey_at {w : World} {k : Nat} {l : List Nat} (hk : IsI w k) (hl : ∀ y ∈ l, IsI w y) : KeyIn Try.prog 120 ptr w k ((setP l).map (·.1)) := by
  obtain ⟨i, hi, hs⟩ := info123
  rw [setP_fst]
  exact ptr_key Try.underlying120 hi hs hk.c (fun y hy => (hl y hy).c)
/-- What a shard holds when an entry has gone. -/
def Sh.gone (S : Sh) (b : Nat) (i : It) : Sh := { inm := if i.inn = true then out S.inm i.key else S.inm, al := less S.al b, wt := less S.wt b }
def It.off (i : It) : It := { i with inn := false }
theorem ShAt.put_al {w w1 : World} {x : ShL} {S : Sh} (h : ShAt B w x S) (hc : Chg (fun k => k = x.ma) w w1) {al : List Nat} (ha : MapAt ptr w1 x.ma (setP al)) : ShAt B w1 x { S with al := al } :=
  ⟨(hc.block x.s (Blk.lt h.blk) (fun e => map_ne_blk h.al h.blk e.symm)).trans h.blk, h.inm.of_blk (hc.block _ h.inm.lt (fun e => h.ne e)), ha, own_chg h.wt hc (fun k hk e => own_ne_map h.al h.wt (by rw [hk, e])), h.ne, h.base⟩
theorem ShAt.put_in {w w1 : World} {x : ShL} {S : Sh} (h : ShAt B w x S) (hc : Chg (fun k => k = x.mi) w w1) {l : List (ByteArray × Nat)} (ha : MapAt skey w1 x.mi (inP l)) : ShAt B w1 x { S with inm := l } :=
  ⟨(hc.block x.s (Blk.lt h.blk) (fun e => map_ne_blk h.inm h.blk e.symm)).trans h.blk, ha, h.al.of_blk (hc.block _ h.al.lt (fun e => h.ne e.symm)), own_chg h.wt hc (fun k hk e => own_ne_map h.inm h.wt (by rw [hk, e])), h.ne, h.base⟩
theorem IsI.chg {w w' : World} {y : Nat} (h : IsI w y) {F : Nat → Prop} (hc : Chg F w w') (hn : ¬ F y) : IsI w' y := by
  obtain ⟨c, h⟩ := h
  exact ⟨c, (hc.block y (Blk.lt h) hn).trans h⟩
theorem chg_cell (w : World) (b i : Nat) (v : Value) : Chg (fun k => k = b) w (w.setCell ⟨b, i, none⟩ v) := Chg.setCell (F := fun k => k = b) (Chg.refl _ w) (p := ⟨b, i, none⟩) (fun _ => rfl) v
theorem ShAt.cell_it {w : World} {x : ShL} {S : Sh} {b : Nat} (h : ShAt B w x S) (hb : IsI w b) (i : Nat) (v : Value) : ShAt B (w.setCell ⟨b, i, none⟩ v) x S := h.chg (chg_cell w b i v) (fun k hk e => h.ni hk (by rw [e]; exact hb))
theorem gone_keep {w w1 w2 w3 : World} {x : ShL} {S : Sh} {b : Nat} {l : List Nat} (hI : ∀ y ∈ l, IsI w y) (h : ShAt B w x S) (hc1 : Chg (fun k => k = x.ma) w w1) (hc2 : Chg (fun k => k = x.mi) w1.drew w2) (hc3 : Chg (fun k => k = b) w2 w3) (hb : IsI w3 b) : ∀ y ∈ l, IsI w3 y := by
  intro y hy
  by_cases e : y = b
  · rw [e]; exact hb
  · have i1 : IsI w1.drew y := (hI y hy).chg hc1.drew (fun e => h.ni (.inr (.inr (.inl e))) (hI y hy))
    exact (i1.chg hc2 (fun e => h.ni (.inr (.inl e)) (hI y hy))).chg hc3 e
set_option maxHeartbeats 1600000 in
theorem gone_any (x : ShL) (S : Sh) (b : Nat) (i : It) (w : World) (h : ShAt B w x S) (hA : ∀ y ∈ S.al, IsI w y) (hI : ∀ y ∈ S.wt, IsI w y) (hb : ItAt w b i) (hn : S.wt.length ≤ maxLen) :
    Calls Try.prog 63 #[.pointer (some ⟨x.s, 0, none⟩), .pointer (some ⟨b, 0, none⟩)] w fun e w' => e = .returned (.tuple #[]) ∧ ShAt B w' x (S.gone b i) ∧ ItAt w' b i.off ∧ Chg (fun k => x.F k ∨ k = b) w w' := by
  refine calls_of fun R HR => ?_
  have H := hid h
  have hbs := h.blk
  have hma := h.al
  have K := hid (pkey_at hb.i hA)
  have hbb : blkOf w b = some (.cells #[.string i.key, i.v, .int .u64 i.ch, .bool i.inn, .int .i64 i.pins] 123 (0, 0)) := hb
  have HI := hid hI
  clear h hA hI hb
  cases hin : i.inn with
  | false =>
    rw [hin] at hbb
    have Hin := hid hin
    clear hin
    go_enter Try.func63, Try.ntmps63
    go_wp2_with (first
      | (go_at_call 64; have q := H1.out; refine (busy_any x _ b w1 q (fun y hy => (HI.out y hy).chg Hc1.out (fun e => H.out.ni (.inr (.inr (.inl e))) (HI.out y hy))) ⟨_, e1⟩ hn).mono ?_; rintro e w2 ⟨rfl, h2, hc2⟩; have H2 := hid h2; have Hc2 := hid hc2; clear h2 hc2 q)
      | (at_delete; refine wpList_mdelK Try.underlying106 rfl (.tmp 7) (.tmp 8) rfl rfl hma b K.out rfl ?_; intro w1 hm1 hc1; have H1 := hid (H.out.put_al hc1 (by rw [← pdel_setP]; exact hm1)); have e1 : blkOf w1 b = _ := (hc1.block b (Blk.lt hbb) (fun e => map_ne_blk hma hbb e.symm)).trans hbb; have e2 := H1.out.blk; have Hc1 := hid hc1; clear hm1 hc1))
    go_end0
    refine HR.out _ _ ⟨rfl, ?_, ?_, ?_⟩
    · simpa [Sh.gone, Hin.out] using H2.out
    · have e3 : blkOf w2 b = _ := (Hc2.out.block b (Blk.lt e1) (fun e => H1.out.ni (e.imp (fun e => e) (fun e => .inr (.inr e))) ⟨_, e1⟩)).trans e1
      unfold ItAt
      rw [e3]
      simp [itCells, It.off]
    · exact Hc1.out.trans Hc2.out (fun k _ e => .inl (.inr (.inr (.inl e)))) (fun k _ e => .inl (e.imp (fun e => e) (fun e => .inr (.inr e))))
  | true =>
    rw [hin] at hbb
    have Hin := hid hin
    clear hin
    go_enter Try.func63, Try.ntmps63
    go_wp2_with (at_delete; refine wpList_mdelK Try.underlying106 rfl (.tmp 7) (.tmp 8) rfl rfl hma b K.out rfl ?_; intro w1 hm1 hc1; have H1 := hid (H.out.put_al hc1 (by rw [← pdel_setP]; exact hm1)); have e1 : blkOf w1 b = _ := (hc1.block b (Blk.lt hbb) (fun e => map_ne_blk hma hbb e.symm)).trans hbb; have e2 := H1.out.blk; have Hc1 := hid hc1; clear hm1 hc1)
    refine wp_tail 8 (by kernel_rfl) (by kernel_rfl) ?_
    simp only [List.take_succ_cons, List.take_zero, List.drop_succ_cons, List.drop_zero]
    repeat still_step
    refine wpStill_nil ?_
    have hmi := H1.out.inm
    go_wp2_with (first
      | (go_at_call 64; have q := H2.out; have hc3 : Chg (fun k => k = b) w2 (w2.setCell ⟨b, 3, none⟩ (.bool false)) := chg_cell _ _ _ _; have q3 := q.cell_it ⟨_, e3⟩ 3 (.bool false); have e4 : blkOf (w2.setCell ⟨b, 3, none⟩ (.bool false)) b = some (.cells (itCells i.off) 123 (0, 0)) := (Blk.set (t := 123) e3 3 (.bool false)); have hI3 : ∀ y ∈ S.wt, IsI (w2.setCell ⟨b, 3, none⟩ (.bool false)) y := gone_keep HI.out H.out Hc1.out Hc2.out hc3 ⟨_, e4⟩; refine (busy_any x _ b _ q3 hI3 ⟨_, e4⟩ hn).mono ?_; rintro e w4 ⟨rfl, h4, hc4⟩; have H4 := hid h4; have Hc4 := hid hc4; have Hc3 := hid hc3; have E4 := hid e4; have Q3 := hid q3; clear h4 hc4 q hI3 hc3 q3 e4)
      | (at_delete; refine wpList_mdel skeys Try.underlying105 rfl (.tmp 16) (.tmp 20) rfl rfl (w := w1.drew) hmi i.key rfl ?_; intro w2 hm2 hc2; have h1d : ShAt B w1.drew x _ := H1.out.chg (Chg.drew (Chg.refl (fun _ => False) _)) (fun _ _ h => h); have H2 := hid (h1d.put_in hc2 (by rw [← pdel_inP]; exact hm2)); have e3 : blkOf w2 b = _ := (hc2.block b (Blk.lt e1) (fun e => map_ne_blk hmi e1 e.symm)).trans e1; have l3 := Blk.lt e3; have Hc2 := hid hc2; clear hm2 hc2 h1d))
    go_end0
    refine HR.out _ _ ⟨rfl, ?_, ?_, ?_⟩
    · simpa [Sh.gone, Hin.out] using H4.out
    · exact (Hc4.out.block b (Blk.lt E4.out) (fun e => Q3.out.ni (e.imp (fun e => e) (fun e => .inr (.inr e))) ⟨_, E4.out⟩)).trans E4.out
    · refine Chg.trans (Hc1.out.drew.trans Hc2.out (H := fun k => x.F k ∨ k = b) (fun k _ e => .inl (.inr (.inr (.inl e)))) (fun k _ e => .inl (.inr (.inl e)))) (Hc3.out.trans Hc4.out (H := fun k => x.F k ∨ k = b) (fun k _ e => .inr e) (fun k _ e => .inl (e.imp (fun e => e) (fun e => .inr (.inr e))))) (fun _ _ h => h) (fun _ _ h => h)
end Go.Proofs.Ytbiaelaaihieeaa
