/- The cache whole: where it lies, what it holds. -/
import Derived.Test.YtbiaelaaihieeaaC7
set_option linter.unusedVariables false
set_option linter.unusedSimpArgs false
set_option maxRecDepth 100000
namespace Go.Proofs.Ytbiaelaaihieeaa
open Go.RowKit

def putAt {α : Type} (f : Nat → α) (i : Nat) (a : α) : Nat → α := fun k => if k = i then a else f k
theorem putAt_same {α : Type} (f : Nat → α) (i : Nat) (a : α) : putAt f i a i = a := by simp [putAt]
theorem putAt_ne {α : Type} (f : Nat → α) {i k : Nat} (a : α) (h : k ≠ i) : putAt f i a k = f k := by simp [putAt, h]
/-- Where a cache lies. -/
structure CL where
  g : Nat
  row : Nat
  cp : Nat
  mp : Nat
  n : Nat
  sh : Nat → ShL
/-- What a cache holds. -/
structure CS where
  room : Int
  st : Bool
  last : Int
  pins : List (Int × Nat)
  sh : Nat → Sh
  it : Nat → It
  its : List Nat
variable {B : Nat}
structure CAt (B : Nat) (w : World) (x : CL) (S : CS) : Prop where
  blk : blkOf w x.g = some (.cells #[.slice (some ⟨x.row, 0, none⟩) x.n x.cp, .int .u64 S.room, .bool S.st, .map (some x.mp), .int .i64 S.last] 103 (0, 0))
  row : w.ownsRow B 104 1 (.slice (some ⟨x.row, 0, none⟩) x.n x.cp) x.n (ptrs ((List.range x.n).map fun i => (x.sh i).s))
  n0 : 0 < x.n
  n1 : x.n ≤ 64
  pins : MapAt ikey w x.mp (pinP S.pins)
  shs : ∀ i, i < x.n → ShAt B w (x.sh i) (S.sh i)
  apart : ∀ i j, i < x.n → j < x.n → i ≠ j → ∀ k, (x.sh i).F k → ¬ (x.sh j).F k
  mpa : ∀ i, i < x.n → x.mp ≠ (x.sh i).mi ∧ x.mp ≠ (x.sh i).ma
  its : ItsAt w S.it S.its
  base : B ≤ x.g ∧ B ≤ x.mp ∧ ∀ b ∈ S.its, B ≤ b
/-- A cache's blocks. -/
def CL.F (x : CL) (S : CS) (k : Nat) : Prop := k = x.g ∨ k = x.row ∨ k = x.mp ∨ (∃ i, i < x.n ∧ (x.sh i).F k) ∨ k ∈ S.its
section
variable {w w' : World} {x : CL} {S : CS}
theorem CAt.lt (h : CAt B w x S) {k : Nat} (hk : x.F S k) : B ≤ k ∧ k < w.heap.size := by
  rcases hk with rfl | rfl | rfl | ⟨i, hi, hk⟩ | hk
  · exact ⟨h.base.1, Blk.lt h.blk⟩
  · exact h.row.lt _ rfl
  · exact ⟨h.base.2.1, h.pins.lt⟩
  · exact (h.shs i hi).lt hk
  · exact ⟨h.base.2.2 k hk, Blk.lt (h.its k hk)⟩
theorem CAt.chg (h : CAt B w x S) {F : Nat → Prop} (hc : Chg F w w') (hF : ∀ k, x.F S k → ¬ F k) : CAt B w' x S :=
  ⟨(hc.block x.g (Blk.lt h.blk) (hF _ (.inl rfl))).trans h.blk, own_chg h.row hc (fun k hk => hF k (.inr (.inl (by injection hk with hk; exact hk.symm)))), h.n0, h.n1, h.pins.of_blk (hc.block _ h.pins.lt (hF _ (.inr (.inr (.inl rfl))))),
    fun i hi => (h.shs i hi).chg hc (fun k hk => hF k (.inr (.inr (.inr (.inl ⟨i, hi, hk⟩))))), h.apart, h.mpa, fun b hb => (hc.block b (Blk.lt (h.its b hb)) (hF _ (.inr (.inr (.inr (.inr hb)))))).trans (h.its b hb), h.base⟩
theorem CAt.below (h : CAt B w x S) (hb : Below w.heap.size w w') : CAt B w' x S := h.chg (F := fun _ => False) (Chg.of_below hb) (fun _ _ h => h)
theorem CAt.drewN (h : CAt B w x S) (n : Nat) : CAt B (w.drewN n) x S := h.below (bl_drewN (Below.refl _ _) n)
/-- g, the row of shards and the map of pins are no blocks of a shard. -/
theorem CAt.far (h : CAt B w x S) {i : Nat} (hi : i < x.n) : ¬ (x.sh i).F x.g ∧ ¬ (x.sh i).F x.row ∧ ¬ (x.sh i).F x.mp := by
  have hs := h.shs i hi
  have hrow : ∃ cs, blkOf w x.row = some (.cells cs 104 (0, 0)) := by
    rcases h.row.2 with ⟨h0, _⟩ | ⟨g, cap, cur, hv, _, hg, _⟩
    · cases h0
    · injection hv with e1; injection e1 with e1; injection e1 with e1; subst e1; exact ⟨cur, hg⟩
  obtain ⟨cr, hr⟩ := hrow
  refine ⟨?_, ?_, ?_⟩
  · rintro (e | e | e | e)
    · have := hs.blk; rw [← e, h.blk] at this; injection this with this; injection this with _ e _; exact absurd e (by decide)
    · exact map_ne_blk hs.inm h.blk e.symm
    · exact map_ne_blk hs.al h.blk e.symm
    · exact own_ne_cells1 hs.wt h.blk (by decide) (by rw [rowOf_eq]; exact e)
  · rintro (e | e | e | e)
    · have := hs.blk; rw [← e, hr] at this; injection this with this; injection this with _ e _; exact absurd e (by decide)
    · exact map_ne_blk hs.inm hr e.symm
    · exact map_ne_blk hs.al hr e.symm
    · exact own_ne_cells1 hs.wt hr (by decide) (by rw [rowOf_eq]; exact e)
  · rintro (e | e | e | e)
    · exact map_ne_blk h.pins hs.blk e
    · exact (h.mpa i hi).1 e
    · exact (h.mpa i hi).2 e
    · exact own_ne_map h.pins hs.wt (by rw [rowOf_eq]; exact e)
theorem CAt.row_blk (h : CAt B w x S) : ∃ cs, blkOf w x.row = some (.cells cs 104 (0, 0)) := by
  rcases h.row.2 with ⟨h0, _⟩ | ⟨g, cap, cur, hv, _, hg, _⟩
  · cases h0
  · injection hv with e1; injection e1 with e1; injection e1 with e1; subst e1; exact ⟨cur, hg⟩
/-- .. nor entries. -/
theorem CAt.ni (h : CAt B w x S) {k : Nat} (hk : IsI w k) : k ≠ x.g ∧ k ≠ x.row ∧ k ≠ x.mp := by
  obtain ⟨ck, hk⟩ := hk
  obtain ⟨cr, hr⟩ := h.row_blk
  refine ⟨?_, ?_, ?_⟩
  · rintro rfl; rw [h.blk] at hk; injection hk with hk; injection hk with _ e _; exact absurd e (by decide)
  · rintro rfl; rw [hr] at hk; injection hk with hk; injection hk with _ e _; exact absurd e (by decide)
  · exact fun e => map_ne_blk h.pins hk e.symm
/-- One shard has been turned, and entries. -/
theorem CAt.put_sh (h : CAt B w x S) {i : Nat} (hi : i < x.n) {F : Nat → Prop} (hc : Chg F w w') (hF : ∀ k, k < w.heap.size → F k → (x.sh i).F k ∨ IsI w k) {y : ShL} {T : Sh} (hy : ShAt B w' y T) (es : y.s = (x.sh i).s) (em : y.mi = (x.sh i).mi) (ea : y.ma = (x.sh i).ma)
    (hyF : ∀ k, rowOf y.A = some k → (x.sh i).F k ∨ w.heap.size ≤ k) {I : Nat → It} (hI : ItsAt w' I S.its) : CAt B w' { x with sh := putAt x.sh i y } { S with sh := putAt S.sh i T, it := I } := by
  have hfar : ∀ k, ¬ (x.sh i).F k → ¬ IsI w k → k < w.heap.size → ¬ F k := fun k h1 h2 hk hF' => (hF k hk hF').elim h1 h2
  obtain ⟨f1, f2, f3⟩ := h.far hi
  have g1 : ¬ F x.g := hfar _ f1 (fun hI => (h.ni hI).1 rfl) (Blk.lt h.blk)
  have g2 : ¬ F x.row := hfar _ f2 (fun hI => (h.ni hI).2.1 rfl) (h.row.lt _ rfl).2
  have g3 : ¬ F x.mp := hfar _ f3 (fun hI => (h.ni hI).2.2 rfl) h.pins.lt
  have yF : ∀ k, y.F k → (x.sh i).F k ∨ w.heap.size ≤ k := by
    rintro k (e | e | e | e)
    · exact .inl (.inl (e.trans es))
    · exact .inl (.inr (.inl (e.trans em)))
    · exact .inl (.inr (.inr (.inl (e.trans ea))))
    · exact hyF k e
  have hrow : (List.range x.n).map (fun j => (putAt x.sh i y j).s) = (List.range x.n).map fun j => (x.sh j).s := by
    apply List.map_congr_left
    intro j _
    unfold putAt
    split
    · rename_i e; rw [e]; exact es
    · rfl
  refine ⟨(hc.block _ (Blk.lt h.blk) g1).trans h.blk, ?_, h.n0, h.n1, h.pins.of_blk (hc.block _ h.pins.lt g3), fun j hj => ?_, fun j k hj hk hjk => ?_, fun j hj => ?_, hI, h.base⟩
  · show _ ∧ _
    have := own_chg h.row hc (fun k hk => by injection hk with hk; subst hk; exact g2)
    dsimp only
    rw [hrow]; exact this
  · dsimp only
    by_cases e : j = i
    · subst e; rw [putAt_same, putAt_same]; exact hy
    · rw [putAt_ne _ _ e, putAt_ne _ _ e]
      exact (h.shs j hj).chg hc (fun k hk => hfar k (h.apart j i hj hi e k hk) ((h.shs j hj).ni hk) ((h.shs j hj).lt hk).2)
  · dsimp only at hj hk ⊢
    intro b hb hb'
    by_cases ej : j = i
    · subst ej
      rw [putAt_same] at hb
      rw [putAt_ne _ _ (Ne.symm hjk)] at hb'
      rcases yF b hb with h1 | h1
      · exact h.apart j k hj hk hjk b h1 hb'
      · have := ((h.shs k hk).lt hb').2; omega
    · rw [putAt_ne _ _ ej] at hb
      by_cases ek : k = i
      · subst ek
        rw [putAt_same] at hb'
        rcases yF b hb' with h1 | h1
        · exact h.apart j k hj hk hjk b hb h1
        · have := ((h.shs j hj).lt hb).2; omega
      · rw [putAt_ne _ _ ek] at hb'
        exact h.apart j k hj hk hjk b hb hb'
  · dsimp only
    unfold putAt
    split
    · rename_i e; subst e; rw [em, ea]; exact h.mpa j hj
    · exact h.mpa j hj
end
end Go.Proofs.Ytbiaelaaihieeaa
