/- The cache: New. -/
import Derived.Test.YtbiaelaaihieeaaC14
set_option linter.unusedVariables false
set_option linter.unusedSimpArgs false
set_option maxRecDepth 100000
namespace Go.Proofs.Ytbiaelaaihieeaa
open Go.RowKit

variable {B : Nat}
theorem ShAt.nt {w : World} {x : ShL} {S : Sh} (h : ShAt B w x S) {k t : Nat} {cs : Array Value} (hk : blkOf w k = some (.cells cs t (0, 0))) (h1 : t ≠ 109) (h2 : t ≠ 120) : ¬ x.F k := by
  rintro (e | e | e | e)
  · have := h.blk; rw [← e, hk] at this; injection this with this; injection this with _ e _; exact h1 e
  · exact map_ne_blk h.inm hk e.symm
  · exact map_ne_blk h.al hk e.symm
  · exact own_ne_cells1 h.wt hk (Ne.symm h2) (by rw [rowOf_eq]; exact e)
def Sh.nil : Sh := ⟨[], [], []⟩
structure NewInv (B : Nat) (w : World) (g mp : Nat) (room : Int) (st : Bool) (L : Nat → ShL) (j : Nat) (A : Option Addr) (c : Nat) (wr : World) : Prop where
  blk : blkOf wr g = some (.cells #[.slice A j c, .int .u64 room, .bool st, .map (some mp), .int .i64 0] 103 (0, 0))
  row : wr.ownsRow B 104 1 (.slice A j c) j (ptrs ((List.range j).map fun i => (L i).s))
  pins : MapAt ikey wr mp []
  shs : ∀ i, i < j → ShAt B wr (L i) Sh.nil
  apart : ∀ i k, i < j → k < j → i ≠ k → ∀ b, (L i).F b → ¬ (L k).F b
  mpa : ∀ i, i < j → mp ≠ (L i).mi ∧ mp ≠ (L i).ma
  base : B ≤ g ∧ B ≤ mp
  below : Below B w wr
  size : B ≤ wr.heap.size
def NewRel (B : Nat) (w : World) (g mp n : Nat) (room : Int) (st : Bool) (gk : Nat) (v21 : Value) (wr : World) : Prop :=
  ∃ (j : Nat) (L : Nat → ShL) (A : Option Addr) (c : Nat), j ≤ n ∧ gk = n - j ∧ v21 = .int .i64 j ∧ NewInv B w g mp room st L j A c wr
theorem Try.info104 : (Try.prog.info? 104).map (fun i => (i.zero, i.size, i.bytes)) = some (some (.pointer none), 1, 8) := by kernel_rfl
theorem cnew_no (n : Int) (room : Int) (st : Bool) (w : World) (h : n < 1 ∨ 64 < n) :
    Calls Try.prog 23 #[.int .i64 n, .int .u64 room, .bool st] w fun e w' => e = .returned (.tuple #[.pointer none, .int .i64 1]) ∧ w' = w := by
  refine calls_of fun R HR => ?_
  by_cases h1 : n < 1
  · go_enter Try.func23, Try.ntmps23
    go_wp2
    exact HR.out _ _ ⟨rfl, rfl⟩
  · have h2 : 64 < n := by omega
    go_enter Try.func23, Try.ntmps23
    go_wp2
    exact HR.out _ _ ⟨rfl, rfl⟩
/-- The world in which a shard has been made, and its pointer's row. -/
def newW (wo : World) : World := (((wo.alloc (.map #[] 0)).alloc (.map #[] 0)).alloc (.cells #[.map (some wo.heap.size), .map (some (wo.heap.size + 1)), .slice none 0 0] 109)).alloc (.cells #[.pointer (some ⟨wo.heap.size + 2, 0, none⟩)] 104)
theorem newW_below (wo : World) : Below wo.heap.size wo (newW wo) := bl_alloc (bl_alloc (bl_alloc (bl_alloc (Below.refl _ _) _) _) _) _
theorem newW_size (wo : World) : (newW wo).heap.size = wo.heap.size + 4 := by simp [newW]
theorem newW_sh (wo : World) (hB : B ≤ wo.heap.size) : ShAt B (newW wo) ⟨wo.heap.size + 2, wo.heap.size, wo.heap.size + 1, none, 0⟩ Sh.nil := by
  refine ⟨?_, ?_, ?_, World.ownsRow_nil _ _ _ _, by simp, ⟨by simp only; omega, hB, by simp only; omega⟩⟩
  · simp [newW, go_sem, Sh.nil]
  · refine (MapAt.new skey wo).of_blk ?_
    simp [newW, go_sem]
  · have h : MapAt ptr (newW wo) (wo.alloc (.map #[] 0)).heap.size [] := (MapAt.new ptr (wo.alloc (.map #[] 0))).of_blk (by simp [newW, go_sem])
    have e : (wo.alloc (.map #[] 0)).heap.size = wo.heap.size + 1 := by simp
    rw [e] at h
    exact h
theorem rd_blkc {w : World} {k n sz t : Nat} {fr : Nat × Nat} {xs : List Value} (h : blkOf w k = some (.cells xs.toArray t fr)) (hl : xs.length = n * sz) : Rd w (k + 1) sz (some ⟨k, 0, none⟩) n xs :=
  ⟨hl, fun _ => ⟨_, 0, rfl, by omega, fun j u hu => by
    rw [Nat.zero_add, cell_open, h]
    simpa [cellAt] using hu⟩⟩
theorem cnew_step {w wo w5 : World} {g mp j : Nat} {room : Int} {st : Bool} {L : Nat → ShL} {A : Option Addr} {c : Nat} {A2 : Option Addr} {c2 : Nat} (inv : NewInv B w g mp room st L j A c wo)
    (hown : w5.ownsRow B 104 1 (.slice A2 (j + 1) c2) (j + 1) (ptrs ((List.range j).map fun i => (L i).s) ++ [.pointer (some ⟨wo.heap.size + 2, 0, none⟩)])) (hg : (newW wo).grownBy w5 (Value.slice A j c).ownBlock) :
    blkOf w5 g = some (.cells #[.slice A j c, .int .u64 room, .bool st, .map (some mp), .int .i64 0] 103 (0, 0)) ∧ NewInv B w g mp room st (putAt L j ⟨wo.heap.size + 2, wo.heap.size, wo.heap.size + 1, none, 0⟩) (j + 1) A2 c2 (w5.setCell ⟨g, 0, none⟩ (.slice A2 (j + 1) c2)) := by
  have hnw := newW_below wo
  have hg1 : blkOf (newW wo) g = _ := (bl_at hnw g (Blk.lt inv.blk)).trans inv.blk
  have hr1 := own_below inv.row hnw
  have hc : Chg (fun k => rowOf A = some k) (newW wo) w5 := Chg.grown (F := fun k => rowOf A = some k) (Chg.refl _ _) hg (fun k hk _ => by rw [rowOf_eq] at hk; exact hk)
  have hrg : rowOf A ≠ some g := fun e => own_ne_cells1 hr1 hg1 (by decide) (by rw [rowOf_eq]; exact e)
  have e5 : blkOf w5 g = _ := (hc.block g (Blk.lt hg1) hrg).trans hg1
  obtain ⟨w6, hw6⟩ : ∃ w6, w6 = w5.setCell ⟨g, 0, none⟩ (.slice A2 (j + 1) c2) := ⟨_, rfl⟩
  have hc6 : Chg (fun k => rowOf A = some k ∨ k = g) (newW wo) w6 := by
    rw [hw6]; exact hc.trans (chg_cell w5 g 0 _) (fun _ _ h => .inl h) (fun _ _ h => .inr h)
  have hrow : ∀ k, rowOf A = some k → ∃ cs, blkOf (newW wo) k = some (.cells cs 104 (0, 0)) := by
    intro k hk
    rcases hr1.2 with ⟨h0, _⟩ | ⟨b, cap, cur, hv, _, hh, _⟩
    · injection h0 with h0; rw [h0] at hk; cases hk
    · injection hv with e1; rw [e1] at hk
      have : b = k := by simpa [rowOf, Value.ownBlock] using hk
      subst this
      exact ⟨cur, hh⟩
  have hsh : ∀ {y : ShL}, ShAt B (newW wo) y Sh.nil → ShAt B w6 y Sh.nil := fun {y} hy => hy.chg hc6 (fun k hk hf => by
    rcases hf with hf | hf
    · obtain ⟨cs, h⟩ := hrow k hf
      exact hy.nt h (by decide) (by decide) hk
    · subst hf; exact hy.nt hg1 (by decide) (by decide) hk)
  have hold : ∀ i, i < j → ShAt B (newW wo) (L i) Sh.nil := fun i hi => (inv.shs i hi).below hnw
  have hnew := newW_sh (B := B) wo inv.size
  refine ⟨e5, ?_⟩
  rw [← hw6]
  have hsz : wo.heap.size ≤ w6.heap.size := Nat.le_trans hnw.size hc6.size
  refine ⟨?_, ?_, ?_, fun i hi => ?_, fun i k hi hk hik b hb hb' => ?_, fun i hi => ?_, inv.base, ?_, Nat.le_trans inv.size hsz⟩
  · rw [hw6, blk_set_same, e5]; rfl
  · have : ptrs ((List.range (j + 1)).map fun i => (putAt L j ⟨wo.heap.size + 2, wo.heap.size, wo.heap.size + 1, none, 0⟩ i).s) = ptrs ((List.range j).map fun i => (L i).s) ++ [.pointer (some ⟨wo.heap.size + 2, 0, none⟩)] := by
      rw [List.range_succ, List.map_append]
      have e1 : (List.range j).map (fun i => (putAt L j ⟨wo.heap.size + 2, wo.heap.size, wo.heap.size + 1, none, 0⟩ i).s) = (List.range j).map fun i => (L i).s := by
        apply List.map_congr_left
        intro i hi
        rw [putAt_ne _ _ (by have := List.mem_range.1 hi; omega)]
      rw [e1]
      simp [ptrs, putAt_same]
    rw [this, hw6]
    exact own_set hown (own_ne_cells1 hown e5 (by decide)) _
  · have hp := inv.pins.of_blk (bl_at hnw mp inv.pins.lt)
    refine hp.of_blk (hc6.block mp hp.lt (fun hf => ?_))
    rcases hf with hf | hf
    · exact own_ne_map hp hr1 (by rw [rowOf_eq]; exact hf)
    · exact map_ne_blk hp hg1 hf
  · by_cases e : i = j
    · subst e; rw [putAt_same]; exact hsh hnew
    · rw [putAt_ne _ _ e]; exact hsh (hold i (by omega))
  · have hn : ∀ {i b : Nat}, i < j → (L i).F b → b < wo.heap.size := fun hi hb => ((inv.shs _ hi).lt hb).2
    have hm : ∀ {b : Nat}, (⟨wo.heap.size + 2, wo.heap.size, wo.heap.size + 1, none, 0⟩ : ShL).F b → wo.heap.size ≤ b := by
      rintro b (e | e | e | e)
      · simp only at e; omega
      · simp only at e; omega
      · simp only at e; omega
      · cases e
    by_cases ei : i = j
    · by_cases ek : k = j
      · exact hik (ei.trans ek.symm)
      · rw [ei, putAt_same] at hb; rw [putAt_ne _ _ ek] at hb'
        have := hm hb; have := hn (by omega) hb'; omega
    · rw [putAt_ne _ _ ei] at hb
      by_cases ek : k = j
      · rw [ek, putAt_same] at hb'
        have := hm hb'; have := hn (by omega) hb; omega
      · rw [putAt_ne _ _ ek] at hb'
        exact inv.apart i k (by omega) (by omega) hik b hb hb'
  · have hp := inv.pins.lt
    by_cases e : i = j
    · subst e; rw [putAt_same]; exact ⟨by simp only; omega, by simp only; omega⟩
    · rw [putAt_ne _ _ e]; exact inv.mpa i (by omega)
  · have h1 : Below B w (newW wo) := inv.below.trans (hnw.mono inv.size)
    refine h1.trans (hc6.to_below (Nat.le_trans inv.size hnw.size) (fun k hk hf => ?_))
    rcases hf with hf | hf
    · have := (hr1.lt k (by rw [rowOf_eq]; exact hf)).1; omega
    · have := inv.base.1; omega
set_option maxHeartbeats 1600000 in
theorem cnew_any (n : Nat) (room : Int) (st : Bool) (w : World) (h0 : 0 < n) (h1 : n ≤ 64) :
    Calls Try.prog 23 #[.int .i64 n, .int .u64 room, .bool st] w fun e w' => ∃ x : CL, e = .returned (.tuple #[.pointer (some ⟨x.g, 0, none⟩), .int .i64 0]) ∧ x.n = n ∧ CAt w.heap.size w' x ⟨room, st, 0, [], fun _ => Sh.nil, fun _ => ⟨⟨#[]⟩, .bool false, 0, false, 0⟩, []⟩ ∧ Below w.heap.size w w' := by
  refine calls_of fun R HR => ?_
  have hmm := @run_makeMap Try.prog
  have hn0 : (1 : Int) ≤ (n : Int) := by omega
  have hn1 : (n : Int) ≤ 64 := by omega
  go_enter Try.func23, Try.ntmps23
  go_wp2
  go_loopg [21] n (fun gk v21 wr => NewRel w.heap.size w (w.heap.size + 1) w.heap.size n room st gk v21 wr)
  case atStart =>
    refine ⟨0, fun _ => ⟨0, 0, 0, none, 0⟩, none, 0, Nat.zero_le _, rfl, rfl, ?_⟩
    refine ⟨by simp [go_sem], World.ownsRow_nil _ _ _ _, ?_, fun i hi => by omega, fun i k hi => by omega, fun i hi => by omega, ⟨by omega, Nat.le_refl _⟩, bl_alloc (bl_alloc (Below.refl _ _) _) _, by simp; omega⟩
    exact (MapAt.new ikey w).of_blk (by simp [go_sem])
  case round =>
    obtain ⟨j, L, A, c, hj, rfl, rfl, inv⟩ := hrel
    obtain ⟨wo, hwo⟩ : ∃ wo : World, wo = wr := ⟨_, rfl⟩
    subst hwo
    have Inv := hid inv
    have hb := inv.blk
    have lg := Blk.lt hb
    clear inv
    by_cases hlt : j < n
    · have hj0 : (0 : Int) ≤ (j : Int) := Int.natCast_nonneg _
      have hj1 : (j : Int) < (n : Int) := by omega
      obtain ⟨i0, hi0, hz0, hz1, hz2⟩ := info_parts Try.info104
      go_wp2_with (at_builtin; refine wpList_append_rd _ rfl (.tmp 27) (.tmp 32) _ rfl w.heap.size 104 i0 _ 1 8 Try.underlying101 hi0 hz0 hz1 hz2 rfl (by decide) (.slice A j c) j (ptrs ((List.range j).map fun i => (L i).s)) rfl ?ho (wo.heap.size + 4) (some ⟨wo.heap.size + 3, 0, none⟩) 1 1 [.pointer (some ⟨wo.heap.size + 2, 0, none⟩)] rfl ?hr ?h1 ?h63 ?hb ?hbase ?hk; case' hk => (intro v2 w5 hown5 hg5 hat5; obtain ⟨A2, c2, rfl, _⟩ := own_shape hown5; have hz := cnew_step Inv.out hown5 hg5; have e5 := hz.1; have l5 := Blk.lt e5; have Hz := hid hz.2; clear hz hown5 hg5 hat5))
      case ho => exact own_below Inv.out.row (newW_below wo)
      case hr => exact rd_blkc (k := wo.heap.size + 3) (t := 104) (fr := (0, 0)) (by simp [go_sem]) rfl
      case h1 => simp [Value.oneCell']
      case h63 => simp only [maxLen]; omega
      case hb => omega
      case hbase => simp; omega
      go_roundg (n - (j + 1))
      case measure => omega
      case rel => exact ⟨j + 1, _, A2, c2, by omega, rfl, by go_num, Hz.out⟩
    · obtain rfl : j = n := by omega
      go_wp2
      have hA : ∃ b, A = some ⟨b, 0, none⟩ := by
        obtain ⟨b, cap, hv, _⟩ := Inv.out.row.form h0
        exact ⟨b, by injection hv⟩
      obtain ⟨b, rfl⟩ := hA
      refine HR.out _ _ ⟨⟨w.heap.size + 1, b, c, w.heap.size, j, L⟩, rfl, rfl, ⟨Inv.out.blk, Inv.out.row, h0, h1, Inv.out.pins, Inv.out.shs, Inv.out.apart, Inv.out.mpa, fun _ h => by simp at h, ⟨Inv.out.base.1, Inv.out.base.2, fun _ h => by simp at h⟩⟩, Inv.out.below⟩
end Go.Proofs.Ytbiaelaaihieeaa
