/- CacheActs, parts E17, E18, E19: what the document's cache does, in one memory with the program's. -/
import Derived.Test.YtbiaelaaihieeaaEC
import Derived.Test.YtbiaelaaihieeaaEA
import Derived.Test.YtbiaelaaihieeaaC11
set_option linter.unusedVariables false
set_option linter.unusedSimpArgs false
set_option maxRecDepth 100000
/- The document's cache: a pin let go. -/
namespace Go.Proofs.Ytbiaelaaihieeaa
open Go.RowKit
theorem own_put {w : World} {base e g m c : Nat} {xs : List Value} (h : w.ownsRow base e 1 (.slice (some ⟨g, 0, none⟩) m c) m xs) {j : Nat} (hj : j < m) (v : Value) :
    (w.setCell ⟨g, j, none⟩ v).ownsRow base e 1 (.slice (some ⟨g, 0, none⟩) m c) m (xs.set j v) := by
  refine ⟨by rw [List.length_set]; exact h.1, ?_⟩
  rcases h.2 with ⟨h1, _⟩ | ⟨g', cap, cur, h1, hb, hg, hnc, hcm, hsz, ht⟩
  · cases h1
  · injection h1 with h1 _ h2
    injection h1 with h1; injection h1 with h1 _ _
    subst h1; subst h2
    refine .inr ⟨g, c, cur.setIfInBounds j v, rfl, hb, ?_, hnc, hcm, by simpa using hsz, ?_⟩
    · exact Blk.set (t := e) hg j v
    · rw [Array.toList_setIfInBounds, ← ht]
      apply List.ext_getElem?
      intro i
      simp only [List.getElem?_take, List.getElem?_set, List.length_take, Array.length_toList]
      by_cases hij : j = i
      · subst hij
        simp [show j < m * 1 by omega, hj, show j < cur.size by omega]
        omega
      · simp [hij]
theorem own_blk {w : World} {base e m c : Nat} {A : Option Addr} {xs : List Value} (h : w.ownsRow base e 1 (.slice A m c) m xs) (hm : 0 < m) : ∃ a cur, A = some ⟨a, 0, none⟩ ∧ base ≤ a ∧ blkOf w a = some (.cells cur e (0, 0)) ∧ m ≤ cur.size := by
  rcases h.2 with ⟨_, h0⟩ | ⟨g', cap, cur, h1, hb, hg, hnc, hcm, hsz, ht⟩
  · omega
  · injection h1 with h1 _ h2
    exact ⟨g', cur, h1, hb, hg, by omega⟩
theorem lookP_filt {l : List (Int × Nat)} {k k' : Int} : lookP (l.filter fun p => decide (p.1 ≠ k)) k' = if k' = k then none else lookP l k' := by
  unfold lookP
  rw [List.find?_filter]
  by_cases e : k' = k
  · subst e
    rw [if_pos rfl]
    have : l.find? (fun a => decide (decide (a.1 ≠ k') = true ∧ decide (a.1 = k') = true)) = none := by
      rw [List.find?_eq_none]; intro a _; simp
    rw [this]; rfl
  · rw [if_neg e]
    congr 2
    funext a
    by_cases h : a.1 = k'
    · simp [h, e]
    · simp [h]
section
variable {G : Nat → Prop} {B : Nat} {w w' : World} {n g : Nat} {y : DL} {S S' : CS} {ρ : Nat → Nat}
theorem pinCells_un (j : Nat) (b : Nat) (hj : j < S.last.toNat) : pinCells (S.unpinned ((j : Int) + 1) b) ρ = (pinCells S ρ).set j (.pointer none) := by
  apply List.ext_getElem?
  intro i
  unfold pinCells
  show ((List.range S.last.toNat).map (pinCell (S.unpinned ((j : Int) + 1) b) ρ))[i]? = _
  rw [List.getElem?_set, List.getElem?_map, List.getElem?_map, List.length_map, List.length_range]
  have hp : pinCell (S.unpinned ((j : Int) + 1) b) ρ i = if i = j then .pointer none else pinCell S ρ i := by
    unfold pinCell
    have : lookP (S.unpinned ((j : Int) + 1) b).pins ((i : Int) + 1) = if (i : Int) + 1 = (j : Int) + 1 then none else lookP S.pins ((i : Int) + 1) := lookP_filt
    rw [this]
    by_cases e : i = j
    · subst e; rw [if_pos rfl, if_pos rfl]
    · rw [if_neg (by omega), if_neg e]
  by_cases hi : i < S.last.toNat
  · rw [List.getElem?_range hi, Option.map_some, Option.map_some, hp]
    by_cases e : i = j
    · subst e; simp [hi]
    · rw [if_neg e, if_neg (Ne.symm e)]
  · rw [List.getElem?_eq_none (by simpa using hi)]
    by_cases e : j = i
    · subst e; omega
    · rw [if_neg e]; rfl
/-- The pins' row anew, with one struck, and an entry with a pin less. -/
theorem dfree_un {w5 : World} {j b a2 c2 : Nat} {cur : Array Value} (h : DAt G B w n y S ρ) (hb : b ∈ S.its) (hj : j < S.last.toNat) (hbl : Below w.heap.size w w5) (hown : w5.ownsRow w.heap.size 134 1 (.slice (some ⟨a2, 0, none⟩) S.last.toNat c2) S.last.toNat (pinCells S ρ)) :
    DTo G B n y.g ρ w (((w5.setCell ⟨a2, j, none⟩ (.pointer none)).setCell ⟨y.g, 5, none⟩ (.slice (some ⟨a2, 0, none⟩) S.last.toNat c2)).setCell ⟨ρ b, 4, none⟩ (.int .i64 ((S.it b).pins - 1))) (S.unpinned ((j : Int) + 1) b) := by
  obtain ⟨g1, g2, g3, g4, g5, g6⟩ := h.gb
  have hl := hown.lt a2 rfl
  have hsz := hbl.size
  have hB := h.base
  have o6 := own_put hown hj (.pointer none)
  have b6 : Below w.heap.size w (w5.setCell ⟨a2, j, none⟩ (.pointer none)) := hbl.setCell (by show w.heap.size ≤ a2; omega) _
  have d6 := h.below b6
  have s6 : (w5.setCell ⟨a2, j, none⟩ (.pointer none)).heap.size = w5.heap.size := by simp
  have hgne : a2 ≠ y.g := by have := h.lt _ g1; omega
  have hc7 : Chg (fun k => k = y.g ∨ rowOf y.pa = some k) (w5.setCell ⟨a2, j, none⟩ (.pointer none)) ((w5.setCell ⟨a2, j, none⟩ (.pointer none)).setCell ⟨y.g, 5, none⟩ (.slice (some ⟨a2, 0, none⟩) S.last.toNat c2)) := (chg_cell _ y.g 5 _).mono (fun k _ e => .inl e)
  have hst : ({ S with last := S.last, pins := S.pins.filter (fun p => decide (p.1 ≠ (j : Int) + 1)) } : CS) = { S with pins := S.pins.filter (fun p => decide (p.1 ≠ (j : Int) + 1)) } := rfl
  have d7 := d6.put_pins (G' := more G w (w5.setCell ⟨a2, j, none⟩ (.pointer none))) (last := S.last) (pins := S.pins.filter (fun p => decide (p.1 ≠ (j : Int) + 1))) (A := some ⟨a2, 0, none⟩) (c := c2) (fun k hk => .inl hk) (fun k hk => by
      rcases hk with hk | hk
      · have := h.lt k hk; simp; omega
      · simp at hk ⊢; omega) hc7 (Blk.set (t := 129) d6.blk 5 _) (by
      have e : pinCells ({ S with last := S.last, pins := S.pins.filter (fun p => decide (p.1 ≠ (j : Int) + 1)) } : CS) ρ = (pinCells S ρ).set j (.pointer none) := pinCells_un j b hj
      rw [e]
      exact own_set (own_base o6 hB) (p := ⟨y.g, 5, none⟩) (fun e => hgne (by injection e)) _) (fun k hk => by
      have hk : some a2 = some k := hk
      injection hk with hk
      subst hk
      exact ⟨.inr ⟨hl.1, by simpa using hl.2⟩, fun i hi => ⟨fun e => by have := h.lt _ (g5 i hi _ (.inl e)); omega, fun e => by have := h.lt _ (g5 i hi _ (.inr e)); omega⟩⟩)
  obtain ⟨w7, hw7⟩ : ∃ w7, w7 = ((w5.setCell ⟨a2, j, none⟩ (.pointer none)).setCell ⟨y.g, 5, none⟩ (.slice (some ⟨a2, 0, none⟩) S.last.toNat c2)) := ⟨_, rfl⟩
  have hc07 : Chg G w w7 := by rw [hw7]; exact (Chg.of_below b6).setCell (p := ⟨y.g, 5, none⟩) (fun _ => g1) _
  rw [← hw7] at d7 ⊢
  have hs7 : w7.heap.size = w5.heap.size := by rw [hw7]; simp
  have d8 := d7.put_it (b := b) (j := { S.it b with pins := (S.it b).pins - 1 }) hb (chg_cell w7 (ρ b) 4 (.int .i64 ((S.it b).pins - 1))) (Blk.set (t := 133) (d7.its b hb) 4 _)
  refine ⟨_, ?_, d8.grow (fun k hk => ?_) (fun k hk => ?_), hc07.setCell (p := ⟨ρ b, 4, none⟩) (fun _ => g4 b hb) _⟩
  · rfl
  · rcases hk with hk | hk
    · exact .inl hk
    · refine .inr ⟨hk.1, ?_⟩
      have := hk.2
      simp at this ⊢; omega
  · rcases hk with hk | hk
    · have := h.lt k hk; simp; omega
    · have := hk.2
      simp at this ⊢; omega
end
end Go.Proofs.Ytbiaelaaihieeaa
/- The document's cache: Free. -/
namespace Go.Proofs.Ytbiaelaaihieeaa
open Go.RowKit
section
variable {G : Nat → Prop} {B : Nat} {w w' : World} {n g : Nat} {y : DL} {S S' : CS} {ρ : Nat → Nat}
theorem dfree_none (k : Int) (h : DAt G B w n y S ρ) (ok : COk n S) (h1 : ∀ p ∈ S.pins, 1 ≤ p.1) (hl : S.last < 8796093022000) (hk : lookP S.pins k = none) :
    Calls Try.prog 67 #[.pointer (some ⟨y.g, 0, none⟩), .int .i64 k] w fun e w' => e = .returned (.int .i64 111) ∧ w' = w := by
  refine calls_of fun R HR => ?_
  have hp := dpin_any k h ok h1 hl
  unfold pinV at hp
  rw [hk] at hp
  have Hp := hid hp
  clear hp h ok h1 hl hk
  go_enter Try.func67, Try.ntmps67
  go_wp2_with (go_at_call 91; refine Hp.out.mono ?_; rintro e _ ⟨rfl, rfl⟩)
  exact HR.out _ _ ⟨rfl, rfl⟩
/-- A row that has been copied. -/
theorem copy_row {w0 w5 : World} {v2 : Value} {m : Nat} {xs : List Value} (hm : 0 < m) (h : w5.ownsRow w0.heap.size 134 1 v2 (0 + m) ([] ++ xs)) : ∃ a2 c2 cur, v2 = .slice (some ⟨a2, 0, none⟩) m c2 ∧ w0.heap.size ≤ a2 ∧ blkOf w5 a2 = some (.cells cur 134 (0, 0)) ∧ m ≤ cur.size ∧ w5.ownsRow w0.heap.size 134 1 (.slice (some ⟨a2, 0, none⟩) m c2) m xs := by
  rw [Nat.zero_add, List.nil_append] at h
  obtain ⟨A, c, rfl, _⟩ := own_shape h
  obtain ⟨a, cur, rfl, h1, h2, h3⟩ := own_blk h hm
  exact ⟨a, c, cur, rfl, h1, h2, h3, h⟩
set_option maxHeartbeats 3200000 in
theorem dfree_any (j b : Nat) (h : DAt G B w n y S ρ) (ok : COk n S) (kk : KOk n S) (hp1 : ∀ p ∈ S.pins, 1 ≤ p.1) (hpn : (S.pins.map (·.1)).Nodup) (h0 : 0 < n) (h1 : n ≤ 64) (hl : S.last < 8796093022000) (hk : lookP S.pins ((j : Int) + 1) = some b)
    (hS : (1 < (S.it b).pins ∧ S' = S.unpinned ((j : Int) + 1) b) ∨
     ((S.it b).pins = 1 ∧ (S.it b).inn = true ∧ ∃ T I, Made 0 (S.room / n) (((S.unpinned ((j : Int) + 1) b).waits (sidx n (S.it b).key) b).sh (sidx n (S.it b).key)) (S.unpinned ((j : Int) + 1) b).it T I ∧ S' = (S.unpinned ((j : Int) + 1) b).turn (sidx n (S.it b).key) T I) ∨
     ((S.it b).pins = 1 ∧ (S.it b).inn = false ∧ S' = (S.unpinned ((j : Int) + 1) b).goneAt (sidx n (S.it b).key) b)) :
    Calls Try.prog 67 #[.pointer (some ⟨y.g, 0, none⟩), .int .i64 ((j : Int) + 1)] w fun e w' => e = .returned (.int .i64 0) ∧ DTo G B n y.g ρ w w' S' := by
  refine calls_of fun R HR => ?_
  have hkb := lookP_some hk
  have hbi : b ∈ S.its := (ok.pins _ hkb).2
  have hjl : (j : Int) + 1 ≤ S.last := (ok.pins _ hkb).1
  have hp := dpin_any ((j : Int) + 1) h ok hp1 hl
  unfold pinV at hp
  rw [hk] at hp
  have Hp := hid hp
  have hjn : j < S.last.toNat := by omega
  have hb := h.blk
  have hitb : blkOf w (ρ b) = some (.cells #[.string (S.it b).key, (S.it b).v, .int .u64 (S.it b).ch, .bool (S.it b).inn, .int .i64 (S.it b).pins] 133 (0, 0)) := h.its b hbi
  have lg := Blk.lt hb
  have lit := Blk.lt hitb
  have hne3 : y.g ≠ ρ b := blk_ty_ne hb hitb (by decide)
  have hpi := h.pin
  obtain ⟨m, hm⟩ : ∃ m : Nat, m = S.last.toNat := ⟨_, rfl⟩
  have HU : Hid (∀ w5 a2 c2, Below w.heap.size w w5 → w5.ownsRow w.heap.size 134 1 (.slice (some ⟨a2, 0, none⟩) m c2) m (pinCells S ρ) → DTo G B n y.g ρ w (((w5.setCell ⟨a2, j, none⟩ (.pointer none)).setCell ⟨y.g, 5, none⟩ (.slice (some ⟨a2, 0, none⟩) m c2)).setCell ⟨ρ b, 4, none⟩ (.int .i64 ((S.it b).pins - 1))) (S.unpinned ((j : Int) + 1) b)) :=
    hid (fun w5 a2 c2 h5 ho => by rw [hm] at ho ⊢; exact dfree_un (cur := #[]) h hbi hjn h5 ho)
  rw [← hm] at hb hpi hjn
  have hmN : m ≤ 8796093022000 := by omega
  have hm0 : 0 < m := by omega
  have Hm0 := hid hm0
  have Hrd := hid (Rd.of_own hpi)
  have hj0 : (0 : Int) ≤ (j : Int) := Int.natCast_nonneg _
  have hj1 : (j : Int) < (m : Int) := by omega
  have hjw : wrap64 ((j : Int) + 1 - 1) = (j : Int) := by unfold wrap64; omega
  have hji : (j : Int) + 1 - 1 = (j : Int) := by omega
  have hp63 : (S.it b).pins ≤ 8796093022000 := by have := (ok.pn b hbi).2; omega
  have hpge : 1 ≤ (S.it b).pins := by
    rcases hS with h | h | h
    · omega
    · omega
    · omega
  have hmake := World.ownsRow_made (e := 134) (size := 1) w #[] 0 (base := w.heap.size) (by omega) (by simp [maxLen]) (by simp)
  have Hmake := hid hmake
  obtain ⟨i0, hi0, hz0, hz1, hz2⟩ := info_parts Try.info134c
  have H := hid h; have Ok := hid ok; have Kk := hid kk; have Hbi := hid hbi; have Hl := hid hl; have HS := hid hS; have Hkb := hid hkb; have Hpn := hid hpn
  clear h ok kk hbi hl hS hkb hpn hp1 hk hp hpi hm hjl hm0 hmake
  go_enter Try.func67, Try.ntmps67
  go_upto_region 4 with (go_at_call 91; refine Hp.out.mono ?_; rintro e w1 ⟨rfl, hw1⟩; obtain rfl := hw1.symm)
  go_upto_region 8 with (at_builtin; refine wpList_append_rd _ rfl (.tmp 13) (.tmp 17) _ rfl w.heap.size 134 i0 _ 1 8 Try.underlying127 hi0 hz0 hz1 hz2 rfl (by decide) (.slice (some ⟨w.heap.size, 0, none⟩) 0 0) 0 [] rfl ?ho w.heap.size y.pa m y.pc (pinCells S ρ) rfl ?hr ?h1 ?h63 ?hb ?hbase ?hk; case' hk => (intro v2 w5 hown5 hg5 hat5; obtain ⟨a2, c2, cur, rfl, ha2, hcur, hcs, ho5⟩ := copy_row Hm0.out hown5; have hbl := bl_grown (bl_alloc (Below.refl w.heap.size w) _) hg5 (fun k hk => Nat.le_of_eq (Option.some.inj hk)); have f5 := (bl_at hbl y.g lg).trans hb; have f6 := (bl_at hbl (ρ b) lit).trans hitb; have n1 : a2 ≠ y.g := (by omega); have n2 : a2 ≠ ρ b := (by omega); have hjc : j < cur.size := (by omega); have ls := hbl.size; have la2 := Blk.lt hcur; have Hto := hid (HU.out w5 a2 c2 hbl ho5); clear hown5 hg5 hat5 hbl ho5))
  case ho => exact Hmake.out
  case hr => exact Hrd.out.alloc (Nat.le_refl _) _
  case h1 => intro u hu; unfold pinCells at hu; obtain ⟨k, _, rfl⟩ := List.mem_map.1 hu; unfold pinCell; split <;> rfl
  case h63 => simp only [maxLen]; omega
  case hb => omega
  case hbase => simp
  obtain ⟨w8, hw8⟩ : ∃ w8, w8 = (((w5.setCell ⟨a2, j, none⟩ (.pointer none)).setCell ⟨y.g, 5, none⟩ (.slice (some ⟨a2, 0, none⟩) m c2)).setCell ⟨ρ b, 4, none⟩ (.int .i64 ((S.it b).pins - 1))) := ⟨_, rfl⟩
  rw [← hw8] at Hto ⊢
  clear hw8
  obtain ⟨y8, e8g, d8, c8⟩ := Hto.out
  have e8 := d8.its b Hbi.out
  have e8' : blkOf w8 (ρ b) = some (.cells #[.string (S.it b).key, (S.it b).v, .int .u64 (S.it b).ch, .bool (S.it b).inn, .int .i64 ((S.it b).pins - 1)] 133 (0, 0)) := by
    have h1 : blkOf w8 (ρ b) = some (.cells (itCells ((S.unpinned ((j : Int) + 1) b).it b)) 133 (0, 0)) := e8
    have h2 : (S.unpinned ((j : Int) + 1) b).it b = { S.it b with pins := (S.it b).pins - 1 } := upd_same _ _ _
    rw [h1, h2]; rfl
  have lit8 := Blk.lt e8'
  have hs := sidx_lt h0 (S.it b).key
  have hksz : (S.it b).key.size ≤ maxLen := by have := Ok.out.ksz b Hbi.out; simp only [maxLen]; omega
  have Hsh := hid (dshard_any y8.g (S.it b).key n _ w8 d8.blk rfl h0 h1 hksz)
  have ok8 := Ok.out.unpinned Hkb.out Hpn.out
  have kk8 := Kk.out.unpinned ((j : Int) + 1) b
  obtain ⟨s, hse⟩ : ∃ s, s = sidx n (S.it b).key := ⟨_, rfl⟩
  rw [← hse] at hs Hsh
  rw [e8g] at Hsh
  have HS' : Hid ((1 < (S.it b).pins ∧ S' = S.unpinned ((j : Int) + 1) b) ∨ ((S.it b).pins = 1 ∧ (S.it b).inn = true ∧ ∃ T I, Made 0 (S.room / n) (((S.unpinned ((j : Int) + 1) b).waits s b).sh s) (S.unpinned ((j : Int) + 1) b).it T I ∧ S' = (S.unpinned ((j : Int) + 1) b).turn s T I) ∨ ((S.it b).pins = 1 ∧ (S.it b).inn = false ∧ S' = (S.unpinned ((j : Int) + 1) b).goneAt s b)) := hid (by rw [hse]; exact HS.out)
  have D8 := hid d8; have C8 := hid c8; have Ok8 := hid ok8; have Kk8 := hid kk8; have E8g := hid e8g; have Hse := hid hse; have Hs := hid hs
  clear HS e8 d8 c8 ok8 kk8 e8g hse hksz hs HU Hrd Hmake f5 f6 hcur hcs hjc la2 n1 n2 ha2 ls hjw hji Hp hb hitb lit hj0 hj1 hjn
  rcases HS'.out with ⟨c1, c2⟩ | ⟨c1, c2, T, I, c3, c4⟩ | ⟨c1, c2, c3⟩
  · have hpos : (0 : Int) < (S.it b).pins - 1 := by omega
    have C2 := hid c2
    clear c2 c1
    go_wp2
    refine HR.out _ _ ⟨rfl, ?_⟩
    rw [C2.out]; exact Hto.out
  · have hpos : ¬ ((0 : Int) < (S.it b).pins - 1) := by omega
    rw [c2] at e8'
    have hbal : b ∈ (S.sh s).al := by have := Ok.out.pinal _ Hkb.out; rw [Hse.out]; exact this
    have hbw : b ∉ (S.sh s).wt := fun hm => by have := Ok.out.w0 s Hs.out b hm; omega
    have ok9 : COk n ((S.unpinned ((j : Int) + 1) b).waits s b) := Ok8.out.waits Hs.out hbal (by show (upd S.it b _ b).pins = 0; rw [upd_same]; show (S.it b).pins - 1 = 0; omega) hbw
    have kk9 : KOk n ((S.unpinned ((j : Int) + 1) b).waits s b) := Kk8.out.wt Hs.out _
    have g1 := D8.out.blk
    rw [E8g.out] at g1
    have g3 := D8.out.wrow
    obtain ⟨WC, hWC⟩ : ∃ WC, WC = y8.wcells n (S.unpinned ((j : Int) + 1) b) := ⟨_, rfl⟩
    rw [← hWC] at g3
    have k3 : WC[s]? = some (.slice (y8.wa s) (S.sh s).wt.length (y8.wc s)) := by
      have := D8.out.wcell Hs.out
      rw [D8.out.wrow, ← hWC] at this; exact this
    have hWs : s < WC.size := (Array.getElem?_eq_some_iff.1 k3).1
    have e1 : WC[s]'hWs = .slice (y8.wa s) (S.sh s).wt.length (y8.wc s) := by have := k3; rw [Array.getElem?_eq_getElem hWs] at this; exact Option.some.inj this
    have lg1 := Blk.lt g1
    have lw1 := Blk.lt g3
    have hrow := D8.out.W s Hs.out
    have hmN : (S.sh s).wt.length ≤ 8796093022000 := by
      have := (DOk.of Ok.out Kk.out.aln).wlen Hs.out
      have := Hl.out
      omega
    obtain ⟨AW, hAW⟩ : ∃ AW, AW = y8.wa s := ⟨_, rfl⟩
    obtain ⟨mW, hmW⟩ : ∃ mW, mW = (S.sh s).wt.length := ⟨_, rfl⟩
    obtain ⟨cW, hcW⟩ : ∃ cW, cW = y8.wc s := ⟨_, rfl⟩
    have hrow : w8.ownsRow B 134 1 (.slice (y8.wa s) (S.sh s).wt.length (y8.wc s)) (S.sh s).wt.length (ptrs ((S.sh s).wt.map ρ)) := hrow
    obtain ⟨XS, hXS⟩ : ∃ XS, XS = ptrs ((S.sh s).wt.map ρ) := ⟨_, rfl⟩
    have HX1 : Hid (∀ u ∈ XS, u.oneCell' = true) := hid (by rw [hXS]; exact ptrs_one _)
    rw [← hAW, ← hmW, ← hcW, ← hXS] at hrow
    rw [← hAW, ← hmW, ← hcW] at e1
    rw [← hmW] at hmN
    have Hrd := hid (Rd.of_own hrow)
    have HmW := hid hmW; have HXS := hid hXS; have Ok9 := hid ok9; have Kk9 := hid kk9; have C3 := hid c3; have C4 := hid c4
    have hs0 : (0 : Int) ≤ (s : Int) := Int.natCast_nonneg _
    have hs1 : (s : Int) < (n : Int) := by have := Hs.out; omega
    clear hWC k3 hAW hmW hcW hXS hrow ok9 kk9 c3 c4 c1 hbal hbw
    go_upto_region 14 with (go_at_call 37; refine Hsh.out.mono ?_; rintro e w9 ⟨rfl, hw9⟩; obtain rfl := hw9.symm)
    clear c2 e8' lit8 Hsh
    refine wp_region_T (fun W => blkOf W y.g = some (.cells #[.int .i64 n, .int .u64 (S.unpinned ((j : Int) + 1) b).room, .bool (S.unpinned ((j : Int) + 1) b).st, .slice (some ⟨y8.lr, 0, none⟩) n n, .slice (some ⟨y8.wr, 0, none⟩) n n, .slice y8.pa (S.unpinned ((j : Int) + 1) b).last.toNat y8.pc] 129 (0, 0)) ∧ blkOf W y8.wr = some (.cells WC 127 (0, 0))) 18 [] (by kernel_rfl) (by kernel_rfl) ⟨g1, g3⟩ ?_
    refine GoT.take 0 (v := ?vp0) rfl (by kernel_rfl) (fun _ _ _ h => h) (Or.inl ⟨by rfl, ?yp0⟩) ?rp0
    case yp0 => (intro W hSw; (try dsimp only at hSw); go_simp; try with_reducible rfl)
    try simp only [Act.put, List.setIfInBounds_toArray, List.set_cons_zero, List.set_cons_succ]
    refine GoT.take 1 (v := ?vp1) rfl (by kernel_rfl) (fun _ _ _ h => h) (Or.inl ⟨by rfl, ?yp1⟩) ?rp1
    case yp1 => (intro W hSw; (try dsimp only at hSw); go_simp; try with_reducible rfl)
    try simp only [Act.put, List.setIfInBounds_toArray, List.set_cons_zero, List.set_cons_succ]
    refine GoT.take 2 (v := ?vp2) rfl (by kernel_rfl) (fun _ _ _ h => h) (Or.inl ⟨by rfl, ?yp2⟩) ?rp2
    case yp2 => (intro W hSw; (try dsimp only at hSw); go_simp; try with_reducible rfl)
    try simp only [Act.put, List.setIfInBounds_toArray, List.set_cons_zero, List.set_cons_succ]
    refine GoT.take 3 (v := ?vp3) rfl (by kernel_rfl) (fun _ _ _ h => h) (Or.inl ⟨by rfl, ?yp3⟩) ?rp3
    case yp3 => (intro W hSw; (try dsimp only at hSw); go_simp; try with_reducible rfl)
    try simp only [Act.put, List.setIfInBounds_toArray, List.set_cons_zero, List.set_cons_succ]
    refine GoT.take 4 (v := ?vp4) rfl (by kernel_rfl) (fun _ _ _ h => h) (Or.inl ⟨by rfl, ?yp4⟩) ?rp4
    case yp4 => (intro W hSw; (try dsimp only at hSw); go_simp; try with_reducible rfl)
    try simp only [Act.put, List.setIfInBounds_toArray, List.set_cons_zero, List.set_cons_succ]
    refine GoT.take 6 (v := ?vp6) rfl (by kernel_rfl) (fun _ _ _ h => h) (Or.inl ⟨by rfl, ?yp6⟩) ?rp6
    case yp6 => (intro W hSw; (try dsimp only at hSw); go_simp; try with_reducible rfl)
    try simp only [Act.put, List.setIfInBounds_toArray, List.set_cons_zero, List.set_cons_succ]
    refine GoT.take 7 (v := ?vp7) rfl (by kernel_rfl) (fun _ _ _ h => h) (Or.inl ⟨by rfl, ?yp7⟩) ?rp7
    case yp7 => (intro W hSw; (try dsimp only at hSw); go_simp; try with_reducible rfl)
    try simp only [Act.put, List.setIfInBounds_toArray, List.set_cons_zero, List.set_cons_succ]
    refine GoT.take 8 (v := ?vp8) rfl (by kernel_rfl) (fun _ _ _ h => h) (Or.inl ⟨by rfl, ?yp8⟩) ?rp8
    case yp8 => (intro W hSw; (try dsimp only at hSw); go_simp; try with_reducible rfl)
    try simp only [Act.put, List.setIfInBounds_toArray, List.set_cons_zero, List.set_cons_succ]
    refine GoT.take 9 (v := ?vp9) rfl (by kernel_rfl) (fun _ _ _ h => h) (Or.inl ⟨by rfl, ?yp9⟩) ?rp9
    case yp9 => (intro W hSw; (try dsimp only at hSw); go_simp; try with_reducible rfl)
    try simp only [Act.put, List.setIfInBounds_toArray, List.set_cons_zero, List.set_cons_succ]
    refine GoT.take 10 (v := ?vp10) rfl (by kernel_rfl) (fun _ _ _ h => h) (Or.inl ⟨by rfl, ?yp10⟩) ?rp10
    case yp10 => (intro W hSw; (try dsimp only at hSw); go_simp; try with_reducible rfl)
    try simp only [Act.put, List.setIfInBounds_toArray, List.set_cons_zero, List.set_cons_succ]
    refine GoT.take 11 (v := ?vp11) rfl (by kernel_rfl) (fun _ _ _ h => h) (Or.inl ⟨by rfl, ?yp11⟩) ?rp11
    case yp11 => (intro W hSw; (try dsimp only at hSw); go_simp; try with_reducible rfl)
    try simp only [Act.put, List.setIfInBounds_toArray, List.set_cons_zero, List.set_cons_succ]
    refine GoT.take 12 (v := ?vp12) rfl (by kernel_rfl) (fun _ _ _ h => h) (Or.inl ⟨by rfl, ?yp12⟩) ?rp12
    case yp12 => (intro W hSw; (try dsimp only at hSw); go_simp; try with_reducible rfl)
    try simp only [Act.put, List.setIfInBounds_toArray, List.set_cons_zero, List.set_cons_succ]
    refine GoT.take 14 (v := ?vp14) rfl (by kernel_rfl) (fun _ _ _ h => h) (Or.inl ⟨by rfl, ?yp14⟩) ?rp14
    case yp14 => (intro W hSw; (try dsimp only at hSw); go_simp; try with_reducible rfl)
    try simp only [Act.put, List.setIfInBounds_toArray, List.set_cons_zero, List.set_cons_succ]
    have hE := World.ownsRow_made (e := 134) (size := 1) w8 #[] 0 (base := w8.heap.size) (Nat.le_refl _) (by simp [maxLen]) (by simp)
    have HE := hid hE
    clear hE
    refine GoT.all [5, 15] (by kernel_rfl) rfl ?_
    refine AllT.cons (i := 5) rfl (fun K hK => ?_) (AllT.cons (i := 15) rfl (fun K hK => ?_) AllT.nil)
    · go_simp
      refine hK.out _ _ (fun _ => ⟨by go_simp, by go_simp⟩) ?_
      clear hK K
      try simp only [Act.put, List.setIfInBounds_toArray, List.set_cons_zero, List.set_cons_succ]
      refine GoT.all [13, 15] (by kernel_rfl) rfl ?_
      refine AllT.cons (i := 13) rfl (fun K hK => ?_) (AllT.cons (i := 15) rfl (fun K hK => ?_) AllT.nil)
      · refine step_append_rd _ rfl (.tmp 59) (.tmp 66) _ rfl w8.heap.size 134 i0 _ 1 8 Try.underlying127 hi0 hz0 hz1 hz2 rfl (by decide) (.slice (some ⟨w8.heap.size, 0, none⟩) 0 0) 0 [] rfl (own_drew HE.out) w8.heap.size AW mW cW XS rfl (Hrd.out.alloc (Nat.le_refl _) _) HX1.out (by simp only [maxLen]; omega) (by omega) (by simp; try omega) ?_
        intro v1 w5 hown5 hg5 hat5
        have hbl5 : Below w8.heap.size w8 w5 := bl_grown (Below.drew (bl_alloc (Below.refl _ _) _)) hg5 (fun k hk => Nat.le_of_eq (Option.some.inj hk))
        obtain ⟨A1, c1, rfl, _⟩ := own_shape hown5
        rw [Nat.zero_add, List.nil_append] at hown5
        refine hK.out _ _ (fun _ => ⟨(bl_at hbl5 _ lg1).trans g1, (bl_at hbl5 _ lw1).trans g3⟩) ?_
        clear hK K
        try simp only [Act.put, List.setIfInBounds_toArray, List.set_cons_zero, List.set_cons_succ]
        simp only [Nat.zero_add]
        refine GoT.all [15] (by kernel_rfl) rfl ?_
        refine AllT.cons (i := 15) rfl (fun K hK => ?_) AllT.nil
        go_simp
        refine hK.out _ _ (fun _ => ⟨(bl_at (bl_alloc hbl5 _) _ lg1).trans g1, (bl_at (bl_alloc hbl5 _) _ lw1).trans g3⟩) ?_
        clear hK K
        try simp only [Act.put, List.setIfInBounds_toArray, List.set_cons_zero, List.set_cons_succ]
        refine GoT.all [16] (by kernel_rfl) rfl ?_
        refine AllT.cons (i := 16) rfl (fun K hK => ?_) AllT.nil
        refine step_append_rd _ rfl (.tmp 67) (.tmp 69) _ rfl w8.heap.size 134 i0 _ 1 8 Try.underlying127 hi0 hz0 hz1 hz2 rfl (by decide) (.slice A1 mW c1) mW XS rfl (hown5.alloc _) (w5.heap.size + 1) (some ⟨w5.heap.size, 0, none⟩) 1 1 [.pointer (some ⟨ρ b, 0, none⟩)] rfl (rd_new w5 134 1 1 [.pointer (some ⟨ρ b, 0, none⟩)] rfl) (by simp [Value.oneCell']) (by simp only [maxLen]; omega) (by omega) (by have := hbl5.size; simp; try omega) ?_
        intro v2 w6 hown6 hg6 hat6
        have hbl6 : Below w8.heap.size w8 w6 := bl_grown (bl_alloc hbl5 _) hg6 (fun k hk => (hown5.lt k hk).1)
        obtain ⟨A2, c2, rfl, _⟩ := own_shape hown6
        have q1 := (bl_at hbl6 _ lg1).trans g1
        have q3 := (bl_at hbl6 _ lw1).trans g3
        have lw6 := Blk.lt q3
        refine hK.out _ _ (fun _ => ⟨q1, q3⟩) ?_
        clear hK K
        try simp only [Act.put, List.setIfInBounds_toArray, List.set_cons_zero, List.set_cons_succ]
        have OW6 := hid hown6; have BL6 := hid hbl6
        clear hown6 hbl6 hg6 hat6 hg5 hat5 hown5 hbl5
        refine GoT.take 17 (v := ?vpa17) rfl (by kernel_rfl) (fun _ _ _ h => h) (Or.inl ⟨by rfl, ?ypa17⟩) ?rpa17
        case ypa17 => (intro W hSw; (try dsimp only at hSw); go_simp; try with_reducible rfl)
        try simp only [Act.put, List.setIfInBounds_toArray, List.set_cons_zero, List.set_cons_succ]
        refine GoT.all [18] (by kernel_rfl) rfl ?_
        refine AllT.cons (i := 18) rfl (fun K hK => ?_) AllT.nil
        go_simp
        refine hK.out _ _ (fun h => absurd h (by decide)) ?_
        clear hK K
        try simp only [Act.put, List.setIfInBounds_toArray, List.set_cons_zero, List.set_cons_succ]
        refine GoT.done (by kernel_rfl) ?_ _
        obtain ⟨wz, hwz⟩ : ∃ wz, wz = w6.setCell ⟨y8.wr, s, none⟩ (.slice A2 (mW + 1) c2) := ⟨_, rfl⟩
        rw [← hwz]
        have hto : DTo (more G w w8) B n y8.g ρ w8 wz ((S.unpinned ((j : Int) + 1) b).waits s b) := by
          rw [hwz]
          refine dput_wt (wt := (S.sh s).wt ++ [b]) D8.out BL6.out Hs.out (by rw [HmW.out]; simp) ?_
          have ho := OW6.out
          rw [HXS.out] at ho
          have e : ptrs (((S.sh s).wt ++ [b]).map ρ) = ptrs ((S.sh s).wt.map ρ) ++ [.pointer (some ⟨ρ b, 0, none⟩)] := by simp [ptrs]
          rw [e]; exact ho
        obtain ⟨yz, eyz, dz, cz⟩ := hto
        have Hmk : Hid (Calls Try.prog 84 #[.pointer (some ⟨y.g, 0, none⟩), .int .i64 s, .int .u64 0] wz fun e w' => e = .returned (.tuple #[]) ∧ DTo G B n y.g ρ w w' S') := hid (by
          have := dmakes_any s 0 dz Ok9.out Kk9.out.aln Hs.out h1 (by decide) Hl.out C3.out
          rw [eyz, E8g.out] at this
          refine this.mono ?_
          rintro e w' ⟨k1, k2⟩
          refine ⟨k1, DTo.trans H.out.lt H.out.base (fun k hk => hk) C8.out (DTo.trans D8.out.lt D8.out.base (fun k hk => hk) cz ?_)⟩
          have e2 : ((S.unpinned ((j : Int) + 1) b).waits s b).turn s T I = S' := by rw [C4.out]; exact turn_turn _ _ _ _ _ _
          rw [e2] at k2; exact k2)
        clear hwz dz cz eyz q1 q3 lw6 g1 g3 lg1 lw1 e1 hWs
        go_wp2_with (go_at_call 84; refine Hmk.out.mono ?_; rintro e w9 ⟨rfl, hto9⟩; have Hto9 := hid hto9; clear hto9)
        exact HR.out _ _ ⟨rfl, Hto9.out⟩
      · go_simp
        refine hK.out _ _ (fun _ => ⟨by go_simp, by go_simp⟩) ?_
        clear hK K
        try simp only [Act.put, List.setIfInBounds_toArray, List.set_cons_zero, List.set_cons_succ]
        refine GoT.all [13] (by kernel_rfl) rfl ?_
        refine AllT.cons (i := 13) rfl (fun K hK => ?_) AllT.nil
        refine step_append_rd _ rfl (.tmp 59) (.tmp 66) _ rfl w8.heap.size 134 i0 _ 1 8 Try.underlying127 hi0 hz0 hz1 hz2 rfl (by decide) (.slice (some ⟨w8.heap.size, 0, none⟩) 0 0) 0 [] rfl (own_drew (HE.out.alloc _)) w8.heap.size AW mW cW XS rfl ((Hrd.out.alloc (Nat.le_refl _) _).alloc (by simp) _) HX1.out (by simp only [maxLen]; omega) (by omega) (by simp; try omega) ?_
        intro v1 w5 hown5 hg5 hat5
        have hbl5 : Below w8.heap.size w8 w5 := bl_grown (Below.drew (bl_alloc (bl_alloc (Below.refl _ _) _) _)) hg5 (fun k hk => Nat.le_of_eq (Option.some.inj hk))
        obtain ⟨A1, c1, rfl, _⟩ := own_shape hown5
        rw [Nat.zero_add, List.nil_append] at hown5
        refine hK.out _ _ (fun _ => ⟨(bl_at hbl5 _ lg1).trans g1, (bl_at hbl5 _ lw1).trans g3⟩) ?_
        clear hK K
        try simp only [Act.put, List.setIfInBounds_toArray, List.set_cons_zero, List.set_cons_succ]
        simp only [Nat.zero_add]
        refine GoT.all [16] (by kernel_rfl) rfl ?_
        refine AllT.cons (i := 16) rfl (fun K hK => ?_) AllT.nil
        have hx5 : blkOf w5 (w8.heap.size + 1) = some (.cells #[.pointer (some ⟨ρ b, 0, none⟩)] 134 (0, 0)) := (gr_at hg5 (by first | (simp; done) | (simp; omega)) (fun e => by have e' : w8.heap.size = w8.heap.size + 1 := Option.some.inj e; omega)).trans (by go_simp)
        refine step_append_rd _ rfl (.tmp 67) (.tmp 69) _ rfl w8.heap.size 134 i0 _ 1 8 Try.underlying127 hi0 hz0 hz1 hz2 rfl (by decide) (.slice A1 mW c1) mW XS rfl hown5 (w8.heap.size + 1 + 1) (some ⟨w8.heap.size + 1, 0, none⟩) 1 1 [.pointer (some ⟨ρ b, 0, none⟩)] rfl (rd_blkc (xs := [.pointer (some ⟨ρ b, 0, none⟩)]) hx5 rfl) (by simp [Value.oneCell']) (by simp only [maxLen]; omega) (by omega) (by have := hbl5.size; simp; try omega) ?_
        intro v2 w6 hown6 hg6 hat6
        have hbl6 : Below w8.heap.size w8 w6 := bl_grown hbl5 hg6 (fun k hk => (hown5.lt k hk).1)
        obtain ⟨A2, c2, rfl, _⟩ := own_shape hown6
        have q1 := (bl_at hbl6 _ lg1).trans g1
        have q3 := (bl_at hbl6 _ lw1).trans g3
        have lw6 := Blk.lt q3
        refine hK.out _ _ (fun _ => ⟨q1, q3⟩) ?_
        clear hK K
        try simp only [Act.put, List.setIfInBounds_toArray, List.set_cons_zero, List.set_cons_succ]
        have OW6 := hid hown6; have BL6 := hid hbl6
        clear hown6 hbl6 hg6 hat6 hg5 hat5 hown5 hbl5
        refine GoT.take 17 (v := ?vpb17) rfl (by kernel_rfl) (fun _ _ _ h => h) (Or.inl ⟨by rfl, ?ypb17⟩) ?rpb17
        case ypb17 => (intro W hSw; (try dsimp only at hSw); go_simp; try with_reducible rfl)
        try simp only [Act.put, List.setIfInBounds_toArray, List.set_cons_zero, List.set_cons_succ]
        refine GoT.all [18] (by kernel_rfl) rfl ?_
        refine AllT.cons (i := 18) rfl (fun K hK => ?_) AllT.nil
        go_simp
        refine hK.out _ _ (fun h => absurd h (by decide)) ?_
        clear hK K
        try simp only [Act.put, List.setIfInBounds_toArray, List.set_cons_zero, List.set_cons_succ]
        refine GoT.done (by kernel_rfl) ?_ _
        obtain ⟨wz, hwz⟩ : ∃ wz, wz = w6.setCell ⟨y8.wr, s, none⟩ (.slice A2 (mW + 1) c2) := ⟨_, rfl⟩
        rw [← hwz]
        have hto : DTo (more G w w8) B n y8.g ρ w8 wz ((S.unpinned ((j : Int) + 1) b).waits s b) := by
          rw [hwz]
          refine dput_wt (wt := (S.sh s).wt ++ [b]) D8.out BL6.out Hs.out (by rw [HmW.out]; simp) ?_
          have ho := OW6.out
          rw [HXS.out] at ho
          have e : ptrs (((S.sh s).wt ++ [b]).map ρ) = ptrs ((S.sh s).wt.map ρ) ++ [.pointer (some ⟨ρ b, 0, none⟩)] := by simp [ptrs]
          rw [e]; exact ho
        obtain ⟨yz, eyz, dz, cz⟩ := hto
        have Hmk : Hid (Calls Try.prog 84 #[.pointer (some ⟨y.g, 0, none⟩), .int .i64 s, .int .u64 0] wz fun e w' => e = .returned (.tuple #[]) ∧ DTo G B n y.g ρ w w' S') := hid (by
          have := dmakes_any s 0 dz Ok9.out Kk9.out.aln Hs.out h1 (by decide) Hl.out C3.out
          rw [eyz, E8g.out] at this
          refine this.mono ?_
          rintro e w' ⟨k1, k2⟩
          refine ⟨k1, DTo.trans H.out.lt H.out.base (fun k hk => hk) C8.out (DTo.trans D8.out.lt D8.out.base (fun k hk => hk) cz ?_)⟩
          have e2 : ((S.unpinned ((j : Int) + 1) b).waits s b).turn s T I = S' := by rw [C4.out]; exact turn_turn _ _ _ _ _ _
          rw [e2] at k2; exact k2)
        clear hwz dz cz eyz q1 q3 lw6 g1 g3 lg1 lw1 e1 hWs
        go_wp2_with (go_at_call 84; refine Hmk.out.mono ?_; rintro e w9 ⟨rfl, hto9⟩; have Hto9 := hid hto9; clear hto9)
        exact HR.out _ _ ⟨rfl, Hto9.out⟩
    · go_simp
      refine hK.out _ _ (fun _ => ⟨by go_simp, by go_simp⟩) ?_
      clear hK K
      try simp only [Act.put, List.setIfInBounds_toArray, List.set_cons_zero, List.set_cons_succ]
      refine GoT.all [5] (by kernel_rfl) rfl ?_
      refine AllT.cons (i := 5) rfl (fun K hK => ?_) AllT.nil
      go_simp
      refine hK.out _ _ (fun _ => ⟨by go_simp, by go_simp⟩) ?_
      clear hK K
      try simp only [Act.put, List.setIfInBounds_toArray, List.set_cons_zero, List.set_cons_succ]
      refine GoT.all [13] (by kernel_rfl) rfl ?_
      refine AllT.cons (i := 13) rfl (fun K hK => ?_) AllT.nil
      have hE2 := World.ownsRow_made (e := 134) (size := 1) (w8.alloc (.cells #[.pointer (some ⟨ρ b, 0, none⟩)] 134)) #[] 0 (base := w8.heap.size) (by simp) (by simp [maxLen]) (by simp)
      rw [World.size_alloc] at hE2
      refine step_append_rd _ rfl (.tmp 59) (.tmp 66) _ rfl w8.heap.size 134 i0 _ 1 8 Try.underlying127 hi0 hz0 hz1 hz2 rfl (by decide) (.slice (some ⟨w8.heap.size + 1, 0, none⟩) 0 0) 0 [] rfl (own_drew hE2) w8.heap.size AW mW cW XS rfl ((Hrd.out.alloc (Nat.le_refl _) _).alloc (by simp) _) HX1.out (by simp only [maxLen]; omega) (by omega) (by simp; try omega) ?_
      intro v1 w5 hown5 hg5 hat5
      have hbl5 : Below w8.heap.size w8 w5 := bl_grown (Below.drew (bl_alloc (bl_alloc (Below.refl _ _) _) _)) hg5 (fun k hk => (by have e : w8.heap.size + 1 = k := Option.some.inj hk; omega))
      obtain ⟨A1, c1, rfl, _⟩ := own_shape hown5
      rw [Nat.zero_add, List.nil_append] at hown5
      refine hK.out _ _ (fun _ => ⟨(bl_at hbl5 _ lg1).trans g1, (bl_at hbl5 _ lw1).trans g3⟩) ?_
      clear hK K
      try simp only [Act.put, List.setIfInBounds_toArray, List.set_cons_zero, List.set_cons_succ]
      simp only [Nat.zero_add]
      refine GoT.all [16] (by kernel_rfl) rfl ?_
      refine AllT.cons (i := 16) rfl (fun K hK => ?_) AllT.nil
      have hx5 : blkOf w5 (w8.heap.size) = some (.cells #[.pointer (some ⟨ρ b, 0, none⟩)] 134 (0, 0)) := (gr_at hg5 (by first | (simp; done) | (simp; omega)) (fun e => by have e' : w8.heap.size + 1 = w8.heap.size := Option.some.inj e; omega)).trans (by go_simp)
      refine step_append_rd _ rfl (.tmp 67) (.tmp 69) _ rfl w8.heap.size 134 i0 _ 1 8 Try.underlying127 hi0 hz0 hz1 hz2 rfl (by decide) (.slice A1 mW c1) mW XS rfl hown5 (w8.heap.size + 1) (some ⟨w8.heap.size, 0, none⟩) 1 1 [.pointer (some ⟨ρ b, 0, none⟩)] rfl (rd_blkc (xs := [.pointer (some ⟨ρ b, 0, none⟩)]) hx5 rfl) (by simp [Value.oneCell']) (by simp only [maxLen]; omega) (by omega) (by have := hbl5.size; simp; try omega) ?_
      intro v2 w6 hown6 hg6 hat6
      have hbl6 : Below w8.heap.size w8 w6 := bl_grown hbl5 hg6 (fun k hk => (hown5.lt k hk).1)
      obtain ⟨A2, c2, rfl, _⟩ := own_shape hown6
      have q1 := (bl_at hbl6 _ lg1).trans g1
      have q3 := (bl_at hbl6 _ lw1).trans g3
      have lw6 := Blk.lt q3
      refine hK.out _ _ (fun _ => ⟨q1, q3⟩) ?_
      clear hK K
      try simp only [Act.put, List.setIfInBounds_toArray, List.set_cons_zero, List.set_cons_succ]
      have OW6 := hid hown6; have BL6 := hid hbl6
      clear hown6 hbl6 hg6 hat6 hg5 hat5 hown5 hbl5
      refine GoT.take 17 (v := ?vpc17) rfl (by kernel_rfl) (fun _ _ _ h => h) (Or.inl ⟨by rfl, ?ypc17⟩) ?rpc17
      case ypc17 => (intro W hSw; (try dsimp only at hSw); go_simp; try with_reducible rfl)
      try simp only [Act.put, List.setIfInBounds_toArray, List.set_cons_zero, List.set_cons_succ]
      refine GoT.all [18] (by kernel_rfl) rfl ?_
      refine AllT.cons (i := 18) rfl (fun K hK => ?_) AllT.nil
      go_simp
      refine hK.out _ _ (fun h => absurd h (by decide)) ?_
      clear hK K
      try simp only [Act.put, List.setIfInBounds_toArray, List.set_cons_zero, List.set_cons_succ]
      refine GoT.done (by kernel_rfl) ?_ _
      obtain ⟨wz, hwz⟩ : ∃ wz, wz = w6.setCell ⟨y8.wr, s, none⟩ (.slice A2 (mW + 1) c2) := ⟨_, rfl⟩
      rw [← hwz]
      have hto : DTo (more G w w8) B n y8.g ρ w8 wz ((S.unpinned ((j : Int) + 1) b).waits s b) := by
        rw [hwz]
        refine dput_wt (wt := (S.sh s).wt ++ [b]) D8.out BL6.out Hs.out (by rw [HmW.out]; simp) ?_
        have ho := OW6.out
        rw [HXS.out] at ho
        have e : ptrs (((S.sh s).wt ++ [b]).map ρ) = ptrs ((S.sh s).wt.map ρ) ++ [.pointer (some ⟨ρ b, 0, none⟩)] := by simp [ptrs]
        rw [e]; exact ho
      obtain ⟨yz, eyz, dz, cz⟩ := hto
      have Hmk : Hid (Calls Try.prog 84 #[.pointer (some ⟨y.g, 0, none⟩), .int .i64 s, .int .u64 0] wz fun e w' => e = .returned (.tuple #[]) ∧ DTo G B n y.g ρ w w' S') := hid (by
        have := dmakes_any s 0 dz Ok9.out Kk9.out.aln Hs.out h1 (by decide) Hl.out C3.out
        rw [eyz, E8g.out] at this
        refine this.mono ?_
        rintro e w' ⟨k1, k2⟩
        refine ⟨k1, DTo.trans H.out.lt H.out.base (fun k hk => hk) C8.out (DTo.trans D8.out.lt D8.out.base (fun k hk => hk) cz ?_)⟩
        have e2 : ((S.unpinned ((j : Int) + 1) b).waits s b).turn s T I = S' := by rw [C4.out]; exact turn_turn _ _ _ _ _ _
        rw [e2] at k2; exact k2)
      clear hwz dz cz eyz q1 q3 lw6 g1 g3 lg1 lw1 e1 hWs
      go_wp2_with (go_at_call 84; refine Hmk.out.mono ?_; rintro e w9 ⟨rfl, hto9⟩; have Hto9 := hid hto9; clear hto9)
      exact HR.out _ _ ⟨rfl, Hto9.out⟩
  · have hpos : ¬ ((0 : Int) < (S.it b).pins - 1) := by omega
    rw [c2] at e8'
    have Hg : Hid (Calls Try.prog 92 #[.pointer (some ⟨y.g, 0, none⟩), .int .i64 s, .pointer (some ⟨ρ b, 0, none⟩)] w8 fun e w' => e = .returned (.tuple #[]) ∧ DTo G B n y.g ρ w w' S') := hid (by
      have := dgone_any s b D8.out (DOk.of Ok8.out Kk8.out.aln) Hs.out Hbi.out Hl.out
      rw [E8g.out] at this
      refine this.mono ?_
      rintro e w' ⟨k1, k2⟩
      refine ⟨k1, DTo.trans H.out.lt H.out.base (fun k hk => hk) C8.out ?_⟩
      rw [c3]; exact k2)
    clear c1 c2 c3
    go_wp2_with (first
      | (go_at_call 92; refine Hg.out.mono ?_; rintro e w9 ⟨rfl, hto9⟩; have Hto9 := hid hto9; clear hto9)
      | (go_at_call 37; refine Hsh.out.mono ?_; rintro e w9 ⟨rfl, hw9⟩; obtain rfl := hw9.symm))
    exact HR.out _ _ ⟨rfl, Hto9.out⟩
end
end Go.Proofs.Ytbiaelaaihieeaa
/- The document's cache: an entry added. -/
namespace Go.Proofs.Ytbiaelaaihieeaa
open Go.RowKit
theorem map_putAt {l : List Nat} {ρ : Nat → Nat} {nb nd : Nat} (h : nb ∉ l) : l.map (putAt ρ nb nd) = l.map ρ := by
  apply List.map_congr_left
  intro c hc
  exact putAt_ne _ _ (fun e => h (by rw [← e]; exact hc))
section
variable {G : Nat → Prop} {B : Nat} {w w' : World} {n g : Nat} {y : DL} {S S' : CS} {ρ : Nat → Nat}
/-- A new entry that stands in no row yet. -/
theorem DAt.new_it {nb nd : Nat} {a : It} (h : DAt G B w n y S ρ) (ok : DOk n S) (hp : ∀ p ∈ S.pins, p.2 ∈ S.its) (hnb : nb ∉ S.its) (hnd : ∀ k, G k → k ≠ nd) (hI : DItAt w nd a) (hB : B ≤ nd) :
    DAt (fun k => G k ∨ k = nd) B w n y { S with it := upd S.it nb a, its := S.its ++ [nb] } (putAt ρ nb nd) := by
  obtain ⟨g1, g2, g3, g4, g5, g6⟩ := h.gb
  have hwi : ∀ i, i < n → nb ∉ (S.sh i).wt := fun i hi hm => hnb (ok.al i hi nb (ok.sub i hi nb hm))
  have hai : ∀ i, i < n → nb ∉ (S.sh i).al := fun i hi hm => hnb (ok.al i hi nb hm)
  have hpc : pinCells ({ S with it := upd S.it nb a, its := S.its ++ [nb] } : CS) (putAt ρ nb nd) = pinCells S ρ := by
    unfold pinCells
    apply List.map_congr_left
    intro k _
    unfold pinCell
    show (match lookP S.pins ((k : Int) + 1) with | some b => Value.pointer (some ⟨putAt ρ nb nd b, 0, none⟩) | none => .pointer none) = _
    cases hl : lookP S.pins ((k : Int) + 1) with
    | none => rfl
    | some b =>
      have hb := hp _ (lookP_some hl)
      show Value.pointer (some ⟨putAt ρ nb nd b, 0, none⟩) = .pointer (some ⟨ρ b, 0, none⟩)
      rw [putAt_ne _ _ (fun e => hnb (by rw [← e]; exact hb))]
  refine ⟨h.blk, h.lrow, h.wrow, h.ne, fun i hi => ?_, fun i hi => ?_, fun b hb => ?_, fun b hb c hc e => ?_, by rw [hpc]; exact h.pin, h.pl, ⟨.inl g1, .inl g2, .inl g3, fun b hb => ?_, fun i hi k hk => .inl (g5 i hi k hk), fun k hk => .inl (g6 k hk)⟩, fun k hk => ?_⟩
  · show w.ownsRow B 134 1 _ _ (ptrs ((S.sh i).al.map (putAt ρ nb nd)))
    rw [map_putAt (hai i hi)]; exact h.L i hi
  · show w.ownsRow B 134 1 _ _ (ptrs ((S.sh i).wt.map (putAt ρ nb nd)))
    rw [map_putAt (hwi i hi)]; exact h.W i hi
  · show DItAt w (putAt ρ nb nd b) (upd S.it nb a b)
    by_cases e : b = nb
    · rw [e, upd_same, putAt_same]; exact hI
    · rw [upd_ne _ _ e, putAt_ne _ _ e]
      exact h.its b ((List.mem_append.1 hb).elim (fun h => h) (fun h => absurd (by simpa using h) e))
  · have hin : ∀ {d}, d ∈ S.its ++ [nb] → d ≠ nb → d ∈ S.its := fun hd hne => (List.mem_append.1 hd).elim (fun h => h) (fun h => absurd (by simpa using h) hne)
    by_cases e1 : b = nb
    · by_cases e2 : c = nb
      · rw [e1, e2]
      · rw [e1, putAt_same, putAt_ne _ _ e2] at e
        exact absurd e.symm (hnd _ (g4 c (hin hc e2)))
    · by_cases e2 : c = nb
      · rw [e2, putAt_same, putAt_ne _ _ e1] at e
        exact absurd e (hnd _ (g4 b (hin hb e1)))
      · rw [putAt_ne _ _ e1, putAt_ne _ _ e2] at e
        exact h.inj b (hin hb e1) c (hin hc e2) e
  · show G (putAt ρ nb nd b) ∨ putAt ρ nb nd b = nd
    by_cases e : b = nb
    · rw [e, putAt_same]; exact .inr rfl
    · rw [putAt_ne _ _ e]
      exact .inl (g4 b ((List.mem_append.1 hb).elim (fun h => h) (fun h => absurd (by simpa using h) e)))
  · rcases hk with hk | rfl
    · exact h.lt k hk
    · exact ⟨hB, Blk.lt hI⟩
/-- A new entry has been put behind a shard's entries. -/
theorem dput_added {W wb : World} {i nb nd : Nat} {a : It} {A : Option Addr} {m c : Nat} (h : DAt G B w n y S ρ) (ok : DOk n S) (hp : ∀ p ∈ S.pins, p.2 ∈ S.its) (hnb : nb ∉ S.its) (hi : i < n)
    (hw : Below w.heap.size w W) (hnd : w.heap.size ≤ nd) (hI : DItAt W nd a) (hb : Below W.heap.size W wb) (hm : m = ((S.sh i).al ++ [nb]).length) (hown : wb.ownsRow W.heap.size 134 1 (.slice A m c) m (ptrs ((S.sh i).al.map ρ) ++ [.pointer (some ⟨nd, 0, none⟩)])) :
    DTo G B n y.g (putAt ρ nb nd) w (wb.setCell ⟨y.lr, i, none⟩ (.slice A m c)) (S.added i nb a) := by
  subst hm
  have hB := h.base
  have hsw := hw.size
  have hsb := hb.size
  have h1 := (h.below hw).new_it ok hp hnb (nd := nd) (fun k hk e => by have := h.lt k hk; omega) hI (by omega)
  have hlt2 := Blk.lt hI
  have hgr : ∀ k, ((fun k => G k ∨ k = nd) k ∨ (W.heap.size ≤ k ∧ k < wb.heap.size)) → B ≤ k ∧ k < wb.heap.size := by
    rintro k ((hk | rfl) | hk)
    · have := h.lt k hk; omega
    · omega
    · omega
  have d4 := (h1.below hb).grow (G' := fun k => (G k ∨ k = nd) ∨ (W.heap.size ≤ k ∧ k < wb.heap.size)) (fun k hk => .inl hk) hgr
  have hc : Chg (fun k => k = y.lr) wb (wb.setCell ⟨y.lr, i, none⟩ (.slice A ((S.sh i).al ++ [nb]).length c)) := chg_cell _ _ _ _
  have hal : nb ∉ (S.sh i).al := fun hm => hnb (ok.al i hi nb hm)
  have hx : ptrs (((S.sh i).al ++ [nb]).map (putAt ρ nb nd)) = ptrs ((S.sh i).al.map ρ) ++ [.pointer (some ⟨nd, 0, none⟩)] := by
    rw [List.map_append, map_putAt hal]
    simp [ptrs, putAt_same]
  have hl := fun k => hown.lt k
  have d5 := d4.put_al (al := (S.sh i).al ++ [nb]) (A := A) (c := c) hi hc (Blk.set (t := 127) d4.lrow i _) (by
    rw [hx]
    exact own_chg (own_base hown (by omega)) hc (fun k hk e => by
      have h1 := (hl k hk).1
      have h2 := (h.lt _ h.gb.2.1).2
      have e : k = y.lr := e
      omega)) (fun k hk => by
    have hk' : (Value.slice A ((S.sh i).al ++ [nb]).length c).ownBlock = some k := by rw [rowOf_eq]; exact hk
    have h1 := hl k hk'
    exact ⟨.inr ⟨h1.1, h1.2⟩, fun e => by have := h.lt k (h.gb.2.2.2.2.2 k e); omega⟩)
  refine ⟨_, ?_, DAt.same (S' := S.added i nb a) (d5.grow (fun k hk => ?_) (fun k hk => ?_)) rfl rfl rfl rfl rfl ?_ ?_ (fun _ _ => rfl), ((Chg.of_below (F := G) hw).below hb).setCell (p := ⟨y.lr, i, none⟩) (fun _ => h.gb.2.1) _⟩
  · rfl
  · rcases hk with (hk | rfl) | hk
    · exact .inl hk
    · exact .inr ⟨hnd, by simp; omega⟩
    · exact .inr ⟨by omega, by simpa using hk.2⟩
  · rcases hk with hk | hk
    · have := h.lt k hk; simp; omega
    · have := hk.2; simp at this ⊢; omega
  · intro j
    show (putAt S.sh i _ j).al = (putAt S.sh i _ j).al
    unfold putAt; split <;> rfl
  · intro j
    show (putAt S.sh i _ j).wt = (putAt S.sh i _ j).wt
    unfold putAt; split <;> rfl
end
end Go.Proofs.Ytbiaelaaihieeaa
