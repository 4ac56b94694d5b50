/- The cache of strings: an entry taken out; an entry pinned. -/
import Derived.Test.YtbiaelaaihieeaaSt6
set_option linter.unusedVariables false
set_option linter.unusedSimpArgs false
set_option maxRecDepth 100000
namespace Go.Proofs.Ytbiaelaaihieeaa.Str
open Go.RowKit

variable {B : Nat}
/-- What a shard holds when an entry has been taken out. -/
def Sh.outOf (S : Sh) (b : Nat) (i : It) : Sh := if i.pins = 0 then { inm := out S.inm i.key, al := less S.al b, wt := less S.wt b } else { S with inm := out S.inm i.key }
theorem out_first {w w2 : World} {x : ShL} {S : Sh} {b : Nat} {i : It} (h : ShAt B w x S) (hb : ItAt w b i) (hc2 : Chg (fun j => j = x.mi) w.drew w2) (hm2 : MapAt skey w2 x.mi (pdel (inP S.inm) i.key)) :
    blkOf w2 b = some (.cells #[.string i.key, i.v, .int .u64 i.ch, .bool i.inn, .int .i64 i.pins] 152 (0, 0)) ∧ ShAt B (w2.setCell ⟨b, 3, none⟩ (.bool false)) x { S with inm := out S.inm i.key } ∧ ItAt (w2.setCell ⟨b, 3, none⟩ (.bool false)) b i.off ∧
      (∀ y, IsI w y → IsI (w2.setCell ⟨b, 3, none⟩ (.bool false)) y) ∧ Chg (fun k => x.F k ∨ k = b) w (w2.setCell ⟨b, 3, none⟩ (.bool false)) := by
  have h1d : ShAt B w.drew x S := h.chg (Chg.drew (Chg.refl (fun _ => False) _)) (fun _ _ h => h)
  have h2 := h1d.put_in hc2 (by rw [← pdel_inP]; exact hm2)
  have e3 : blkOf w2 b = _ := (hc2.block b (Blk.lt hb) (fun e => h.ni (.inr (.inl e)) hb.i)).trans hb
  have e4 : ItAt (w2.setCell ⟨b, 3, none⟩ (.bool false)) b i.off := Blk.set (t := 152) e3 3 (.bool false)
  refine ⟨e3, h2.cell_it ⟨_, e3⟩ 3 _, e4, fun y hy => ?_, ?_⟩
  · by_cases e : y = b
    · rw [e]; exact e4.i
    · have i1 : IsI w.drew y := hy
      exact (i1.chg hc2 (fun e => h.ni (.inr (.inl e)) hy)).chg (chg_cell w2 b 3 (.bool false)) e
  · have c1 : Chg (fun k => x.F k ∨ k = b) w w2 := Chg.trans (F := fun _ => False) (Chg.drew (Chg.refl _ w)) hc2 (fun _ _ h => h.elim) (fun k _ e => .inl (.inr (.inl e)))
    exact c1.trans (chg_cell w2 b 3 (.bool false)) (fun _ _ h => h) (fun _ _ h => .inr h)
set_option maxHeartbeats 1600000 in
theorem out_any (x : ShL) (S : Sh) (b : Nat) (i : It) (w : World) (h : ShAt B w x S) (hA : ∀ y ∈ S.al, IsI w y) (hI : ∀ y ∈ S.wt, IsI w y) (hb : ItAt w b i) (hn : S.wt.length ≤ maxLen) :
    Calls Try.prog 79 #[.pointer (some ⟨x.s, 0, none⟩), .pointer (some ⟨b, 0, none⟩)] w fun e w' => e = .returned (.tuple #[]) ∧ ShAt B w' x (S.outOf b i) ∧ ItAt w' b i.off ∧ Chg (fun k => x.F k ∨ k = b) w w' := by
  refine calls_of fun R HR => ?_
  have H := hid h
  have hbs := h.blk
  have hmi := h.inm
  have hbb : blkOf w b = some (.cells #[.string i.key, i.v, .int .u64 i.ch, .bool i.inn, .int .i64 i.pins] 152 (0, 0)) := hb
  have hb0 := hid hb
  have HA := hid hA; have HI := hid hI
  clear h hA hI hb
  go_enter Try.func79, Try.ntmps79
  go_wp2
  refine wp_tail 8 (by kernel_rfl) (by kernel_rfl) ?_
  simp only [List.take_succ_cons, List.take_zero, List.drop_succ_cons, List.drop_zero]
  repeat still_step
  refine wpStill_nil ?_
  by_cases hp : i.pins = 0
  · have hp' : (i.pins == 0) = true := by rw [beq_iff_eq]; exact hp
    have Hp := hid hp
    clear hp
    go_wp2_with (first
      | (go_at_call 94; have q := H3.out; have e4 := E4.out; refine (gone_any x _ b i.off _ q (fun y hy => H3k.out y (HA.out y hy)) (fun y hy => H3k.out y (HI.out y hy)) e4 hn).mono ?_; rintro e w5 ⟨rfl, h5, hb5, hc5⟩; have H5 := hid h5; have Hb5 := hid hb5; have Hc5 := hid hc5; clear q e4 h5 hb5 hc5)
      | (at_delete; refine wpList_mdel skeys Try.underlying143 rfl (.tmp 7) (.tmp 11) rfl rfl (w := w.drew) hmi i.key rfl ?_; intro w2 hm2 hc2; have hz := out_first H.out hb0.out hc2 hm2; have e3 := hz.1; have l3 := Blk.lt e3; have H3 := hid hz.2.1; have E4 := hid hz.2.2.1; have H3k := hid hz.2.2.2.1; have Hc3 := hid hz.2.2.2.2; clear hz hm2 hc2))
    go_end0
    refine HR.out _ _ ⟨rfl, ?_, Hb5.out, Hc3.out.trans Hc5.out (fun _ _ h => h) (fun _ _ h => h)⟩
    have e : S.outOf b i = _ := if_pos Hp.out
    rw [e]
    simpa [Sh.gone, It.off] using H5.out
  · have hp' : (i.pins == 0) = false := by rw [beq_eq_false_iff_ne]; exact hp
    have Hp := hid hp
    clear hp
    go_wp2_with (at_delete; refine wpList_mdel skeys Try.underlying143 rfl (.tmp 7) (.tmp 11) rfl rfl (w := w.drew) hmi i.key rfl ?_; intro w2 hm2 hc2; have hz := out_first H.out hb0.out hc2 hm2; have e3 := hz.1; have l3 := Blk.lt e3; have H3 := hid hz.2.1; have E4 := hid hz.2.2.1; have H3k := hid hz.2.2.2.1; have Hc3 := hid hz.2.2.2.2; clear hz hm2 hc2)
    go_end0
    refine HR.out _ _ ⟨rfl, ?_, E4.out, Hc3.out⟩
    have e : S.outOf b i = _ := if_neg Hp.out
    rw [e]
    exact H3.out
def pinP (l : List (Int × Nat)) : List (Int × Value) := l.map fun p => (p.1, .pointer (some ⟨p.2, 0, none⟩))
def ikey (k : Int) : Value := .int .i64 k
theorem ikeys3 : Keys Try.prog 3 ikey := int_keys Try.underlying3
theorem pput_new {l : List (Int × Nat)} {k : Int} (h : ∀ p ∈ l, p.1 < k) (b : Nat) : pput (pinP l) k (.pointer (some ⟨b, 0, none⟩)) = pinP (l ++ [(k, b)]) := by
  rw [pput_none]
  · simp [pinP]
  · intro hk
    simp only [pinP, List.map_map, List.mem_map, Function.comp] at hk
    obtain ⟨p, hp, e⟩ := hk
    have := h p hp; omega
set_option maxHeartbeats 1600000 in
theorem pin_any (g b mp : Nat) (i : It) (sl : Value) (room last : Int) (st : Bool) (l : List (Int × Nat)) (w : World) (hs : ∃ A n c, sl = .slice A n c) (hg : blkOf w g = some (.cells #[sl, .int .u64 room, .bool st, .map (some mp), .int .i64 last] 141 (0, 0)))
    (hm : MapAt ikey w mp (pinP l)) (hb : ItAt w b i) (hl : ∀ p ∈ l, p.1 ≤ last) (h0 : 0 ≤ last) (h1 : last < 1152921504606846976) (h2 : 0 ≤ i.pins) (h3 : i.pins < 1152921504606846976) :
    Calls Try.prog 80 #[.pointer (some ⟨g, 0, none⟩), .pointer (some ⟨b, 0, none⟩)] w fun e w' => e = .returned (.int .i64 (last + 1)) ∧ blkOf w' g = some (.cells #[sl, .int .u64 room, .bool st, .map (some mp), .int .i64 (last + 1)] 141 (0, 0)) ∧
      MapAt ikey w' mp (pinP (l ++ [(last + 1, b)])) ∧ ItAt w' b { i with pins := i.pins + 1 } ∧ Chg (fun k => k = g ∨ k = mp ∨ k = b) w w' := by
  refine calls_of fun R HR => ?_
  obtain ⟨A, n, c, rfl⟩ := hs
  have hbb : blkOf w b = some (.cells #[.string i.key, i.v, .int .u64 i.ch, .bool i.inn, .int .i64 i.pins] 152 (0, 0)) := hb
  have hgb : g ≠ b := by rintro rfl; rw [hg] at hbb; injection hbb with e; injection e with _ e _; exact absurd e (by decide)
  have hmg : mp ≠ g := map_ne_blk hm hg
  have hmb : mp ≠ b := map_ne_blk hm hbb
  have lg := Blk.lt hg
  have lb := Blk.lt hbb
  have Hl := hid hl
  have Hm := hid hm
  have Hbb := hid hbb
  have Hg := hid hg
  clear hb hl hm
  go_enter Try.func80, Try.ntmps80
  go_wp2
  obtain ⟨w2, hw2⟩ : ∃ w2, w2 = (w.setCell ⟨b, 4, none⟩ (.int .i64 (i.pins + 1))).setCell ⟨g, 4, none⟩ (.int .i64 (last + 1)) := ⟨_, rfl⟩
  rw [← hw2]
  have hc2 : Chg (fun k => k = g ∨ k = mp ∨ k = b) w w2 := by
    rw [hw2]
    exact (chg_cell w b 4 _).trans (chg_cell _ g 4 _) (fun _ _ h => .inr (.inr h)) (fun _ _ h => .inl h)
  have e2g : blkOf w2 g = some (.cells #[.slice A n c, .int .u64 room, .bool st, .map (some mp), .int .i64 (last + 1)] 141 (0, 0)) := by
    rw [hw2, blk_set_same, blk_set_ne' _ _ _ _ _ hgb, Hg.out]; rfl
  have e2b : blkOf w2 b = some (.cells (itCells { i with pins := i.pins + 1 }) 152 (0, 0)) := by
    rw [hw2, blk_set_ne' _ _ _ _ _ (Ne.symm hgb), blk_set_same, Hbb.out]; rfl
  have hm2 : MapAt ikey w2.drew mp (pinP l) := Hm.out.of_blk (by
    show blkOf w2 mp = _
    rw [hw2, blk_set_ne' _ _ _ _ _ hmg, blk_set_ne' _ _ _ _ _ hmb])
  have Hc2 := hid hc2; have E2b := hid e2b; have E2g := hid e2g
  clear hw2 hc2 e2b hg hbb
  refine wp_tail 9 (by kernel_rfl) (by kernel_rfl) ?_
  simp only [List.take_succ_cons, List.take_zero, List.drop_succ_cons, List.drop_zero]
  repeat still_step
  refine wpStill_nil ?_
  go_wp2_with (at_mapUpdate; refine wpList_mput ikeys3 Try.underlying138 rfl (.tmp 22) (.tmp 26) (.tmp 27) rfl rfl hm2 (last + 1) rfl (.pointer (some ⟨b, 0, none⟩)) rfl ?_; intro w3 hm3 hc3; have e3 : blkOf w3 g = _ := (hc3.block g (Blk.lt E2g.out) (fun e => hmg e.symm)).trans E2g.out; have l3 := Blk.lt e3; have Hm3 := hid hm3; have Hc3 := hid hc3; clear hm3 hc3)
  refine HR.out _ _ ⟨rfl, e3, ?_, ?_, ?_⟩
  · rw [← pput_new (fun p hp => by have := Hl.out p hp; omega)]; exact Hm3.out
  · exact (Hc3.out.block b (Blk.lt E2b.out) (fun e => hmb e.symm)).trans E2b.out
  · exact Hc2.out.drew.trans Hc3.out (fun _ _ h => h) (fun _ _ h => .inr (.inl h))
end Go.Proofs.Ytbiaelaaihieeaa.Str
