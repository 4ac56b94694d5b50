/- The cache: Free. -/
import Derived.Test.YtbiaelaaihieeaaC11
set_option linter.unusedVariables false
set_option linter.unusedSimpArgs false
set_option maxRecDepth 100000
namespace Go.Proofs.Ytbiaelaaihieeaa
open Go.RowKit

variable {B : Nat}
def lookP (l : List (Int × Nat)) (k : Int) : Option Nat := (l.find? fun p => decide (p.1 = k)).map (·.2)
theorem lookP_some {l : List (Int × Nat)} {k : Int} {b : Nat} (h : lookP l k = some b) : (k, b) ∈ l := by
  unfold lookP at h
  cases hf : l.find? (fun p => decide (p.1 = k)) with
  | none => rw [hf] at h; cases h
  | some p =>
    rw [hf] at h
    simp only [Option.map_some, Option.some.injEq] at h
    have h1 := List.mem_of_find?_eq_some hf
    have h2 := List.find?_some hf
    simp only [decide_eq_true_eq] at h2
    rw [← h, ← h2]; exact h1
theorem pget_pinP (l : List (Int × Nat)) (k : Int) : pget (pinP l) k = (lookP l k).map fun b => .pointer (some ⟨b, 0, none⟩) := by
  unfold pget lookP pinP
  rw [List.find?_map]
  cases h : List.find? ((fun p => decide (p.1 = k)) ∘ fun p : Int × Nat => (p.1, Value.pointer (some ⟨p.2, 0, none⟩))) l with
  | none =>
    have : List.find? (fun p : Int × Nat => decide (p.1 = k)) l = none := h
    rw [this]; rfl
  | some p =>
    have : List.find? (fun p : Int × Nat => decide (p.1 = k)) l = some p := h
    rw [this]; rfl
theorem pdel_pinP (l : List (Int × Nat)) (k : Int) : pdel (pinP l) k = pinP (l.filter fun p => decide (p.1 ≠ k)) := by
  unfold pdel pinP
  rw [List.filter_map]
  congr 1
  apply List.filter_congr
  intro y _
  simp
section
variable {w w' : World} {x : CL} {S : CS}
theorem CAt.pins_nodup (h : CAt B w x S) : (S.pins.map (·.1)).Nodup := by
  obtain ⟨es, clock, _, _, hn, _⟩ := h.pins
  simpa [pinP, Function.comp_def] using hn
theorem CAt.put_pins (h : CAt B w x S) (hc : Chg (fun k => k = x.mp) w w') {l : List (Int × Nat)} (hm : MapAt ikey w' x.mp (pinP l)) : CAt B w' x { S with pins := l } := by
  obtain ⟨cr, hr⟩ := h.row_blk
  exact ⟨(hc.block x.g (Blk.lt h.blk) (fun e => map_ne_blk h.pins h.blk e.symm)).trans h.blk, own_chg h.row hc (fun k hk e => map_ne_blk h.pins hr (by injection hk with hk; exact e.symm.trans (show x.row = k from hk).symm)), h.n0, h.n1, hm,
    fun i hi => (h.shs i hi).chg hc (fun k hk e => (h.far hi).2.2 (by rw [← e]; exact hk)), h.apart, h.mpa, fun b hb => (hc.block b (Blk.lt (h.its b hb)) (fun e => (h.ni (h.isI hb)).2.2 e)).trans (h.its b hb), h.base⟩
theorem CAt.put_it (h : CAt B w x S) {b : Nat} (hb : b ∈ S.its) {j : It} (hc : Chg (fun k => k = b) w w') (hI : ItAt w' b j) : CAt B w' x { S with it := upd S.it b j } := by
  have hn := h.ni (h.isI hb)
  exact ⟨(hc.block x.g (Blk.lt h.blk) (fun e => hn.1 e.symm)).trans h.blk, own_chg h.row hc (fun k hk e => hn.2.1 (by injection hk with hk; exact e.symm.trans (show x.row = k from hk).symm)), h.n0, h.n1, h.pins.of_blk (hc.block _ h.pins.lt (fun e => hn.2.2 e.symm)),
    fun i hi => (h.shs i hi).chg hc (fun k hk e => (h.shs i hi).ni hk (by rw [e]; exact h.isI hb)), h.apart, h.mpa, fun c hc' => by
      show ItAt w' c (upd S.it b j c)
      by_cases e : c = b
      · rw [e, upd_same]; exact hI
      · rw [upd_ne _ _ e]; exact (hc.block c (Blk.lt (h.its c hc')) e).trans (h.its c hc'), h.base⟩
end
/-- What Free does. -/
structure CFree (B : Nat) (w : World) (x : CL) (S : CS) (k : Int) (b : Nat) (e : Ending) (w' : World) : Prop where
  ret : e = .returned (.int .i64 0)
  chg : Chg (x.F S) w w'
  or : ∃ (x' : CL) (S' : CS), x'.g = x.g ∧ x'.n = x.n ∧ (∀ c, x'.F S' c → x.F S c ∨ w.heap.size ≤ c) ∧ CAt B w' x' S' ∧
    ((1 < (S.it b).pins ∧ S' = S.unpinned k b) ∨
     ((S.it b).pins = 1 ∧ (S.it b).inn = true ∧ ∃ T I, Made 0 (S.room / x.n) (((S.unpinned k b).waits (sidx x.n (S.it b).key) b).sh (sidx x.n (S.it b).key)) (S.unpinned k b).it T I ∧ S' = (S.unpinned k b).turn (sidx x.n (S.it b).key) T I) ∨
     ((S.it b).pins = 1 ∧ (S.it b).inn = false ∧ S' = (S.unpinned k b).goneAt (sidx x.n (S.it b).key) b))
theorem cfree_no (x : CL) (S : CS) (k : Int) (w : World) (h : CAt B w x S) (hk : lookP S.pins k = none) :
    Calls Try.prog 27 #[.pointer (some ⟨x.g, 0, none⟩), .int .i64 k] w fun e w' => e = .returned (.int .i64 111) ∧ w' = w := by
  refine calls_of fun R HR => ?_
  have hb := h.blk
  have hm := h.pins
  have hpg : (pget (pinP S.pins) k).getD (.pointer none) = .pointer none := by rw [pget_pinP, hk]; rfl
  clear hk
  go_enter Try.func27, Try.ntmps27
  go_wp2_with (at_lookup; refine wpList_mget ikeys3 Try.underlying100 rfl (.tmp 10) (.tmp 11) rfl (zero120 _) rfl hm k rfl ?_; rw [hpg])
  exact HR.out _ _ ⟨rfl, rfl⟩
theorem cfree_row {w4 w5 : World} {y : ShL} {U : Sh} {b : Nat} {A2 : Option Addr} {c2 : Nat} (h : ShAt B w4 y U) (hown : w5.ownsRow B 120 1 (.slice A2 (U.wt.length + 1) c2) (U.wt.length + 1) (ptrs U.wt ++ [.pointer (some ⟨b, 0, none⟩)]))
    (hg : (w4.alloc (.cells #[.pointer (some ⟨b, 0, none⟩)] 120)).grownBy w5 (Value.slice y.A U.wt.length y.c).ownBlock) (hat : (Value.slice A2 (U.wt.length + 1) c2).ownBlock = (Value.slice y.A U.wt.length y.c).ownBlock ∨ (Value.slice A2 (U.wt.length + 1) c2).ownBlock = some (w4.alloc (.cells #[.pointer (some ⟨b, 0, none⟩)] 120)).heap.size) :
    blkOf w5 y.s = some (.cells #[.map (some y.mi), .map (some y.ma), .slice y.A U.wt.length y.c] 109 (0, 0)) ∧ ShAt B (w5.setCell ⟨y.s, 2, none⟩ (.slice A2 (U.wt.length + 1) c2)) { y with A := A2, c := c2 } { U with wt := U.wt ++ [b] } ∧
      Chg (fun k => k = y.s ∨ rowOf y.A = some k) w4 (w5.setCell ⟨y.s, 2, none⟩ (.slice A2 (U.wt.length + 1) c2)) ∧ (∀ k, rowOf A2 = some k → y.F k ∨ w4.heap.size ≤ k) := by
  rw [rowOf_eq] at hg
  rw [rowOf_eq, rowOf_eq] at hat
  have hc : Chg (fun k => rowOf y.A = some k) w4 w5 := Chg.grown (F := fun k => rowOf y.A = some k) ((Chg.refl _ w4).alloc _) hg (fun k hk _ => hk)
  have hl : (U.wt ++ [b]).length = U.wt.length + 1 := by simp
  have hown' : w5.ownsRow B 120 1 (.slice A2 (U.wt ++ [b]).length c2) (U.wt ++ [b]).length (ptrs (U.wt ++ [b])) := by
    rw [hl]; simpa [ptrs] using hown
  have hp := h.put_row hc hown'
  rw [hl] at hp
  refine ⟨(hc.block y.s (Blk.lt h.blk) (fun e => own_ne_cells1 h.wt h.blk (by decide) (by rw [rowOf_eq]; exact e))).trans h.blk, hp.1, hp.2, fun k hk => ?_⟩
  rcases hat with e | e
  · exact .inl (.inr (.inr (.inr (by rw [← e]; exact hk))))
  · rw [hk] at e
    injection e with e
    right; simp at e; omega
set_option maxHeartbeats 3200000 in
theorem cfree_any (x : CL) (S : CS) (k : Int) (b : Nat) (w : World) (h : CAt B w x S) (hB : B ≤ w.heap.size) (ok : COk x.n S) (hk : lookP S.pins k = some b) (hl : S.last < 8796093022208) :
    Calls Try.prog 27 #[.pointer (some ⟨x.g, 0, none⟩), .int .i64 k] w (CFree B w x S k b) := by
  refine calls_of fun R HR => ?_
  have hkb := lookP_some hk
  have hbi : b ∈ S.its := (ok.pins _ hkb).2
  have H := hid h
  have Ok1 := hid (ok.unpinned hkb h.pins_nodup)
  have Ok := hid ok
  have Hbi := hid hbi
  have hcb : 1 ≤ (S.it b).pins := by
    rw [ok.cnt b hbi]
    have : 0 < (S.pins.map (·.2)).count b := List.count_pos_iff.2 (List.mem_map.2 ⟨_, hkb, rfl⟩)
    omega
  have hpl := (ok.pn b hbi).2
  have hb := h.blk
  have hm := h.pins
  have hit := h.its b hbi
  have hbb : blkOf w b = some (.cells #[.string (S.it b).key, (S.it b).v, .int .u64 (S.it b).ch, .bool (S.it b).inn, .int .i64 (S.it b).pins] 123 (0, 0)) := hit
  have hni := h.ni hit.i
  have hpg : (pget (pinP S.pins) k).getD (.pointer none) = .pointer (some ⟨b, 0, none⟩) := by rw [pget_pinP, hk]; rfl
  have Hk := hid hkb
  clear h ok hk hbi hit hkb
  go_enter Try.func27, Try.ntmps27
  go_upto_region 6 with (first
    | (at_delete; refine wpList_mdel ikeys3 Try.underlying100 rfl (.tmp 18) (.tmp 19) rfl rfl hm k rfl ?_; intro w2 hm2 hc2; rw [pdel_pinP] at hm2; have C2 := hid (H.out.put_pins hc2 hm2); have e2 : blkOf w2 b = _ := (hc2.block b (Blk.lt hbb) hni.2.2).trans hbb; have Hc2 := hid hc2; clear hm2 hc2)
    | (at_lookup; refine wpList_mget ikeys3 Try.underlying100 rfl (.tmp 10) (.tmp 11) rfl (zero120 _) rfl hm k rfl ?_; rw [hpg]))
  obtain ⟨w3, hw3⟩ : ∃ w3, w3 = w2.setCell ⟨b, 4, none⟩ (.int .i64 ((S.it b).pins - 1)) := ⟨_, rfl⟩
  rw [← hw3]
  have e3 : blkOf w3 b = some (.cells #[.string (S.it b).key, (S.it b).v, .int .u64 (S.it b).ch, .bool (S.it b).inn, .int .i64 ((S.it b).pins - 1)] 123 (0, 0)) := by rw [hw3, blk_set_same, e2]; rfl
  have hc3 : Chg (fun k => k = b) w2 w3 := by rw [hw3]; exact chg_cell _ _ _ _
  have c3 : CAt B w3 x (S.unpinned k b) := C2.out.put_it Hbi.out hc3 e3
  have hc03 : Chg (x.F S) w w3 := Hc2.out.trans hc3 (fun _ _ e => .inr (.inr (.inl e))) (fun k _ e => .inr (.inr (.inr (.inr (by have e : k = b := e; rw [e]; exact Hbi.out)))))
  have C3 := hid c3; have Hc03 := hid hc03
  have Hof := hid (c3.of (S.it b).key (by have := Ok.out.ksz b Hbi.out; simp only [maxLen]; omega))
  obtain ⟨i, hi⟩ : ∃ i, i = sidx x.n (S.it b).key := ⟨_, rfl⟩
  rw [← hi] at Hof
  have Hi := hid hi
  have hin : i < x.n := by rw [hi]; exact sidx_lt c3.n0 _
  have Hin := hid hin
  clear hw3 hc3 c3 hc03 hi hin e2 hm hpg hbb hb hni
  go_wp2_with fail
  refine Hof.out.mono ?_
  rintro e w4 ⟨rfl, hb4⟩
  have e4 := (bl_at hb4 b (Blk.lt e3)).trans e3
  have C4 := hid (C3.out.below hb4)
  have Hc04 := hid (Hc03.out.below hb4)
  clear hb4 e3
  by_cases h1 : 1 < (S.it b).pins
  · have h1' : (0 : Int) < (S.it b).pins - 1 := by omega
    go_wp2
    exact HR.out _ _ ⟨rfl, Hc04.out, x, S.unpinned k b, rfl, rfl, fun c hc => .inl hc, C4.out, .inl ⟨h1, rfl⟩⟩
  · have h2 : (S.it b).pins = 1 := by omega
    have h1' : ¬ ((0 : Int) < (S.it b).pins - 1) := by omega
    cases hinn : (S.it b).inn with
    | false =>
      rw [hinn] at e4
      have Hg := hid (C4.out.gone Ok1.out Hin.out (b := b) Hbi.out (Int.lt_trans hl (by decide)))
      have Hinn := hid hinn
      clear hinn
      go_wp2_with (go_at_call 63; refine Hg.out.mono ?_; rintro e w5 ⟨rfl, h5, hc5⟩; have H5 := hid h5; have Hc5 := hid hc5; clear h5 hc5)
      refine HR.out _ _ ⟨rfl, Hc04.out.trans Hc5.out (fun _ _ h => h) (fun k _ hk => hk.elim (fun h => .inr (.inr (.inr (.inl ⟨i, Hin.out, h⟩)))) (fun h => .inr (.inr (.inr (.inr h))))), x, (S.unpinned k b).goneAt i b, rfl, rfl, fun c hc => .inl hc, H5.out, .inr (.inr ⟨h2, Hinn.out, ?_⟩)⟩
      rw [← Hi.out]
    | true =>
      rw [hinn] at e4
      have Hinn := hid hinn
      have hsh := C4.out.shs i Hin.out
      have s4 : blkOf w4 (x.sh i).s = some (.cells #[.map (some (x.sh i).mi), .map (some (x.sh i).ma), .slice (x.sh i).A (S.sh i).wt.length (x.sh i).c] 109 (0, 0)) := hsh.blk
      have ls := Blk.lt s4
      have Hsh : Hid (ShAt B w4 (x.sh i) (S.sh i)) := hid hsh
      have hwl := Ok.out.wt_len Hin.out
      have hbw : b ∉ (S.sh i).wt := fun hm => by have := Ok.out.w0 i Hin.out b hm; omega
      have hba : b ∈ (S.sh i).al := by have := Ok.out.pinal _ Hk.out; rw [Hi.out]; exact this
      have Ok6 : Hid (COk x.n ((S.unpinned k b).waits i b)) := hid (Ok1.out.waits Hin.out hba (by show (upd S.it b _ b).pins = 0; rw [upd_same]; show (S.it b).pins - 1 = 0; omega) hbw)
      obtain ⟨i0, hi0, hz0, hz1, hz2⟩ := info_parts Try.info120
      have hB4 : B ≤ w4.heap.size := Nat.le_trans hB Hc04.out.size
      clear hinn hsh hbw hba
      go_wp2_with (at_builtin; refine wpList_append_rd _ rfl (.tmp 51) (.tmp 53) _ rfl B 120 i0 _ 1 8 Try.underlying107 hi0 hz0 hz1 hz2 rfl (by decide) (.slice (x.sh i).A (S.sh i).wt.length (x.sh i).c) (S.sh i).wt.length (ptrs (S.sh i).wt) rfl ?ho (w4.heap.size + 1) (some ⟨w4.heap.size, 0, none⟩) 1 1 [.pointer (some ⟨b, 0, none⟩)] rfl ?hr ?h1 ?h63 ?hb ?hbase ?hk; case' hk => (intro v2 w5 hown5 hg5 hat5; obtain ⟨A2, c2, rfl, _⟩ := own_shape hown5; have hz := cfree_row Hsh.out hown5 hg5 hat5; have s5 := hz.1; have ls5 := Blk.lt s5; have Hz := hid hz.2; clear hz))
      case ho => exact Hsh.out.wt.alloc _
      case hr => exact rd_new w4 120 1 1 [.pointer (some ⟨b, 0, none⟩)] rfl
      case h1 => simp [Value.oneCell']
      case h63 => simp only [maxLen]; omega
      case hb => omega
      case hbase => simp; omega
      obtain ⟨w6, hw6⟩ : ∃ w6, w6 = w5.setCell ⟨(x.sh i).s, 2, none⟩ (.slice A2 ((S.sh i).wt.length + 1) c2) := ⟨_, rfl⟩
      rw [← hw6] at Hz ⊢
      obtain ⟨z1, z2, z3⟩ := Hz.out
      have z2' : Chg (fun k => (x.sh i).F k) w4 w6 := z2.mono (fun k _ hk => hk.elim (fun e => .inl e) (fun e => .inr (.inr (.inr e))))
      have c6 : CAt B w6 { x with sh := putAt x.sh i { x.sh i with A := A2, c := c2 } } ((S.unpinned k b).waits i b) :=
        C4.out.put_sh Hin.out z2' (fun k _ hk => .inl hk) z1 rfl rfl rfl z3 (fun c hc => (z2'.block c (Blk.lt (C4.out.its c hc)) (fun hf => (C4.out.shs i Hin.out).ni hf (C4.out.isI hc))).trans (C4.out.its c hc))
      have C6 := hid c6
      have hc06 : Chg (x.F S) w w6 := Hc04.out.trans z2' (fun _ _ h => h) (fun k _ hk => .inr (.inr (.inr (.inl ⟨i, Hin.out, hk⟩))))
      have Hc06 := hid hc06
      have Z3 := hid z3
      have Hsr := hid (c6.share Ok6.out)
      have hps : (({ x with sh := putAt x.sh i { x.sh i with A := A2, c := c2 } } : CL).sh i).s = (x.sh i).s := by
        show (putAt x.sh i _ i).s = _
        rw [putAt_same]
      have Hmk : Hid (∀ m, Calls Try.prog 57 #[.pointer (some ⟨(x.sh i).s, 0, none⟩), .int .u64 0, .int .u64 (S.room / x.n)] (w6.drewN m) fun e w' => e = .returned (.tuple #[]) ∧ ∃ T I', Made 0 (S.room / x.n) (((S.unpinned k b).waits i b).sh i) (S.unpinned k b).it T I' ∧
          CAt B w' { x with sh := putAt x.sh i { x.sh i with A := A2, c := c2 } } ((S.unpinned k b).turn i T I') ∧ Chg (fun k => (putAt x.sh i { x.sh i with A := A2, c := c2 } i).F k ∨ k ∈ S.its) w6 w') := hid (fun m => by
        have := (c6.drewN m).makes Ok6.out Hin.out 0 (S.room / x.n) (by decide) (Int.lt_trans hl (by decide))
        rw [hps] at this
        refine this.mono ?_
        rintro e w' ⟨h1, T, I', h2, h3, h4⟩
        refine ⟨h1, T, I', h2, ?_, ?_⟩
        · have e : ({ (S.unpinned k b).waits i b with sh := putAt ((S.unpinned k b).waits i b).sh i T, it := I' } : CS) = (S.unpinned k b).turn i T I' := turn_turn (S.unpinned k b) i _ T _ I'
          rw [← e]; exact h3
        · exact Chg.trans (F := fun _ => False) (Chg.drewN (Chg.refl _ _) m) h4 (fun _ _ h => h.elim) (fun _ _ h => h))
      clear z1 z2 z3 z2' c6 hc06 hps hw6 Hz
      go_wp2_with (first
        | (go_at_call 57; refine (Hmk.out _).mono ?_; rintro e w7 ⟨rfl, T, I', h1, h2, h3⟩; have M1 := hid h1; have M2 := hid h2; have M3 := hid h3; clear h1 h2 h3)
        | (go_at_call 58; refine Hsr.out.mono ?_; rintro e _ ⟨rfl, m, rfl⟩))
      have hF : ∀ c, (putAt x.sh i { x.sh i with A := A2, c := c2 } i).F c → (x.sh i).F c ∨ w4.heap.size ≤ c := by
        rw [putAt_same]
        rintro c (e | e | e | e)
        · exact .inl (.inl e)
        · exact .inl (.inr (.inl e))
        · exact .inl (.inr (.inr (.inl e)))
        · exact Z3.out c e
      have hs4 : w.heap.size ≤ w4.heap.size := Hc04.out.size
      refine HR.out _ _ ⟨rfl, Hc06.out.trans M3.out (fun _ _ h => h) (fun c hc hk => ?_), { x with sh := putAt x.sh i { x.sh i with A := A2, c := c2 } }, (S.unpinned k b).turn i T I', rfl, rfl, ?_, M2.out, .inr (.inl ⟨h2, Hinn.out, T, I', ?_⟩)⟩
      · rcases hk with hk | hk
        · rcases hF c hk with h | h
          · exact .inr (.inr (.inr (.inl ⟨i, Hin.out, h⟩)))
          · omega
        · exact .inr (.inr (.inr (.inr hk)))
      · rintro c (e | e | e | ⟨j, hj, e⟩ | e)
        · exact .inl (.inl e)
        · exact .inl (.inr (.inl e))
        · exact .inl (.inr (.inr (.inl e)))
        · by_cases ej : j = i
          · subst ej
            rcases hF c e with h | h
            · exact .inl (.inr (.inr (.inr (.inl ⟨j, hj, h⟩))))
            · exact .inr (by omega)
          · have e' : (x.sh j).F c := by have e2 : (putAt x.sh i { x.sh i with A := A2, c := c2 } j).F c := e; rwa [putAt_ne _ _ ej] at e2
            exact .inl (.inr (.inr (.inr (.inl ⟨j, hj, e'⟩))))
        · exact .inl (.inr (.inr (.inr (.inr e))))
      · rw [← Hi.out]; exact ⟨M1.out, rfl⟩
end Go.Proofs.Ytbiaelaaihieeaa
