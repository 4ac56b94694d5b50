/- The cache of strings: Put. -/
import Derived.Test.YtbiaelaaihieeaaSt10
import Derived.Deep.DeepCutAuto
import Derived.Deep.RegionLawGrows
set_option linter.unusedVariables false
set_option linter.unusedSimpArgs false
set_option maxRecDepth 100000
namespace Go.Proofs.Ytbiaelaaihieeaa.Str
open Go.RowKit

variable {B : Nat}
def look (l : List (ByteArray × Nat)) (k : ByteArray) : Option Nat := (l.find? fun p => decide (p.1 = k)).map (·.2)
theorem look_some {l : List (ByteArray × Nat)} {k : ByteArray} {b : Nat} (h : look l k = some b) : (k, b) ∈ l := by
  unfold look at h
  cases hf : l.find? (fun p => decide (p.1 = k)) with
  | none => rw [hf] at h; cases h
  | some p =>
    rw [hf] at h
    simp only [Option.map_some, Option.some.injEq] at h
    have h1 := List.mem_of_find?_eq_some hf
    have h2 := List.find?_some hf
    simp only [decide_eq_true_eq] at h2
    rw [← h, ← h2]; exact h1
theorem look_none {l : List (ByteArray × Nat)} {k : ByteArray} (h : look l k = none) : ∀ p ∈ l, p.1 ≠ k := by
  unfold look at h
  simp only [Option.map_eq_none_iff, List.find?_eq_none, decide_eq_true_eq] at h
  exact h
theorem pget_inP (l : List (ByteArray × Nat)) (k : ByteArray) : pget (inP l) k = (look l k).map fun b => .pointer (some ⟨b, 0, none⟩) := by
  unfold pget look inP
  rw [List.find?_map]
  cases h : List.find? ((fun p => decide (p.1 = k)) ∘ fun p : ByteArray × Nat => (p.1, Value.pointer (some ⟨p.2, 0, none⟩))) l with
  | none => 
    have : List.find? (fun p : ByteArray × Nat => decide (p.1 = k)) l = none := h
    rw [this]; rfl
  | some p =>
    have : List.find? (fun p : ByteArray × Nat => decide (p.1 = k)) l = some p := h
    rw [this]; rfl
/-- The entry of a key, if there is one, has been taken out. -/
def CS.clear (S : CS) (i : Nat) (key : ByteArray) : CS := match look (S.sh i).inm key with
  | none => S
  | some b => S.outAt i b
def CS.full (S : CS) (n : Nat) (ch : Int) (T : Sh) (I : Nat → It) : Prop := S.st = true ∧ S.room / n < addTop (usedOf T I) ch
structure CPut (B : Nat) (w : World) (x : CL) (S : CS) (key : ByteArray) (v : Value) (ch : Int) (T : Sh) (I : Nat → It) (e : Ending) (w' : World) : Prop where
  made : Made ch (S.room / x.n) (S.sh (sidx x.n key)) S.it T I
  chg : Chg (x.F S) w w'
  or : (S.full x.n ch T I ∧ e = .returned (.tuple #[.int .i64 0, .int .i64 110]) ∧ CAt B w' x (S.turn (sidx x.n key) T I)) ∨
    (¬ S.full x.n ch T I ∧ ∃ nb, w.heap.size ≤ nb ∧ e = .returned (.tuple #[.int .i64 (S.last + 1), .int .i64 0]) ∧ CAt B w' x ((((S.turn (sidx x.n key) T I).clear (sidx x.n key) key).added (sidx x.n key) nb ⟨key, v, ch, true, 0⟩).pinned nb))
theorem cput_long (x : CL) (key : ByteArray) (v : ByteArray) (ch : Int) (w : World) (hk : 1024 < key.size) (hm : key.size ≤ maxLen) :
    Calls Try.prog 50 #[.pointer (some ⟨x.g, 0, none⟩), .string key, .string v, .int .u64 ch] w fun e w' => e = .returned (.tuple #[.int .i64 0, .int .i64 2]) ∧ w' = w := by
  refine calls_of fun R HR => ?_
  simp only [maxLen] at hm
  have hk' : (1024 : Int) < (key.size : Int) := by omega
  go_enter Try.func50, Try.ntmps50
  go_wp2
  exact HR.out _ _ ⟨rfl, rfl⟩
theorem CAt.sh_turn {w : World} {x : CL} {S : CS} {i : Nat} {T : Sh} {I : Nat → It} (h : CAt B w x (S.turn i T I)) (hi : i < x.n) : ShAt B w (x.sh i) T := by
  have := h.shs i hi
  rwa [turn_sh] at this
section
variable {κ : Type} [DecidableEq κ] {P : Program} {kt vt T : TypeId} {enc : κ → Value} {w : World} {b : Nat} {l : List (κ × Value)} {ops : Array Oper} {o : Oper} {a : Act} {K : Act → World → Prop} {Q : Exit → Act → World → Prop} {E : Prop}
theorem upon_mentry {f : Value → World → Result Next} (ht : P.underlying T = some (.map kt vt)) {z : Value} (hz : (zeroValue vt).run P w = .ok z w) (h : MapAt enc w b l) (k : κ) (hk : KeyIn P kt enc w k (l.map (·.1)))
    (hK : ∀ w' (st : Nat) (y : Value), EntryAt enc w' b (pput l k y) k st → Chg (fun j => j = b) w w' → Oper.upon P o a K Q (f (.tuple #[y, .int .i64 st]) w')) : Oper.upon P o a K Q ((Sem.run P (Instr.mapEntry T (.map (some b)) (enc k)) w).andThen f) := by
  obtain ⟨w', st, y, hrun, h1, h2⟩ := h.run_entry ht k hk hz
  rw [hrun]
  exact hK w' st y h1 h2
theorem upon_mstore {f : Unit → World → Result Next} {k : κ} {st : Nat} (h : EntryAt enc w b l k st) (val : Value)
    (hK : ∀ w', MapAt enc w' b (pput l k val) → Chg (fun j => j = b) w w' → Oper.upon P o a K Q (f () w')) : Oper.upon P o a K Q ((Sem.run P (Instr.entryStore T (.map (some b)) (.int .i64 st) val) w).andThen f) := by
  obtain ⟨w', hrun, h1, h2⟩ := h.run_store (P := P) (T := T) val
  rw [hrun]
  exact hK w' h1 h2
end
/-- How far a map's new entry has come: 0: not begun; 1: laid; 2: done. -/
def Ph {κ : Type} [DecidableEq κ] (enc : κ → Value) (W : World) (b : Nat) (l : List (κ × Value)) (k : κ) (v : Value) (n st : Nat) : Prop :=
  if n = 0 then MapAt enc W b l else if n = 1 then ∃ y, EntryAt enc W b (pput l k y) k st else MapAt enc W b (pput l k v)
theorem Ph.of_blk {κ : Type} [DecidableEq κ] {enc : κ → Value} {W W' : World} {b : Nat} {l : List (κ × Value)} {k : κ} {v : Value} {n st : Nat} (h : Ph enc W b l k v n st) (e : blkOf W' b = blkOf W b) : Ph enc W' b l k v n st := by
  unfold Ph at *
  split
  · rename_i h0; rw [if_pos h0] at h; exact h.of_blk e
  · rename_i h0
    rw [if_neg h0] at h
    split
    · rename_i h1; rw [if_pos h1] at h; obtain ⟨y, h⟩ := h; exact ⟨y, h.of_blk e⟩
    · rename_i h1; rw [if_neg h1] at h; exact h.of_blk e
theorem Ph.zero {κ : Type} [DecidableEq κ] {enc : κ → Value} {W : World} {b : Nat} {l : List (κ × Value)} {k : κ} {v : Value} {st : Nat} (h : Ph enc W b l k v 0 st) : MapAt enc W b l := h
theorem Ph.one {κ : Type} [DecidableEq κ] {enc : κ → Value} {W : World} {b : Nat} {l : List (κ × Value)} {k : κ} {v : Value} {st : Nat} (h : Ph enc W b l k v 1 st) : ∃ y, EntryAt enc W b (pput l k y) k st := h
theorem Ph.two {κ : Type} [DecidableEq κ] {enc : κ → Value} {W : World} {b : Nat} {l : List (κ × Value)} {k : κ} {v : Value} {st : Nat} (h : Ph enc W b l k v 2 st) : MapAt enc W b (pput l k v) := h
structure AddW (W0 : World) (y : ShL) (V : Value) (A : List Nat) (nb : Nat) (W : World) : Prop where
  blk : blkOf W y.s = some (.cells #[.map (some y.mi), .map (some y.ma), V] 147 (0, 0))
  its : ∀ z, z = nb ∨ z ∈ A → IsI W z
  nz : ∀ z, z = nb ∨ z ∈ A → z ≠ y.mi ∧ z ≠ y.ma
  ns : y.s ≠ y.mi ∧ y.s ≠ y.ma
  chg : Chg (fun k => k = y.mi ∨ k = y.ma) W0 W
theorem AddW.next {W0 W W' V : World} {y : ShL} {v : Value} {A : List Nat} {nb b : Nat} (h : AddW W0 y v A nb W) (hc : Chg (fun j => j = b) V W') (e : Eqv V W) (hb : b = y.mi ∨ b = y.ma) : AddW W0 y v A nb W' := by
  have hc' := e.chg hc
  have hne : ∀ k, k ≠ y.mi ∧ k ≠ y.ma → k ≠ b := fun k hk e => by
    rcases hb with h | h
    · exact hk.1 (e.trans h)
    · exact hk.2 (e.trans h)
  exact ⟨(hc'.block _ (Blk.lt h.blk) (hne _ h.ns)).trans h.blk, fun z hz => (h.its z hz).chg hc' (hne z (h.nz z hz)), h.nz, h.ns, h.chg.trans hc' (fun _ _ h => h) (fun k _ e => by
    have e : k = b := e
    rw [e]; exact hb)⟩
theorem AddW.key {W0 W V : World} {y : ShL} {v : Value} {A : List Nat} {nb : Nat} (h : AddW W0 y v A nb W) (e : Eqv V W) : KeyIn Try.prog 149 ptr V nb ((setP A).map (·.1)) :=
  pkey_at (by obtain ⟨c, hc⟩ := h.its nb (.inl rfl); exact ⟨c, (e.blk nb).trans hc⟩) (fun z hz => by obtain ⟨c, hc⟩ := h.its z (.inr hz); exact ⟨c, (e.blk z).trans hc⟩)
theorem CAt.add {wz W0 wc : World} {x : CL} {S : CS} (h : CAt B wz x S) (hB : B ≤ wz.heap.size) {i : Nat} (hi : i < x.n) {U : Sh} (hU : S.sh i = U) {a : It} (hfree : ∀ p ∈ U.inm, p.1 ≠ a.key) (hal : ∀ y ∈ U.al, y ∈ S.its) (hW0 : W0 = wz.alloc (.cells (itCells a) 152))
    (haw : AddW W0 (x.sh i) (.slice (x.sh i).A U.wt.length (x.sh i).c) U.al wz.heap.size wc) (hm1 : MapAt skey wc (x.sh i).mi (pput (inP U.inm) a.key (.pointer (some ⟨wz.heap.size, 0, none⟩)))) (hm2 : MapAt ptr wc (x.sh i).ma (pput (setP U.al) wz.heap.size (.bool true))) :
    CAt B wc x (S.added i wz.heap.size a) ∧ Chg (fun k => (x.sh i).F k) wz wc := by
  subst hU
  have hnew : ∀ y ∈ S.its, y ≠ wz.heap.size := fun y hy e => by have := Blk.lt (h.its y hy); omega
  have h0 : CAt B W0 x S := by rw [hW0]; exact h.below (bl_alloc (Below.refl _ _) _)
  have hnb : ItAt W0 wz.heap.size a := by rw [hW0]; exact blk_new _ _
  have hs := h0.shs i hi
  have h1 : CAt B W0 x { S with it := upd S.it wz.heap.size a, its := S.its ++ [wz.heap.size] } := ⟨h0.blk, h0.row, h0.n0, h0.n1, h0.pins, h0.shs, h0.apart, h0.mpa, fun b hb => by
      rcases List.mem_append.1 hb with hb | hb
      · show ItAt W0 b (upd S.it _ a b)
        rw [upd_ne _ _ (hnew b hb)]; exact h0.its b hb
      · obtain rfl : b = wz.heap.size := by simpa using hb
        show ItAt W0 wz.heap.size (upd S.it _ a wz.heap.size)
        rw [upd_same]; exact hnb, ⟨h0.base.1, h0.base.2.1, fun b hb => by
      rcases List.mem_append.1 hb with hb | hb
      · exact h0.base.2.2 b hb
      · obtain rfl : b = wz.heap.size := by simpa using hb
        exact hB⟩⟩
  have e1 : pput (inP (S.sh i).inm) a.key (.pointer (some ⟨wz.heap.size, 0, none⟩)) = inP ((S.sh i).inm ++ [(a.key, wz.heap.size)]) := by
    rw [pput_none]
    · simp [inP]
    · intro hk
      simp only [inP, List.map_map, List.mem_map, Function.comp] at hk
      obtain ⟨p, hp, e⟩ := hk
      exact hfree p hp e
  have e2 : pput (setP (S.sh i).al) wz.heap.size (.bool true) = setP ((S.sh i).al ++ [wz.heap.size]) := by
    rw [pput_none]
    · simp [setP]
    · rw [setP_fst]
      exact fun hk => hnew _ (hal _ hk) rfl
  rw [e1] at hm1
  rw [e2] at hm2
  have hc := haw.chg
  have hF : ∀ k, k = (x.sh i).mi ∨ k = (x.sh i).ma → (x.sh i).F k := fun k hk => hk.elim (fun e => .inr (.inl e)) (fun e => .inr (.inr (.inl e)))
  have hy : ShAt B wc (x.sh i) { S.sh i with inm := (S.sh i).inm ++ [(a.key, wz.heap.size)], al := (S.sh i).al ++ [wz.heap.size] } :=
    ⟨haw.blk, hm1, hm2, own_chg hs.wt hc (fun k hk e => e.elim (fun e => own_ne_map hs.inm hs.wt (by rw [hk, e])) (fun e => own_ne_map hs.al hs.wt (by rw [hk, e]))), hs.ne, hs.base⟩
  refine ⟨h1.put_same hi hc (fun k _ hk => .inl (hF k hk)) hy (fun b hb => (hc.block b (Blk.lt (h1.its b hb)) (fun hk => hs.ni (hF b hk) (h1.isI hb))).trans (h1.its b hb)), ?_⟩
  rw [hW0] at hc
  exact Chg.trans (F := fun _ => False) ((Chg.refl _ wz).alloc _) hc (fun _ _ h => h.elim) (fun k _ hk => hF k hk)
theorem zero4b (w : World) : (zeroValue 4).run Try.prog w = .ok (.bool false) w := by kernel_rfl
theorem cput_c3 {w w1 w3 wc : World} {x : CL} {S : CS} {i m : Nat} (h : CAt B w x S) (hi : i < x.n) (hb1 : Below w.heap.size w w1) (hc3 : Chg (fun k => (x.sh i).F k ∨ k ∈ S.its) (w1.drewN m) w3) (hb4 : Below w3.heap.size w3 wc) : Chg (x.F S) w wc :=
  ((Chg.of_below (F := x.F S) hb1).drewN m |>.trans hc3 (fun _ _ h => h) (fun k _ hk => hk.elim (fun h => .inr (.inr (.inr (.inl ⟨i, hi, h⟩)))) (fun h => .inr (.inr (.inr (.inr h)))))).below hb4
theorem cput_c9 {w wz wc w9 : World} {x : CL} {S : CS} {i : Nat} (h : CAt B w x S) (hi : i < x.n) (hc : Chg (x.F S) w wz) (hca : Chg (fun k => (x.sh i).F k) wz wc) (hc9 : Chg (fun k => k = x.g ∨ k = x.mp ∨ k ∈ S.its ++ [wz.heap.size]) wc w9) : Chg (x.F S) w w9 := by
  refine (hc.trans hca (H := x.F S) (fun _ _ h => h) (fun k _ hk => .inr (.inr (.inr (.inl ⟨i, hi, hk⟩))))).trans hc9 (fun _ _ h => h) (fun k hk hf => ?_)
  rcases hf with e | e | e
  · exact .inl e
  · exact .inr (.inr (.inl e))
  · rcases List.mem_append.1 e with e | e
    · exact .inr (.inr (.inr (.inr e)))
    · have e : k = wz.heap.size := by simpa using e
      have := hc.size; omega
theorem out_free {S : CS} {i b : Nat} {key : ByteArray} (hk : (S.it b).key = key) : ∀ p ∈ ((S.outAt i b).sh i).inm, p.1 ≠ key := by
  intro p hp
  have e : (S.outAt i b).sh i = (S.sh i).outOf b (S.it b) := turn_sh _ _ _ _
  rw [e] at hp
  unfold Sh.outOf at hp
  split at hp <;> (rw [← hk]; exact (mem_out.1 hp).2)
set_option maxHeartbeats 3200000 in
theorem cput_any (x : CL) (S : CS) (key : ByteArray) (v : ByteArray) (ch : Int) (w : World) (h : CAt B w x S) (hB : B ≤ w.heap.size) (ok : COk x.n S) (hk : key.size ≤ 1024) (hch : 0 ≤ ch ∧ ch ≤ 18446744073709551615) (hl : S.last < 1152921504606846976) :
    Calls Try.prog 50 #[.pointer (some ⟨x.g, 0, none⟩), .string key, .string v, .int .u64 ch] w fun e w' => ∃ T I, CPut B w x S key (.string v) ch T I e w' := by
  refine calls_of fun R HR => ?_
  have H := hid h
  have Hof := hid (h.of key (by simp only [maxLen]; omega))
  have Hi := hid (sidx_lt h.n0 key)
  have Ok := hid ok
  have hk' : ¬ (1024 : Int) < (key.size : Int) := by omega
  clear h ok
  obtain ⟨i, hie⟩ : ∃ i, i = sidx x.n key := ⟨_, rfl⟩
  have Hie := hid hie
  rw [← hie] at Hof Hi
  clear hie
  go_enter Try.func50, Try.ntmps50
  go_wp2_with fail
  refine Hof.out.mono ?_
  rintro e w1 ⟨rfl, hb1⟩
  have C1 := hid (H.out.below hb1)
  have Hb1 := hid hb1
  clear hb1
  go_wp2_with fail
  refine (C1.out.share Ok.out).mono ?_
  rintro e _ ⟨rfl, m, rfl⟩
  go_wp2_with fail
  refine ((C1.out.drewN m).makes Ok.out Hi.out ch (S.room / x.n) hch hl).mono ?_
  rintro e w3 ⟨rfl, T, I, hmd, c3, hc3⟩
  have Hmd := hid hmd
  have C3 : Hid (CAt B w3 x (S.turn i T I)) := hid c3
  have Ok3 := hid (Ok.out.madeAt Hi.out hmd)
  have Hc3 := hid hc3
  have e3 := C3.out.blk
  have l3 := Blk.lt e3
  have s3 := (C3.out.sh_turn Hi.out).blk
  clear hmd c3 hc3
  have Hus : Hid (Calls Try.prog 78 #[.pointer (some ⟨(x.sh i).s, 0, none⟩)] w3 fun e w' => e = .returned (.int .u64 (usedOf T I)) ∧ Below w3.heap.size w3 w') := hid (by
    have := C3.out.used Ok3.out Hi.out
    rw [turn_sh] at this
    exact this)
  have hur : 0 ≤ usedOf T I ∧ usedOf T I ≤ 18446744073709551615 := cap_range (chs_nonneg (by have := (Ok3.out.ok i Hi.out).ch; rw [turn_sh] at this; exact this))
  have Hsh : Hid (∀ W, Below w3.heap.size w3 W → Calls Try.prog 77 #[.pointer (some ⟨x.g, 0, none⟩)] W fun e w' => e = .returned (.int .u64 (S.room / x.n)) ∧ ∃ m, w' = W.drewN m) := hid fun W hW => (C3.out.below hW).share Ok3.out
  obtain ⟨u, hu⟩ : ∃ u, u = usedOf T I := ⟨_, rfl⟩
  obtain ⟨q, hq⟩ : ∃ q, q = S.room / (x.n : Int) := ⟨_, rfl⟩
  have hfu : S.full x.n ch T I ↔ (S.st = true ∧ q < addTop u ch) := by rw [hu, hq]; rfl
  rw [← hu] at Hus hur
  rw [← hq] at Hsh
  have Hcp := hid (cplus_any u ch)
  clear hu hq
  by_cases hfull : S.full x.n ch T I
  · have Hfull := hid hfull
    obtain ⟨h1, h2⟩ := hfu.1 hfull
    have e3' : blkOf w3 x.g = some (.cells #[.slice (some ⟨x.row, 0, none⟩) x.n x.cp, .int .u64 S.room, .bool true, .map (some x.mp), .int .i64 S.last] 141 (0, 0)) := by rw [← h1]; exact e3
    clear hfull hfu h1 e3
    go_wp2_with (first
      | (go_at_call 77; have q4 := Hb4.out; refine (Hsh.out _ q4).mono ?_; rintro e _ ⟨rfl, m2, rfl⟩; clear q4)
      | (go_at_call 59; refine (Hcp.out _ hur hch).mono ?_; rintro e w5 ⟨rfl, rfl⟩)
      | (go_at_call 78; refine Hus.out.mono ?_; rintro e w4 ⟨rfl, hb4⟩; have Hb4 := hid hb4; clear hb4))
    refine HR.out _ _ ⟨T, I, by rw [← Hie.out]; exact Hmd.out, (cput_c3 H.out Hi.out Hb1.out Hc3.out Hb4.out).drewN _, .inl ⟨Hfull.out, rfl, ?_⟩⟩
    rw [← Hie.out]
    exact (C3.out.below Hb4.out).drewN _
  · have Hfull := hid hfull
    clear hfull
    go_upto_region 5 with fail
    go_cut [36] (fun v36 wx => v36 = .bool false ∧ Below w3.heap.size w3 wx)
    case first =>
      cases hst : S.st with
      | true =>
        have e3' : blkOf w3 x.g = some (.cells #[.slice (some ⟨x.row, 0, none⟩) x.n x.cp, .int .u64 S.room, .bool true, .map (some x.mp), .int .i64 S.last] 141 (0, 0)) := by rw [← hst]; exact e3
        have h2 : ¬ q < addTop u ch := fun h => Hfull.out (hfu.2 ⟨hst, h⟩)
        clear hfu hst e3
        go_wp2_with (first
          | (go_at_call 77; have q4 := Hb4.out; refine (Hsh.out _ q4).mono ?_; rintro e _ ⟨rfl, m2, rfl⟩; clear q4)
          | (go_at_call 59; refine (Hcp.out _ hur hch).mono ?_; rintro e w5 ⟨rfl, rfl⟩)
          | (go_at_call 78; refine Hus.out.mono ?_; rintro e w4 ⟨rfl, hb4⟩; have Hb4 := hid hb4; clear hb4))
        go_meet
        exact ⟨congrArg Value.bool (decide_eq_false (by omega)), bl_drewN Hb4.out _⟩
      | false =>
        have e3' : blkOf w3 x.g = some (.cells #[.slice (some ⟨x.row, 0, none⟩) x.n x.cp, .int .u64 S.room, .bool false, .map (some x.mp), .int .i64 S.last] 141 (0, 0)) := by rw [← hst]; exact e3
        clear hfu hst e3
        go_wp2_with fail
        go_meet
        exact ⟨rfl, Below.refl _ _⟩
    case rest =>
      obtain ⟨rfl, hb4⟩ := hcut
      have C4 := hid (C3.out.below hb4)
      have hmi := (C4.out.sh_turn Hi.out).inm
      have s4 := (C4.out.sh_turn Hi.out).blk
      have Hb4 := hid hb4
      clear hb4 e3 l3 s3
      cases hlk : look T.inm key with
      | none =>
        have hpg : (pget (inP T.inm) key).getD (.pointer none) = .pointer none := by rw [pget_inP, hlk]; rfl
        have Hlk := hid hlk
        clear hlk
        go_wp2_with (at_lookup; refine wpList_mget skeys Try.underlying143 rfl (.tmp 40) (.tmp 41) rfl (zero149 _) rfl hmi key rfl ?_; rw [hpg])
        clear s4 hpg hmi
        obtain ⟨wz, hwz⟩ : ∃ wz, wz = wc := ⟨_, rfl⟩
        subst hwz
        obtain ⟨Sz, hSz⟩ : ∃ Sz, Sz = (S.turn i T I).clear i key := ⟨_, rfl⟩
        have hcl : (S.turn i T I).clear i key = S.turn i T I := by unfold CS.clear; rw [turn_sh, Hlk.out]
        have Okz : Hid (COk x.n Sz) := hid (by rw [hSz, hcl]; exact Ok3.out)
        have Cz : Hid (CAt B wz x Sz) := hid (by rw [hSz, hcl]; exact C4.out)
        have Hlz : Hid (Sz.last = S.last ∧ Sz.pins = S.pins ∧ Sz.its = S.its) := hid (by rw [hSz, hcl]; exact ⟨rfl, rfl, rfl⟩)
        have Hcz : Hid (Chg (x.F S) w wz) := hid (cput_c3 H.out Hi.out Hb1.out Hc3.out Hb4.out)
        have Hfz : Hid (∀ p ∈ (Sz.sh i).inm, p.1 ≠ key) := hid (by rw [hSz, hcl, turn_sh]; exact look_none Hlk.out)
        have HSz := hid hSz
        clear hSz hcl
        obtain ⟨U, hU⟩ : ∃ U, U = Sz.sh i := ⟨_, rfl⟩
        have hsh := Cz.out.shs i Hi.out
        rw [← hU] at hsh Hfz
        have Hal : Hid (∀ y ∈ U.al, y ∈ Sz.its) := hid (by rw [hU]; exact Okz.out.al i Hi.out)
        have Hin : Hid (∀ y ∈ U.al, IsI wz y) := hid fun y hy => Cz.out.isI (Hal.out y hy)
        have HU := hid hU
        clear hU
        obtain ⟨W0, hW0⟩ : ∃ W0, W0 = wz.alloc (.cells #[.string key, .string v, .int .u64 ch, .bool true, .int .i64 0] 152) := ⟨_, rfl⟩
        rw [← hW0]
        have hsh0 : ShAt B W0 (x.sh i) U := by rw [hW0]; exact hsh.below (bl_alloc (Below.refl _ _) _)
        have hnb : blkOf W0 wz.heap.size = some (.cells #[.string key, .string v, .int .u64 ch, .bool true, .int .i64 0] 152 (0, 0)) := by rw [hW0]; exact blk_new _ _
        have hAW : AddW W0 (x.sh i) (.slice (x.sh i).A U.wt.length (x.sh i).c) U.al wz.heap.size W0 := by
          have hI : ∀ z, z = wz.heap.size ∨ z ∈ U.al → IsI W0 z := fun z hz => by
            rcases hz with rfl | hz
            · exact ⟨_, hnb⟩
            · obtain ⟨cz, hcz⟩ := Hin.out z hz
              exact ⟨cz, by rw [hW0]; exact (blk_past _ _ _ (Blk.lt hcz)).trans hcz⟩
          exact ⟨hsh0.blk, hI, fun z hz => ⟨fun e => hsh0.ni (.inr (.inl e)) (hI z hz), fun e => hsh0.ni (.inr (.inr (.inl e))) (hI z hz)⟩, ⟨fun e => map_ne_blk hsh0.inm hsh0.blk e.symm, fun e => map_ne_blk hsh0.al hsh0.blk e.symm⟩, Chg.refl _ _⟩
        have hIn : Hid (Ph skey W0 (x.sh i).mi (inP U.inm) key (.pointer (some ⟨wz.heap.size, 0, none⟩)) 0 0) := hid hsh0.inm
        have hAl : Hid (Ph ptr W0 (x.sh i).ma (setP U.al) wz.heap.size (.bool true) 0 0) := hid hsh0.al
        have hW := hid hAW
        have hs := hAW.blk
        have ne : Hid ((x.sh i).mi ≠ (x.sh i).ma) := hid hsh0.ne
        have lmi : Hid ((x.sh i).mi < W0.heap.size ∧ (x.sh i).ma < W0.heap.size) := hid ⟨hsh0.inm.lt, hsh0.al.lt⟩
        have HW0 := hid hW0
        have Hnb := hid hnb
        have Hsh0 := hid hsh0
        clear hW0 hAW hnb hsh0 hsh
        go_cut [] (fun wx => AddW W0 (x.sh i) (.slice (x.sh i).A U.wt.length (x.sh i).c) U.al wz.heap.size wx ∧ MapAt skey wx (x.sh i).mi (pput (inP U.inm) key (.pointer (some ⟨wz.heap.size, 0, none⟩))) ∧ MapAt ptr wx (x.sh i).ma (pput (setP U.al) wz.heap.size (.bool true)))
        case first =>
          go_region_with ((first
            | (refine upon_mentry (enc := skey) (l := inP U.inm) Try.underlying143 (zero149 _) ?_ key (skeys.at _ _ _) ?_; exact hIn.out.zero.of_blk rfl; intro w' st y hE hc; replace hW := hid (hW.out.next hc ⟨rfl, rfl, rfl, rfl⟩ (.inl rfl)); replace hAl := hid (hAl.out.of_blk (hc.block _ lmi.out.2 (Ne.symm ne.out))); replace lmi := hid (And.intro (Nat.lt_of_lt_of_le lmi.out.1 hc.size) (Nat.lt_of_lt_of_le lmi.out.2 hc.size)); have hs := hW.out.blk; replace hIn : Hid (Ph skey w' (x.sh i).mi (inP U.inm) key (.pointer (some ⟨wz.heap.size, 0, none⟩)) 1 st) := hid ⟨y, hE⟩; clear hE hc)
            | (refine upon_mentry (enc := ptr) (l := setP U.al) Try.underlying144 (zero4b _) ?_ wz.heap.size ?_ ?_; exact hAl.out.zero.of_blk rfl; exact hW.out.key ⟨rfl, rfl, rfl, rfl⟩; intro w' st y hE hc; replace hW := hid (hW.out.next hc ⟨rfl, rfl, rfl, rfl⟩ (.inr rfl)); replace hIn := hid (hIn.out.of_blk (hc.block _ lmi.out.1 ne.out)); replace lmi := hid (And.intro (Nat.lt_of_lt_of_le lmi.out.1 hc.size) (Nat.lt_of_lt_of_le lmi.out.2 hc.size)); have hs := hW.out.blk; replace hAl : Hid (Ph ptr w' (x.sh i).ma (setP U.al) wz.heap.size (.bool true) 1 st) := hid ⟨y, hE⟩; clear hE hc)
            | (obtain ⟨y, hE⟩ := hIn.out.one; refine upon_mstore (enc := skey) (l := pput (inP U.inm) key y) (k := key) ?_ (.pointer (some ⟨wz.heap.size, 0, none⟩)) ?_; exact hE.of_blk rfl; clear hE; intro w' hE hc; replace hW := hid (hW.out.next hc ⟨rfl, rfl, rfl, rfl⟩ (.inl rfl)); replace hAl := hid (hAl.out.of_blk (hc.block _ lmi.out.2 (Ne.symm ne.out))); replace lmi := hid (And.intro (Nat.lt_of_lt_of_le lmi.out.1 hc.size) (Nat.lt_of_lt_of_le lmi.out.2 hc.size)); have hs := hW.out.blk; rw [pput_put] at hE; replace hIn : Hid (Ph skey w' (x.sh i).mi (inP U.inm) key (.pointer (some ⟨wz.heap.size, 0, none⟩)) 2 0) := hid hE; clear hE hc)
            | (obtain ⟨y, hE⟩ := hAl.out.one; refine upon_mstore (enc := ptr) (l := pput (setP U.al) wz.heap.size y) (k := wz.heap.size) ?_ (.bool true) ?_; exact hE.of_blk rfl; clear hE; intro w' hE hc; replace hW := hid (hW.out.next hc ⟨rfl, rfl, rfl, rfl⟩ (.inr rfl)); replace hIn := hid (hIn.out.of_blk (hc.block _ lmi.out.1 ne.out)); replace lmi := hid (And.intro (Nat.lt_of_lt_of_le lmi.out.1 hc.size) (Nat.lt_of_lt_of_le lmi.out.2 hc.size)); have hs := hW.out.blk; rw [pput_put] at hE; replace hAl : Hid (Ph ptr w' (x.sh i).ma (setP U.al) wz.heap.size (.bool true) 2 0) := hid hE; clear hE hc)))
          all_goals
            go_wp2_with fail
            go_meet
            exact ⟨hW.out, hIn.out.two, hAl.out.two⟩
        case rest =>
          obtain ⟨haw, hm1, hm2⟩ := hcut
          have hadd := Cz.out.add (Nat.le_trans hB Hcz.out.size) Hi.out HU.out.symm (a := ⟨key, .string v, ch, true, 0⟩) Hfz.out Hal.out HW0.out haw hm1 hm2
          obtain ⟨cadd, hcadd⟩ := hadd
          have Hp := hid (cadd.pin (b := wz.heap.size) (by show _ ∈ Sz.its ++ [_]; simp) (by show 0 ≤ (upd Sz.it _ _ wz.heap.size).pins ∧ (upd Sz.it _ _ wz.heap.size).pins ≤ Sz.last; rw [upd_same, Hlz.out.1]; exact ⟨Int.le_refl _, Ok.out.last⟩)
            (fun p hp => by have hp' : p ∈ Sz.pins := hp; rw [Hlz.out.2.1] at hp'; show _ ≤ Sz.last; rw [Hlz.out.1]; exact (Ok.out.pins p hp').1) (by show 0 ≤ Sz.last; rw [Hlz.out.1]; exact Ok.out.last) (by show Sz.last < _; rw [Hlz.out.1]; exact hl))
          have hlz : (Sz.added i wz.heap.size ⟨key, .string v, ch, true, 0⟩).last = S.last := Hlz.out.1
          rw [hlz] at Hp
          have Hca := hid hcadd
          clear haw hm1 hm2 cadd hcadd hlz
          go_wp2_with (go_at_call 80; refine Hp.out.mono ?_; rintro e w9 ⟨rfl, h9, hc9⟩; have H9 := hid h9; have Hc9 := hid hc9; clear h9 hc9)
          refine HR.out _ _ ⟨T, I, by rw [← Hie.out]; exact Hmd.out, ?_, .inr ⟨Hfull.out, wz.heap.size, Hcz.out.size, rfl, ?_⟩⟩
          · exact cput_c9 H.out Hi.out Hcz.out Hca.out (by have := Hc9.out; rw [show (Sz.added i wz.heap.size ⟨key, .string v, ch, true, 0⟩).its = S.its ++ [wz.heap.size] by show Sz.its ++ _ = _; rw [Hlz.out.2.2]] at this; exact this)
          · rw [← Hie.out, ← HSz.out]; exact H9.out
      | some b =>
        have hpg : (pget (inP T.inm) key).getD (.pointer none) = .pointer (some ⟨b, 0, none⟩) := by rw [pget_inP, hlk]; rfl
        have hin := Ok3.out.inm i Hi.out (key, b) (by rw [turn_sh]; exact look_some hlk)
        have Hin3 := hid hin
        have hbits : b ∈ S.its := Ok3.out.al i Hi.out b hin.1
        have Hout := hid (C4.out.out Ok3.out Hi.out (b := b) hbits hl)
        have Hlk := hid hlk
        clear hlk hin
        go_upto_region 11 with (first
          | (go_at_call 79; refine Hout.out.mono ?_; rintro e w5 ⟨rfl, h5, hc5⟩; have H5 := hid h5; have Hc5 := hid hc5; clear h5 hc5)
          | (at_lookup; refine wpList_mget skeys Try.underlying143 rfl (.tmp 40) (.tmp 41) rfl (zero149 _) rfl hmi key rfl ?_; rw [hpg]))
        clear s4 hpg hmi
        obtain ⟨wz, hwz⟩ : ∃ wz, wz = w5 := ⟨_, rfl⟩
        subst hwz
        obtain ⟨Sz, hSz⟩ : ∃ Sz, Sz = (S.turn i T I).clear i key := ⟨_, rfl⟩
        have hcl : (S.turn i T I).clear i key = (S.turn i T I).outAt i b := by unfold CS.clear; rw [turn_sh, Hlk.out]
        have hkb : sidx x.n ((S.turn i T I).it b).key = i := by rw [Hin3.out.2.1]; exact Hie.out.symm
        have Okz : Hid (COk x.n Sz) := hid (by rw [hSz, hcl]; exact Ok3.out.out Hi.out hkb)
        have Cz : Hid (CAt B wz x Sz) := hid (by rw [hSz, hcl]; exact H5.out)
        have Hlz : Hid (Sz.last = S.last ∧ Sz.pins = S.pins ∧ Sz.its = S.its) := hid (by rw [hSz, hcl]; exact ⟨rfl, rfl, rfl⟩)
        have Hcz : Hid (Chg (x.F S) w wz) := hid ((cput_c3 H.out Hi.out Hb1.out Hc3.out Hb4.out).trans Hc5.out (fun _ _ h => h) (fun k _ hk => hk.elim (fun h => .inr (.inr (.inr (.inl ⟨i, Hi.out, h⟩)))) (fun h => .inr (.inr (.inr (.inr h))))))
        have Hfz : Hid (∀ p ∈ (Sz.sh i).inm, p.1 ≠ key) := hid (by rw [hSz, hcl]; exact out_free Hin3.out.2.1)
        have HSz := hid hSz
        clear hSz hcl hkb
        obtain ⟨U, hU⟩ : ∃ U, U = Sz.sh i := ⟨_, rfl⟩
        have hsh := Cz.out.shs i Hi.out
        rw [← hU] at hsh Hfz
        have Hal : Hid (∀ y ∈ U.al, y ∈ Sz.its) := hid (by rw [hU]; exact Okz.out.al i Hi.out)
        have Hin : Hid (∀ y ∈ U.al, IsI wz y) := hid fun y hy => Cz.out.isI (Hal.out y hy)
        have HU := hid hU
        clear hU
        obtain ⟨W0, hW0⟩ : ∃ W0, W0 = wz.alloc (.cells #[.string key, .string v, .int .u64 ch, .bool true, .int .i64 0] 152) := ⟨_, rfl⟩
        rw [← hW0]
        have hsh0 : ShAt B W0 (x.sh i) U := by rw [hW0]; exact hsh.below (bl_alloc (Below.refl _ _) _)
        have hnb : blkOf W0 wz.heap.size = some (.cells #[.string key, .string v, .int .u64 ch, .bool true, .int .i64 0] 152 (0, 0)) := by rw [hW0]; exact blk_new _ _
        have hAW : AddW W0 (x.sh i) (.slice (x.sh i).A U.wt.length (x.sh i).c) U.al wz.heap.size W0 := by
          have hI : ∀ z, z = wz.heap.size ∨ z ∈ U.al → IsI W0 z := fun z hz => by
            rcases hz with rfl | hz
            · exact ⟨_, hnb⟩
            · obtain ⟨cz, hcz⟩ := Hin.out z hz
              exact ⟨cz, by rw [hW0]; exact (blk_past _ _ _ (Blk.lt hcz)).trans hcz⟩
          exact ⟨hsh0.blk, hI, fun z hz => ⟨fun e => hsh0.ni (.inr (.inl e)) (hI z hz), fun e => hsh0.ni (.inr (.inr (.inl e))) (hI z hz)⟩, ⟨fun e => map_ne_blk hsh0.inm hsh0.blk e.symm, fun e => map_ne_blk hsh0.al hsh0.blk e.symm⟩, Chg.refl _ _⟩
        have hIn : Hid (Ph skey W0 (x.sh i).mi (inP U.inm) key (.pointer (some ⟨wz.heap.size, 0, none⟩)) 0 0) := hid hsh0.inm
        have hAl : Hid (Ph ptr W0 (x.sh i).ma (setP U.al) wz.heap.size (.bool true) 0 0) := hid hsh0.al
        have hW := hid hAW
        have hs := hAW.blk
        have ne : Hid ((x.sh i).mi ≠ (x.sh i).ma) := hid hsh0.ne
        have lmi : Hid ((x.sh i).mi < W0.heap.size ∧ (x.sh i).ma < W0.heap.size) := hid ⟨hsh0.inm.lt, hsh0.al.lt⟩
        have HW0 := hid hW0
        have Hnb := hid hnb
        have Hsh0 := hid hsh0
        clear hW0 hAW hnb hsh0 hsh
        go_cut [] (fun wx => AddW W0 (x.sh i) (.slice (x.sh i).A U.wt.length (x.sh i).c) U.al wz.heap.size wx ∧ MapAt skey wx (x.sh i).mi (pput (inP U.inm) key (.pointer (some ⟨wz.heap.size, 0, none⟩))) ∧ MapAt ptr wx (x.sh i).ma (pput (setP U.al) wz.heap.size (.bool true)))
        case first =>
          go_region_with ((first
            | (refine upon_mentry (enc := skey) (l := inP U.inm) Try.underlying143 (zero149 _) ?_ key (skeys.at _ _ _) ?_; exact hIn.out.zero.of_blk rfl; intro w' st y hE hc; replace hW := hid (hW.out.next hc ⟨rfl, rfl, rfl, rfl⟩ (.inl rfl)); replace hAl := hid (hAl.out.of_blk (hc.block _ lmi.out.2 (Ne.symm ne.out))); replace lmi := hid (And.intro (Nat.lt_of_lt_of_le lmi.out.1 hc.size) (Nat.lt_of_lt_of_le lmi.out.2 hc.size)); have hs := hW.out.blk; replace hIn : Hid (Ph skey w' (x.sh i).mi (inP U.inm) key (.pointer (some ⟨wz.heap.size, 0, none⟩)) 1 st) := hid ⟨y, hE⟩; clear hE hc)
            | (refine upon_mentry (enc := ptr) (l := setP U.al) Try.underlying144 (zero4b _) ?_ wz.heap.size ?_ ?_; exact hAl.out.zero.of_blk rfl; exact hW.out.key ⟨rfl, rfl, rfl, rfl⟩; intro w' st y hE hc; replace hW := hid (hW.out.next hc ⟨rfl, rfl, rfl, rfl⟩ (.inr rfl)); replace hIn := hid (hIn.out.of_blk (hc.block _ lmi.out.1 ne.out)); replace lmi := hid (And.intro (Nat.lt_of_lt_of_le lmi.out.1 hc.size) (Nat.lt_of_lt_of_le lmi.out.2 hc.size)); have hs := hW.out.blk; replace hAl : Hid (Ph ptr w' (x.sh i).ma (setP U.al) wz.heap.size (.bool true) 1 st) := hid ⟨y, hE⟩; clear hE hc)
            | (obtain ⟨y, hE⟩ := hIn.out.one; refine upon_mstore (enc := skey) (l := pput (inP U.inm) key y) (k := key) ?_ (.pointer (some ⟨wz.heap.size, 0, none⟩)) ?_; exact hE.of_blk rfl; clear hE; intro w' hE hc; replace hW := hid (hW.out.next hc ⟨rfl, rfl, rfl, rfl⟩ (.inl rfl)); replace hAl := hid (hAl.out.of_blk (hc.block _ lmi.out.2 (Ne.symm ne.out))); replace lmi := hid (And.intro (Nat.lt_of_lt_of_le lmi.out.1 hc.size) (Nat.lt_of_lt_of_le lmi.out.2 hc.size)); have hs := hW.out.blk; rw [pput_put] at hE; replace hIn : Hid (Ph skey w' (x.sh i).mi (inP U.inm) key (.pointer (some ⟨wz.heap.size, 0, none⟩)) 2 0) := hid hE; clear hE hc)
            | (obtain ⟨y, hE⟩ := hAl.out.one; refine upon_mstore (enc := ptr) (l := pput (setP U.al) wz.heap.size y) (k := wz.heap.size) ?_ (.bool true) ?_; exact hE.of_blk rfl; clear hE; intro w' hE hc; replace hW := hid (hW.out.next hc ⟨rfl, rfl, rfl, rfl⟩ (.inr rfl)); replace hIn := hid (hIn.out.of_blk (hc.block _ lmi.out.1 ne.out)); replace lmi := hid (And.intro (Nat.lt_of_lt_of_le lmi.out.1 hc.size) (Nat.lt_of_lt_of_le lmi.out.2 hc.size)); have hs := hW.out.blk; rw [pput_put] at hE; replace hAl : Hid (Ph ptr w' (x.sh i).ma (setP U.al) wz.heap.size (.bool true) 2 0) := hid hE; clear hE hc)))
          all_goals
            go_wp2_with fail
            go_meet
            exact ⟨hW.out, hIn.out.two, hAl.out.two⟩
        case rest =>
          obtain ⟨haw, hm1, hm2⟩ := hcut
          have hadd := Cz.out.add (Nat.le_trans hB Hcz.out.size) Hi.out HU.out.symm (a := ⟨key, .string v, ch, true, 0⟩) Hfz.out Hal.out HW0.out haw hm1 hm2
          obtain ⟨cadd, hcadd⟩ := hadd
          have Hp := hid (cadd.pin (b := wz.heap.size) (by show _ ∈ Sz.its ++ [_]; simp) (by show 0 ≤ (upd Sz.it _ _ wz.heap.size).pins ∧ (upd Sz.it _ _ wz.heap.size).pins ≤ Sz.last; rw [upd_same, Hlz.out.1]; exact ⟨Int.le_refl _, Ok.out.last⟩)
            (fun p hp => by have hp' : p ∈ Sz.pins := hp; rw [Hlz.out.2.1] at hp'; show _ ≤ Sz.last; rw [Hlz.out.1]; exact (Ok.out.pins p hp').1) (by show 0 ≤ Sz.last; rw [Hlz.out.1]; exact Ok.out.last) (by show Sz.last < _; rw [Hlz.out.1]; exact hl))
          have hlz : (Sz.added i wz.heap.size ⟨key, .string v, ch, true, 0⟩).last = S.last := Hlz.out.1
          rw [hlz] at Hp
          have Hca := hid hcadd
          clear haw hm1 hm2 cadd hcadd hlz
          go_wp2_with (go_at_call 80; refine Hp.out.mono ?_; rintro e w9 ⟨rfl, h9, hc9⟩; have H9 := hid h9; have Hc9 := hid hc9; clear h9 hc9)
          refine HR.out _ _ ⟨T, I, by rw [← Hie.out]; exact Hmd.out, ?_, .inr ⟨Hfull.out, wz.heap.size, Hcz.out.size, rfl, ?_⟩⟩
          · exact cput_c9 H.out Hi.out Hcz.out Hca.out (by have := Hc9.out; rw [show (Sz.added i wz.heap.size ⟨key, .string v, ch, true, 0⟩).its = S.its ++ [wz.heap.size] by show Sz.its ++ _ = _; rw [Hlz.out.2.2]] at this; exact this)
          · rw [← Hie.out, ← HSz.out]; exact H9.out

end Go.Proofs.Ytbiaelaaihieeaa.Str
