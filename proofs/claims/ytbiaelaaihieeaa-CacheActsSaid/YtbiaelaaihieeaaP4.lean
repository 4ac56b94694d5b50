/- The cache in a statement's walk: each call, with what it keeps of a pin's value. -/
import Derived.Test.YtbiaelaaihieeaaC17
import Derived.Test.YtbiaelaaihieeaaP1
set_option linter.unusedVariables false
set_option linter.unusedSimpArgs false
namespace Go.Proofs.Ytbiaelaaihieeaa
open Go.RowKit

/-- Pin k's value is v. -/
def Holds (S : CS) (k v : Int) : Prop := ∃ b, lookP S.pins k = some b ∧ (S.it b).v = .int .u64 v
/-- Each entry's value is a number. -/
def VOk (S : CS) : Prop := ∀ b ∈ S.its, ∃ v, (S.it b).v = .int .u64 v
theorem lookP_append {l : List (Int × Nat)} {k : Int} {b : Nat} (h : lookP l k = some b) (l' : List (Int × Nat)) : lookP (l ++ l') k = some b := by
  unfold lookP at *
  rw [List.find?_append]
  cases hf : l.find? (fun p => decide (p.1 = k)) with
  | none => rw [hf] at h; cases h
  | some p => rw [hf] at h; exact h
theorem lookP_new {l : List (Int × Nat)} {k : Int} {b : Nat} (h : ∀ p ∈ l, p.1 < k) : lookP (l ++ [(k, b)]) k = some b := by
  unfold lookP
  rw [List.find?_append]
  have : l.find? (fun p => decide (p.1 = k)) = none := by
    rw [List.find?_eq_none]
    intro p hp
    have := h p hp
    simp only [decide_eq_true_eq]; omega
  rw [this]; simp
theorem lookP_drop {l : List (Int × Nat)} {k q : Int} (h : k ≠ q) : lookP (l.filter fun p => decide (p.1 ≠ q)) k = lookP l k := by
  unfold lookP
  rw [List.find?_filter]
  congr 2
  funext p
  by_cases e : p.1 = k
  · simp [e, h]
  · simp [e]
theorem lookP_gone {l : List (Int × Nat)} {q : Int} : lookP (l.filter fun p => decide (p.1 ≠ q)) q = none := by
  unfold lookP
  simp only [Option.map_eq_none_iff, List.find?_eq_none, decide_eq_true_eq]
  intro p hp
  have := (List.mem_filter.1 hp).2
  simpa using this
section
variable {n : Nat} {S : CS}
theorem Holds.its {k v : Int} (ok : COk n S) (h : Holds S k v) : ∃ b, b ∈ S.its ∧ lookP S.pins k = some b ∧ (S.it b).v = .int .u64 v := by
  obtain ⟨b, h1, h2⟩ := h
  exact ⟨b, (ok.pins _ (lookP_some h1)).2, h1, h2⟩
theorem Holds.turn {k v : Int} (h : Holds S k v) {i : Nat} {T : Sh} {I : Nat → It} (hv : ∀ b, (I b).v = (S.it b).v) : Holds (S.turn i T I) k v := by
  obtain ⟨b, h1, h2⟩ := h
  exact ⟨b, h1, (hv b).trans h2⟩
theorem VOk.turn (h : VOk S) {i : Nat} {T : Sh} {I : Nat → It} (hv : ∀ b, (I b).v = (S.it b).v) : VOk (S.turn i T I) := by
  intro b hb
  obtain ⟨v, h⟩ := h b hb
  exact ⟨v, (hv b).trans h⟩
theorem Holds.clear {k v : Int} (h : Holds S k v) (i : Nat) (key : ByteArray) : Holds (S.clear i key) k v := by
  unfold CS.clear
  split
  · exact h
  · exact h.turn (fun b => off_v _ _ _)
theorem VOk.clear (h : VOk S) (i : Nat) (key : ByteArray) : VOk (S.clear i key) := by
  unfold CS.clear
  split
  · exact h
  · exact h.turn (fun b => off_v _ _ _)
theorem pinned_v (S : CS) (b c : Nat) : ((S.pinned b).it c).v = (S.it c).v := by
  show (upd S.it b _ c).v = _
  unfold upd; split
  · rename_i e; rw [e]
  · rfl
theorem Holds.pinned {k v : Int} (h : Holds S k v) (b : Nat) : Holds (S.pinned b) k v := by
  obtain ⟨c, h1, h2⟩ := h
  exact ⟨c, lookP_append h1 _, (pinned_v S b c).trans h2⟩
theorem VOk.pinned (h : VOk S) (b : Nat) : VOk (S.pinned b) := fun c hc => by
  obtain ⟨v, h⟩ := h c hc
  exact ⟨v, (pinned_v S b c).trans h⟩
theorem Holds.added {k v : Int} (h : Holds S k v) (hp : ∀ p ∈ S.pins, p.2 ∈ S.its) {nb : Nat} (hn : nb ∉ S.its) (i : Nat) (a : It) : Holds (S.added i nb a) k v := by
  obtain ⟨c, h1, h2⟩ := h
  refine ⟨c, h1, ?_⟩
  have : c ≠ nb := fun e => hn (by rw [← e]; exact hp _ (lookP_some h1))
  show (upd S.it nb a c).v = _
  rw [upd_ne _ _ this]; exact h2
theorem VOk.added (h : VOk S) {nb : Nat} (i : Nat) {a : It} (ha : ∃ v, a.v = .int .u64 v) : VOk (S.added i nb a) := fun c hc => by
  show ∃ v, (upd S.it nb a c).v = _
  unfold upd; split
  · exact ha
  · rename_i hne
    have hc' : c ∈ S.its ++ [nb] := hc
    rcases List.mem_append.1 hc' with h' | h'
    · exact h c h'
    · exact absurd (by simpa using h') hne
theorem unpinned_v (S : CS) (q : Int) (b c : Nat) : ((S.unpinned q b).it c).v = (S.it c).v := by
  show (upd S.it b _ c).v = _
  unfold upd; split
  · rename_i e; rw [e]
  · rfl
theorem Holds.unpinned {k v q : Int} (h : Holds S k v) (hkq : k ≠ q) (b : Nat) : Holds (S.unpinned q b) k v := by
  obtain ⟨c, h1, h2⟩ := h
  exact ⟨c, by show lookP (S.pins.filter _) k = _; rw [lookP_drop hkq]; exact h1, (unpinned_v S q b c).trans h2⟩
theorem VOk.unpinned (h : VOk S) (q : Int) (b : Nat) : VOk (S.unpinned q b) := fun c hc => by
  obtain ⟨v, h⟩ := h c hc
  exact ⟨v, (unpinned_v S q b c).trans h⟩
theorem Roomed.holds {q : Int} {j : Nat} {S S' : CS} (h : Roomed q j S S') : (∀ {k v : Int}, Holds S k v → Holds S' k v) ∧ (VOk S → VOk S') := by
  induction h with
  | zero => exact ⟨fun h => h, fun h => h⟩
  | succ _ hm ih => exact ⟨fun h => (ih.1 h).turn (fun b => (hm.same b).2.2.2), fun h => (ih.2 h).turn (fun b => (hm.same b).2.2.2)⟩
end

/-- A cache in a statement's walk: m: no more pins were given. -/
structure CW (w : World) (B : Nat) (g n : Nat) (m : Int) (x : CL) (S : CS) (wr : World) : Prop where
  hg : x.g = g
  hn : x.n = n
  at_ : CAt B wr x S
  ok : COk n S
  vok : VOk S
  last : S.last ≤ m
  few : m < 8796093022208
  base : w.heap.size ≤ B
  size : B ≤ wr.heap.size
  below : Below w.heap.size w wr
section
variable {w wr w' : World} {B g n : Nat} {m : Int} {x : CL} {S : CS}
theorem CW.next (c : CW w B g n m x S wr) {m' : Int} {x' : CL} {S' : CS} (hc : Chg (x.F S) wr w') (h1 : x'.g = g) (h2 : x'.n = n) (hC : CAt B w' x' S') (ok : COk n S') (vok : VOk S') (hl : S'.last ≤ m') (hf : m' < 8796093022208) : CW w B g n m' x' S' w' :=
  ⟨h1, h2, hC, ok, vok, hl, hf, c.base, Nat.le_trans c.size hc.size, c.below.trans (hc.to_below (Nat.le_trans c.base c.size) (fun k hk hf => by have := (c.at_.lt hf).1; have := c.base; omega))⟩
theorem CW.later (c : CW w B g n m x S wr) (hb : Below wr.heap.size wr w') : CW w B g n m x S w' := c.next (Chg.of_below hb) c.hg c.hn (c.at_.below hb) c.ok c.vok c.last c.few
theorem CW.more (c : CW w B g n m x S wr) {m' : Int} (h : m ≤ m') (hf : m' < 8796093022208) : CW w B g n m' x S wr := ⟨c.hg, c.hn, c.at_, c.ok, c.vok, Int.le_trans c.last h, hf, c.base, c.size, c.below⟩
/-- What a call of Put leaves, of whatever answer. -/
structure PutOut (w : World) (B g n : Nat) (m : Int) (x : CL) (S : CS) (wr W : World) (key : ByteArray) (v ch : Int) (z a : Int) (S' : CS) (w' : World) : Prop where
  cw : CW w B g n (m + 1) x S' w'
  keeps : ∀ k v, Holds S k v → Holds S' k v
  far : ∀ k, wr.heap.size ≤ k → k < W.heap.size → blkOf w' k = blkOf W k
  or : (z = 2 ∧ 1024 < key.size) ∨ (z = 110 ∧ ∃ T I, Made ch (S.room / n) (S.sh (sidx n key)) S.it T I ∧ S.full n ch T I) ∨ (z = 0 ∧ a = S.last + 1 ∧ Holds S' a v)
theorem CW.put (c : CW w B g n m x S wr) (key : ByteArray) (v ch : Int) (hk : key.size ≤ maxLen) (hch : 0 ≤ ch ∧ ch ≤ 18446744073709551615) (hm : m + 1 < 8796093022208) (W : World) (hW : Below wr.heap.size wr W) :
    Calls Try.prog 25 #[.pointer (some ⟨g, 0, none⟩), .string key, .int .u64 v, .int .u64 ch] W fun e w' => ∃ z a S', e = .returned (.tuple #[.int .i64 a, .int .i64 z]) ∧ PutOut w B g n m x S wr W key v ch z a S' w' := by
  have c2 := c.later hW
  obtain ⟨rfl, rfl⟩ : x.g = g ∧ x.n = n := ⟨c.hg, c.hn⟩
  have hla := c.last
  have hl0 := c.ok.last
  by_cases hl : 1024 < key.size
  · refine (cput_long x key v ch W hl hk).mono ?_
    rintro e w' ⟨rfl, rfl⟩
    exact ⟨2, 0, S, rfl, c2.more (by omega) hm, fun _ _ h => h, fun _ _ _ => rfl, .inl ⟨rfl, hl⟩⟩
  · refine (cput_any x S key v ch W c2.at_ c2.size c.ok (by omega) hch (by omega)).mono ?_
    rintro e w' ⟨T, I, hmd, hc, ho⟩
    have hsi := sidx_lt c.at_.n0 key
    have hs := hmd.same
    have hv : ∀ b, (I b).v = (S.it b).v := fun b => (hs b).2.2.2
    have far : ∀ k, wr.heap.size ≤ k → k < W.heap.size → blkOf w' k = blkOf W k := fun k h1 h2 => hc.block k h2 (fun hf => by have := (c.at_.lt hf).2; omega)
    rcases ho with ⟨hf, rfl, hC⟩ | ⟨hf, nb, hnb, rfl, hC⟩
    · exact ⟨110, 0, _, rfl, c2.next hc rfl rfl hC (c.ok.madeAt hsi hmd) (c.vok.turn hv) (by show S.last ≤ _; omega) hm, fun _ _ h => h.turn hv, far, .inr (.inl ⟨rfl, T, I, hmd, hf⟩)⟩
    · have hnits : nb ∉ S.its := fun h => by have := Blk.lt (c2.at_.its nb h); omega
      have ok1 := c.ok.madeAt hsi hmd
      have ok2 : COk x.n ((S.turn (sidx x.n key) T I).clear (sidx x.n key) key) := by
        unfold CS.clear
        rw [turn_sh]
        cases hlk : look T.inm key with
        | none => exact ok1
        | some b =>
          have hin := ok1.inm _ hsi (key, b) (by rw [turn_sh]; exact look_some hlk)
          exact ok1.out hsi (by rw [hin.2.1])
      have hsame : ((S.turn (sidx x.n key) T I).clear (sidx x.n key) key).its = S.its ∧ ((S.turn (sidx x.n key) T I).clear (sidx x.n key) key).pins = S.pins ∧ ((S.turn (sidx x.n key) T I).clear (sidx x.n key) key).last = S.last := by
        unfold CS.clear
        split <;> exact ⟨rfl, rfl, rfl⟩
      have ok3 := ok2.added hsi (nb := nb) (by rw [hsame.1]; exact hnits) (a := ⟨key, .int .u64 v, ch, true, 0⟩) rfl rfl hch rfl (by show key.size ≤ 1024; omega)
      refine ⟨0, S.last + 1, _, rfl, c2.next hc rfl rfl hC ok3 ((((c.vok.turn hv).clear _ _).added _ ⟨v, rfl⟩).pinned nb) (by show ((S.turn (sidx x.n key) T I).clear (sidx x.n key) key).last + 1 ≤ _; rw [hsame.2.2]; omega) hm, fun k u h => ?_, far, .inr (.inr ⟨rfl, rfl, nb, ?_, ?_⟩)⟩
      · exact (((h.turn hv).clear _ _).added (fun p hp => by rw [hsame.1]; rw [hsame.2.1] at hp; exact (c.ok.pins p hp).2) (by rw [hsame.1]; exact hnits) _ _).pinned nb
      · show lookP (((S.turn (sidx x.n key) T I).clear (sidx x.n key) key).pins ++ [(((S.turn (sidx x.n key) T I).clear (sidx x.n key) key).last + 1, nb)]) (S.last + 1) = some nb
        rw [hsame.2.1, hsame.2.2]
        exact lookP_new (fun p hp => by have := (c.ok.pins p hp).1; omega)
      · refine (pinned_v _ nb nb).trans ?_
        show (upd _ nb _ nb).v = _
        rw [upd_same]
theorem CW.free (c : CW w B g n m x S wr) {q : Int} {b : Nat} (hq : lookP S.pins q = some b) (W : World) (hW : Below wr.heap.size wr W) :
    Calls Try.prog 27 #[.pointer (some ⟨g, 0, none⟩), .int .i64 q] W fun e w' => e = .returned (.int .i64 0) ∧ ∃ x' S', CW w B g n m x' S' w' ∧ (∀ k v, k ≠ q → Holds S k v → Holds S' k v) ∧ lookP S'.pins q = none := by
  have c2 := c.later hW
  obtain ⟨rfl, rfl⟩ : x.g = g ∧ x.n = n := ⟨c.hg, c.hn⟩
  have hk := lookP_some hq
  have hnd := c.at_.pins_nodup
  have hla := c.last
  have hf := c.few
  refine (cfree_any x S q b W c2.at_ c2.size c.ok hq (by omega)).mono ?_
  rintro e w' ⟨rfl, hc, x', S', hg, hn, _, hC, ho⟩
  refine ⟨rfl, x', S', ?_⟩
  have hsi := sidx_lt c.at_.n0 (S.it b).key
  have ok1 := c.ok.unpinned hk hnd
  rcases ho with ⟨h1, rfl⟩ | ⟨h1, hin, T, I, hm, rfl⟩ | ⟨h1, hin, rfl⟩
  · exact ⟨c2.next hc hg hn hC ok1 (c.vok.unpinned q b) hla hf, fun k v hkq h => h.unpinned hkq b, lookP_gone⟩
  · have hba : b ∈ (S.sh (sidx x.n (S.it b).key)).al := c.ok.pinal _ hk
    have hbw : b ∉ (S.sh (sidx x.n (S.it b).key)).wt := fun hm => by have := c.ok.w0 _ hsi b hm; omega
    have ok2 := ok1.waits hsi hba (by show (upd S.it b _ b).pins = 0; rw [upd_same]; show (S.it b).pins - 1 = 0; omega) hbw
    have ok3 : COk x.n ((S.unpinned q b).turn (sidx x.n (S.it b).key) T I) := by
      have := ok2.madeAt hsi hm
      unfold CS.waits at this
      rw [turn_turn] at this
      exact this
    have hv : ∀ b', (I b').v = ((S.unpinned q b).it b').v := fun b' => (hm.same b').2.2.2
    exact ⟨c2.next hc hg hn hC ok3 ((c.vok.unpinned q b).turn hv) hla hf, fun k v hkq h => (h.unpinned hkq b).turn hv, lookP_gone⟩
  · have hkey : ((S.unpinned q b).it b).key = (S.it b).key := (unpinned_it S q b b).2.2
    have hp0 : ((S.unpinned q b).it b).pins = 0 := by have := (unpinned_it S q b b).2.1; rw [if_pos rfl] at this; omega
    exact ⟨c2.next hc hg hn hC (ok1.gone hsi (by rw [hkey]) hp0) ((c.vok.unpinned q b).turn (fun b' => off_v _ _ _)) hla hf, fun k v hkq h => (h.unpinned hkq b).turn (fun b' => off_v _ _ _), lookP_gone⟩
theorem CW.free_no (c : CW w B g n m x S wr) {q : Int} (hq : lookP S.pins q = none) :
    Calls Try.prog 27 #[.pointer (some ⟨g, 0, none⟩), .int .i64 q] wr fun e w' => e = .returned (.int .i64 111) ∧ w' = wr := by
  obtain ⟨rfl, rfl⟩ : x.g = g ∧ x.n = n := ⟨c.hg, c.hn⟩
  exact cfree_no x S q wr c.at_ hq
theorem CW.value (c : CW w B g n m x S wr) {k v : Int} (h : Holds S k v) :
    Calls Try.prog 34 #[.pointer (some ⟨g, 0, none⟩), .int .i64 k] wr fun e w' => e = .returned (.tuple #[.int .u64 v, .int .i64 0]) ∧ w' = wr := by
  obtain ⟨rfl, rfl⟩ : x.g = g ∧ x.n = n := ⟨c.hg, c.hn⟩
  obtain ⟨b, hb, h1, h2⟩ := h.its c.ok
  exact value_any x S k b v wr c.at_ h1 hb h2
theorem CW.get (c : CW w B g n m x S wr) (key : ByteArray) (hk : key.size ≤ maxLen) (hm : m + 1 < 8796093022208) (W : World) (hW : Below wr.heap.size wr W) :
    Calls Try.prog 31 #[.pointer (some ⟨g, 0, none⟩), .string key] W fun e w' => (∃ u, e = .returned u) ∧ ∃ S', CW w B g n (m + 1) x S' w' ∧ (∀ k v, Holds S k v → Holds S' k v) := by
  have c2 := c.later hW
  obtain ⟨rfl, rfl⟩ : x.g = g ∧ x.n = n := ⟨c.hg, c.hn⟩
  have hla := c.last
  refine (cget_any x S key W c2.at_ c.ok hk (by have := c.few; omega) c.vok).mono ?_
  rintro e w' ⟨hc, ho⟩
  have hsi := sidx_lt c.at_.n0 key
  cases hlk : look (S.sh (sidx x.n key)).inm key with
  | none =>
    rw [hlk] at ho
    exact ⟨⟨_, ho.1⟩, S, c2.next hc rfl rfl ho.2 c.ok c.vok (by omega) hm, fun _ _ h => h⟩
  | some b =>
    rw [hlk] at ho
    have hin := c.ok.inm _ hsi (key, b) (look_some hlk)
    have hbi := c.ok.al _ hsi b hin.1
    have ok1 : COk x.n (S.unwait (sidx x.n key) b) := c.ok.busy hsi b
    have ok2 : COk x.n ((S.unwait (sidx x.n key) b).pinned b) := by
      refine ok1.pinned hbi (fun j hj hmem => ?_) ?_
      · have hm' : b ∈ (putAt S.sh (sidx x.n key) { S.sh (sidx x.n key) with wt := less (S.sh (sidx x.n key)).wt b } j).wt := hmem
        by_cases ej : j = sidx x.n key
        · rw [ej, putAt_same] at hm'; exact less_ne hm' rfl
        · rw [putAt_ne _ _ ej] at hm'
          have h1 := c.ok.alk j hj b ((c.ok.ok j hj).sub b hm')
          rw [hin.2.1] at h1
          exact ej h1.symm
      · show b ∈ (putAt S.sh (sidx x.n key) _ (sidx x.n (S.it b).key)).al
        rw [hin.2.1, putAt_same]; exact hin.1
    exact ⟨⟨_, ho.1⟩, _, c2.next hc rfl rfl ho.2 ok2 ((c.vok.turn (fun _ => rfl)).pinned b) (by show S.last + 1 ≤ _; omega) hm, fun k v h => (h.turn (fun _ => rfl)).pinned b⟩
theorem CW.drop (c : CW w B g n m x S wr) (key : ByteArray) (hk : key.size ≤ maxLen) (hm : m + 1 < 8796093022208) (W : World) (hW : Below wr.heap.size wr W) :
    Calls Try.prog 32 #[.pointer (some ⟨g, 0, none⟩), .string key] W fun e w' => (∃ u, e = .returned u) ∧ ∃ S', CW w B g n (m + 1) x S' w' ∧ (∀ k v, Holds S k v → Holds S' k v) := by
  have c2 := c.later hW
  obtain ⟨rfl, rfl⟩ : x.g = g ∧ x.n = n := ⟨c.hg, c.hn⟩
  have hla := c.last
  refine (cdrop_any x S key W c2.at_ c.ok hk (by have := c.few; omega)).mono ?_
  rintro e w' ⟨hc, ho⟩
  have hsi := sidx_lt c.at_.n0 key
  cases hlk : look (S.sh (sidx x.n key)).inm key with
  | none =>
    rw [hlk] at ho
    exact ⟨⟨_, ho.1⟩, S, c2.next hc rfl rfl ho.2 c.ok c.vok (by omega) hm, fun _ _ h => h⟩
  | some b =>
    rw [hlk] at ho
    have hin := c.ok.inm _ hsi (key, b) (look_some hlk)
    exact ⟨⟨_, ho.1⟩, _, c2.next hc rfl rfl ho.2 (c.ok.out hsi (by rw [hin.2.1])) (c.vok.turn (fun b' => off_v _ _ _)) (by show S.last ≤ _; omega) hm, fun k v h => h.turn (fun b' => off_v _ _ _)⟩
theorem CW.room (c : CW w B g n m x S wr) (room : Int) (hr : 0 ≤ room ∧ room ≤ 18446744073709551615) (hm : m + 1 < 8796093022208) (W : World) (hW : Below wr.heap.size wr W) :
    Calls Try.prog 33 #[.pointer (some ⟨g, 0, none⟩), .int .u64 room] W fun e w' => e = .returned (.tuple #[]) ∧ ∃ S', CW w B g n (m + 1) x S' w' ∧ (∀ k v, Holds S k v → Holds S' k v) := by
  have c2 := c.later hW
  obtain ⟨rfl, rfl⟩ : x.g = g ∧ x.n = n := ⟨c.hg, c.hn⟩
  have hla := c.last
  refine (croom_any x S room W c2.at_ c.ok hr (by have := c.few; omega)).mono ?_
  rintro e w' ⟨rfl, S', hro, hC, hc⟩
  have ok2 : COk x.n { S with room := room } := ⟨hr, c.ok.last, c.ok.ok, c.ok.al, c.ok.alk, c.ok.inm, c.ok.pins, c.ok.pn, c.ok.wtn, c.ok.itn, c.ok.cnt, c.ok.ksz, c.ok.pinal, c.ok.w0⟩
  exact ⟨rfl, S', c2.next hc rfl rfl hC (hro.ok (Nat.le_refl _) ok2) (hro.holds.2 c.vok) (by rw [hro.same.2.2.1]; show S.last ≤ _; omega) hm, fun k v h => hro.holds.1 h⟩
end
end Go.Proofs.Ytbiaelaaihieeaa
