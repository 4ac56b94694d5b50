/- Two caches in one memory: CacheApart's state and its calls. -/
import Derived.Test.YtbiaelaaihieeaaP4
import Derived.Test.YtbiaelaaihieeaaP6
import Derived.Test.YtbiaelaaihieeaaC18
set_option linter.unusedVariables false
set_option linter.unusedSimpArgs false
namespace Go.Proofs.Ytbiaelaaihieeaa
open Go.RowKit

/-- Two caches that share no block. -/
structure Pair (w : World) (B B' g h n : Nat) (mc md : Int) (x : CL) (S : CS) (y : CL) (D : CS) (wr : World) : Prop where
  c : CW w B g n mc x S wr
  d : CW w B' h n md y D wr
  ap : ∀ k, x.F S k → ¬ y.F D k
  sc : S.st = false
  sd : D.st = false
theorem PutR.it_new {n : Nat} {S S1 : CS} {key : ByteArray} {v ch : Int} {nb : Nat} (h : PutR n S key v ch nb S1) : S1.it nb = ⟨key, .int .u64 v, ch, true, 1⟩ := by
  obtain ⟨T, I, _, rfl⟩ := h
  obtain ⟨Z, hZ⟩ : ∃ Z, Z = (S.turn (sidx n key) T I).clear (sidx n key) key := ⟨_, rfl⟩
  rw [← hZ]
  show upd (upd Z.it nb _) nb { upd Z.it nb _ nb with pins := (upd Z.it nb _ nb).pins + 1 } nb = _
  rw [upd_same, upd_same]; rfl
section
variable {w wr W w' : World} {B B' g h n : Nat} {mc md : Int} {x y : CL} {S D : CS}
theorem Pair.symm (p : Pair w B B' g h n mc md x S y D wr) : Pair w B' B h g n md mc y D x S wr := ⟨p.d, p.c, fun k hk hk' => p.ap k hk' hk, p.sd, p.sc⟩
theorem Pair.later (p : Pair w B B' g h n mc md x S y D wr) (hb : Below wr.heap.size wr w') : Pair w B B' g h n mc md x S y D w' := ⟨p.c.later hb, p.d.later hb, p.ap, p.sc, p.sd⟩
theorem CW.other {F : Nat → Prop} (c : CW w B h n md y D wr) (hc : Chg F wr w') (h1 : ∀ k, y.F D k → ¬ F k) (h2 : ∀ k, F k → w.heap.size ≤ k) : CW w B h n md y D w' :=
  ⟨c.hg, c.hn, c.at_.chg hc h1, c.ok, c.vok, c.last, c.few, c.base, Nat.le_trans c.size hc.size, c.below.trans (hc.to_below (Nat.le_trans c.base c.size) (fun k hk hf => by have := h2 k hf; omega))⟩
/-- The left cache has been turned. -/
theorem Pair.turned (p : Pair w B B' g h n mc md x S y D wr) {mc' : Int} {x' : CL} {S' : CS} (hc : Chg (x.F S) wr w') (c : CW w B g n mc' x' S' w') (hF : ∀ k, x'.F S' k → x.F S k ∨ wr.heap.size ≤ k) (hs : S'.st = false) : Pair w B B' g h n mc' md x' S' y D w' :=
  ⟨c, p.d.other hc (fun k hk hk' => p.ap k hk' hk) (fun k hk => Nat.le_trans p.c.base (p.c.at_.lt hk).1), fun k hk hk' => (hF k hk).elim (fun h => p.ap k h hk') (fun h => by have := (p.d.at_.lt hk').2; omega), hs, p.sd⟩
/-- Another block, of neither cache. -/
structure Held (q : Nat) (ob : Obj) (x : CL) (S : CS) (y : CL) (D : CS) (wr : World) : Prop where
  blk : blkOf wr q = some ob
  c : ¬ x.F S q
  d : ¬ y.F D q
theorem Held.symm {q : Nat} {ob : Obj} (hh : Held q ob x S y D wr) : Held q ob y D x S wr := ⟨hh.blk, hh.d, hh.c⟩
theorem Held.lt {q : Nat} {ob : Obj} (hh : Held q ob x S y D wr) : q < wr.heap.size := (Array.getElem?_eq_some_iff.1 (show wr.heap[q]? = some ob from hh.blk)).1
theorem Held.below {q : Nat} {ob : Obj} (hh : Held q ob x S y D wr) (hb : Below wr.heap.size wr w') : Held q ob x S y D w' := ⟨(bl_at hb q hh.lt).trans hh.blk, hh.c, hh.d⟩
theorem Held.turned {q : Nat} {ob : Obj} (hh : Held q ob x S y D wr) {x' : CL} {S' : CS} (hc : Chg (x.F S) wr w') (hF : ∀ k, x'.F S' k → x.F S k ∨ wr.heap.size ≤ k) : Held q ob x' S' y D w' :=
  ⟨(hc.block q hh.lt hh.c).trans hh.blk, fun hk => (hF q hk).elim hh.c (fun h => by have := hh.lt; omega), hh.d⟩
theorem Pair.held (p : Pair w B B' g h n mc md x S y D wr) (ob : Obj) {W : World} (hs : wr.heap.size < W.heap.size) (hb : blkOf W wr.heap.size = some ob) : Held wr.heap.size ob x S y D W :=
  ⟨hb, fun hk => by have := (p.c.at_.lt hk).2; omega, fun hk => by have := (p.d.at_.lt hk).2; omega⟩
/-- Put, on the left. -/
theorem Pair.put (p : Pair w B B' g h n mc md x S y D wr) (key : ByteArray) (v ch : Int) (hk : key.size ≤ maxLen) (hch : 0 ≤ ch ∧ ch ≤ 18446744073709551615) (hm : mc + 1 < 8796093022000) (W : World) (hW : Below wr.heap.size wr W) :
    Calls Try.prog 25 #[.pointer (some ⟨g, 0, none⟩), .string key, .int .u64 v, .int .u64 ch] W fun e w' => (1024 < key.size ∧ e = .returned (.tuple #[.int .i64 0, .int .i64 2]) ∧ w' = W) ∨
      (key.size ≤ 1024 ∧ ∃ S1 nb, e = .returned (.tuple #[.int .i64 (S.last + 1), .int .i64 0]) ∧ PutR n S key v ch nb S1 ∧ nb ∉ S.its ∧ lookP S1.pins (S.last + 1) = some nb ∧ Pair w B B' g h n (mc + 1) md x S1 y D w' ∧ ∀ q ob, Held q ob x S y D W → Held q ob x S1 y D w') := by
  have p2 := p.later hW
  have c := p2.c
  obtain ⟨rfl, rfl⟩ : x.g = g ∧ x.n = n := ⟨c.hg, c.hn⟩
  have hla := c.last
  have hl0 := c.ok.last
  by_cases hl : 1024 < key.size
  · refine (cput_long x key v ch W hl hk).mono ?_
    rintro e w' ⟨rfl, rfl⟩
    exact .inl ⟨hl, rfl, rfl⟩
  · refine (cput_any x S key v ch W c.at_ c.size c.ok (by omega) hch (by omega)).mono ?_
    rintro e w' ⟨T, I, hmd, hc, ho⟩
    have hsi := sidx_lt c.at_.n0 key
    have hs := hmd.same
    have hv : ∀ b, (I b).v = (S.it b).v := fun b => (hs b).2.2.2
    rcases ho with ⟨hf, _, _⟩ | ⟨hf, nb, hnb, rfl, hC⟩
    · exact absurd hf.1 (by rw [p.sc]; decide)
    · have hnits : nb ∉ S.its := fun h => by have := Blk.lt (c.at_.its nb h); omega
      have ok1 := c.ok.madeAt hsi hmd
      have ok2 : COk x.n ((S.turn (sidx x.n key) T I).clear (sidx x.n key) key) := by
        unfold CS.clear
        rw [turn_sh]
        cases hlk : look T.inm key with
        | none => exact ok1
        | some b =>
          have hin := ok1.inm _ hsi (key, b) (by rw [turn_sh]; exact look_some hlk)
          exact ok1.out hsi (by rw [hin.2.1])
      have hsame : ((S.turn (sidx x.n key) T I).clear (sidx x.n key) key).its = S.its ∧ ((S.turn (sidx x.n key) T I).clear (sidx x.n key) key).pins = S.pins ∧ ((S.turn (sidx x.n key) T I).clear (sidx x.n key) key).last = S.last ∧ ((S.turn (sidx x.n key) T I).clear (sidx x.n key) key).st = S.st := by
        unfold CS.clear
        split <;> exact ⟨rfl, rfl, rfl, rfl⟩
      have ok3 := ok2.added hsi (nb := nb) (by rw [hsame.1]; exact hnits) (a := ⟨key, .int .u64 v, ch, true, 0⟩) rfl rfl hch rfl (by show key.size ≤ 1024; omega)
      have hF : ∀ k, x.F ((((S.turn (sidx x.n key) T I).clear (sidx x.n key) key).added (sidx x.n key) nb ⟨key, .int .u64 v, ch, true, 0⟩).pinned nb) k → x.F S k ∨ W.heap.size ≤ k := by
        intro k hk
        rcases hk with h | h | h | h | h
        · exact .inl (.inl h)
        · exact .inl (.inr (.inl h))
        · exact .inl (.inr (.inr (.inl h)))
        · exact .inl (.inr (.inr (.inr (.inl h))))
        · have h : k ∈ ((S.turn (sidx x.n key) T I).clear (sidx x.n key) key).its ++ [nb] := h
          rw [hsame.1] at h
          rcases List.mem_append.1 h with h | h
          · exact .inl (.inr (.inr (.inr (.inr h))))
          · have : k = nb := by simpa using h
            exact .inr (by rw [this]; exact hnb)
      refine .inr ⟨by omega, _, nb, rfl, ⟨T, I, hmd, rfl⟩, hnits, ?_, p2.turned hc (c.next hc rfl rfl hC ok3 ((((c.vok.turn hv).clear _ _).added _ ⟨v, rfl⟩).pinned nb) (by show ((S.turn (sidx x.n key) T I).clear (sidx x.n key) key).last + 1 ≤ _; rw [hsame.2.2.1]; omega) (by omega)) hF (hsame.2.2.2.trans p.sc), fun q ob hh => hh.turned hc hF⟩
      · show lookP (((S.turn (sidx x.n key) T I).clear (sidx x.n key) key).pins ++ [(((S.turn (sidx x.n key) T I).clear (sidx x.n key) key).last + 1, nb)]) (S.last + 1) = some nb
        rw [hsame.2.1, hsame.2.2.1]
        exact lookP_new (fun p hp => by have := (c.ok.pins p hp).1; omega)
/-- Free, on the left, of an entry that is in, its last pin. -/
theorem Pair.free (p : Pair w B B' g h n mc md x S y D wr) {a : Int} {b : Nat} {key : ByteArray} (hq : lookP S.pins a = some b) (hk1 : (S.it b).key = key) (h1 : (S.it b).pins = 1) (h2 : (S.it b).inn = true) (W : World) (hW : Below wr.heap.size wr W) :
    Calls Try.prog 27 #[.pointer (some ⟨g, 0, none⟩), .int .i64 a] W fun e w' => e = .returned (.int .i64 0) ∧ ∃ x' S2, FreeR n S a b (sidx n key) S2 ∧ Pair w B B' g h n mc md x' S2 y D w' ∧ ∀ q ob, Held q ob x S y D W → Held q ob x' S2 y D w' := by
  have p2 := p.later hW
  have c := p2.c
  obtain ⟨rfl, rfl⟩ : x.g = g ∧ x.n = n := ⟨c.hg, c.hn⟩
  subst hk1
  have hk := lookP_some hq
  have hnd := c.at_.pins_nodup
  have hla := c.last
  have hf := c.few
  refine (cfree_any x S a b W c.at_ c.size c.ok hq (by omega)).mono ?_
  rintro e w' ⟨rfl, hc, x', S', hg, hn, hF, hC, ho⟩
  refine ⟨rfl, x', S', ?_⟩
  have hsi := sidx_lt c.at_.n0 (S.it b).key
  have ok1 := c.ok.unpinned hk hnd
  rcases ho with ⟨h3, _⟩ | ⟨_, hin, T, I, hm, rfl⟩ | ⟨_, hin, _⟩
  · omega
  · have hba : b ∈ (S.sh (sidx x.n (S.it b).key)).al := c.ok.pinal _ hk
    have hbw : b ∉ (S.sh (sidx x.n (S.it b).key)).wt := fun hm => by have := c.ok.w0 _ hsi b hm; omega
    have ok2 := ok1.waits hsi hba (by show (upd S.it b _ b).pins = 0; rw [upd_same]; show (S.it b).pins - 1 = 0; omega) hbw
    have ok3 : COk x.n ((S.unpinned a b).turn (sidx x.n (S.it b).key) T I) := by
      have := ok2.madeAt hsi hm
      unfold CS.waits at this
      rw [turn_turn] at this
      exact this
    have hv : ∀ b', (I b').v = ((S.unpinned a b).it b').v := fun b' => (hm.same b').2.2.2
    exact ⟨⟨T, I, hm, rfl⟩, p2.turned hc (c.next hc hg hn hC ok3 ((c.vok.unpinned a b).turn hv) hla hf) hF p.sc, fun q ob hh => hh.turned hc hF⟩
  · rw [h2] at hin; cases hin
end
/-- One act upon one cache. -/
def ActR (n : Nat) (fr : Bool) (key : ByteArray) (v ch : Int) (S S2 : CS) : Prop :=
  ∃ S1 nb, PutR n S key v ch nb S1 ∧ nb ∉ S.its ∧ COk n S1 ∧ (fr = false → S2 = S1) ∧ (fr = true → ∃ k, FreeR n S1 k nb (sidx n key) S2)
section
variable {n : Nat} {S S2 D D2 : CS} {key : ByteArray} {v ch : Int} {fr : Bool} {i : Nat} {ρ : Nat → Nat}
theorem PutR.al {S1 : CS} {nb : Nat} (h : PutR n S key v ch nb S1) : nb ∈ (S1.sh (sidx n key)).al := by
  obtain ⟨T, I, _, rfl⟩ := h
  obtain ⟨Z, hZ⟩ : ∃ Z, Z = (S.turn (sidx n key) T I).clear (sidx n key) key := ⟨_, rfl⟩
  rw [← hZ]
  show nb ∈ (putAt Z.sh (sidx n key) { inm := (Z.sh (sidx n key)).inm ++ [(key, nb)], al := (Z.sh (sidx n key)).al ++ [nb], wt := (Z.sh (sidx n key)).wt } (sidx n key)).al
  rw [putAt_same]
  exact List.mem_append_right _ (List.mem_singleton.2 rfl)
theorem ActR.far (h : ActR n fr key v ch S S2) (ok : COk n S) (hn : 0 < n) (hi : i < n) (hne : sidx n key ≠ i) (s : SameAt ρ i S D) : SameAt ρ i S2 D := by
  obtain ⟨S1, nb, hp, hnb, ok1, h0, h1⟩ := h
  have hj := sidx_lt hn key
  obtain ⟨a1, a2, a3⟩ := hp.far ok hi hj hne hnb
  have s1 := s.left a1 a2 a3
  cases fr with
  | false => rw [h0 rfl]; exact s1
  | true =>
    obtain ⟨k, hf⟩ := h1 rfl
    obtain ⟨b1, b2, b3⟩ := hf.far ok1 hi hj hne hp.al
    exact s1.left b1 b2 b3
theorem ActR.both (h : ActR n fr key v ch S S2) (h' : ActR n fr key v ch D D2) (ok : COk n S) (ok' : COk n D) (hn : 0 < n) (s : SameAt ρ (sidx n key) S D) : ∃ ρ', SameAt ρ' (sidx n key) S2 D2 := by
  obtain ⟨S1, nb, hp, hnb, ok1, h0, h1⟩ := h
  obtain ⟨D1, nb', hp', hnb', ok1', h0', h1'⟩ := h'
  have hj := sidx_lt hn key
  obtain ⟨s1, _, _, hal, io⟩ := hp.both hp' ok ok' hj s hnb hnb'
  refine ⟨fun c => if c = nb then nb' else ρ c, ?_⟩
  cases fr with
  | false => rw [h0 rfl, h0' rfl]; exact s1
  | true =>
    obtain ⟨k, hf⟩ := h1 rfl
    obtain ⟨k', hf'⟩ := h1' rfl
    refine hf.both (k' := k') ?_ s1 io hal
    show FreeR n D1 k' (if nb = nb then nb' else ρ nb) _ D2
    rw [if_pos rfl]; exact hf'
theorem SameAt.keys (s : SameAt ρ i S D) : D.keys i = S.keys i := by
  unfold CS.keys
  rw [s.2.wt, List.map_map]
  apply List.map_congr_left
  intro b hb
  show (D.it (ρ b)).key = _
  rw [s.2.it b (s.2.subw b hb)]
theorem SameAt.look_ (s : SameAt ρ i S D) (key : ByteArray) : look (D.sh i).inm key = (look (S.sh i).inm key).map ρ := by rw [s.2.inm]; exact look_map _ _
end
/-- A number's number. -/
def numV : Value → Int
  | .int _ z => z
  | _ => 0
def CS.val (S : CS) (i : Nat) (key : ByteArray) : Int := match look (S.sh i).inm key with
  | none => 0
  | some b => numV (S.it b).v
theorem SameAt.val {S D : CS} {i : Nat} {ρ : Nat → Nat} (s : SameAt ρ i S D) (key : ByteArray) : D.val i key = S.val i key ∧ (look (D.sh i).inm key).isSome = (look (S.sh i).inm key).isSome := by
  unfold CS.val
  rw [s.look_ key]
  cases hl : look (S.sh i).inm key with
  | none => exact ⟨rfl, rfl⟩
  | some b =>
    refine ⟨?_, rfl⟩
    show numV (D.it (ρ b)).v = _
    rw [s.2.it b (s.2.subi _ (look_some hl))]
section
variable {w wr W w' : World} {B g n : Nat} {m : Int} {x : CL} {S : CS}
theorem CW.get2 (c : CW w B g n m x S wr) (key : ByteArray) (hk : key.size ≤ maxLen) (W : World) (hW : Below wr.heap.size wr W) :
    Calls Try.prog 31 #[.pointer (some ⟨g, 0, none⟩), .string key] W fun e w' => (∃ a, e = .returned (.tuple #[.int .i64 a, .int .u64 (S.val (sidx n key) key), .bool (look (S.sh (sidx n key)).inm key).isSome])) ∧ Chg (x.F S) wr w' ∧ Below w.heap.size w w' := by
  have c2 := c.later hW
  obtain ⟨rfl, rfl⟩ : x.g = g ∧ x.n = n := ⟨c.hg, c.hn⟩
  have hla := c.last
  refine (cget_any x S key W c2.at_ c.ok hk (by have := c.few; omega) c.vok).mono ?_
  rintro e w' ⟨hc, ho⟩
  have hb : Below w.heap.size w w' := c2.below.trans (hc.to_below (Nat.le_trans c2.base c2.size) (fun k hk hf => by have := (c2.at_.lt hf).1; have := c2.base; omega))
  refine ⟨?_, Chg.trans (F := fun _ => False) (Chg.of_below hW) hc (fun _ _ h => h.elim) (fun _ _ h => h), hb⟩
  have hsi := sidx_lt c.at_.n0 key
  unfold CS.val
  cases hlk : look (S.sh (sidx x.n key)).inm key with
  | none =>
    rw [hlk] at ho
    exact ⟨_, ho.1⟩
  | some b =>
    rw [hlk] at ho
    have hin := c.ok.inm _ hsi (key, b) (look_some hlk)
    obtain ⟨v, hv⟩ := c.vok b (c.ok.al _ hsi b hin.1)
    refine ⟨S.last + 1, ?_⟩
    rw [ho.1]
    show _ = Ending.returned (.tuple #[_, .int .u64 (numV (S.it b).v), _])
    rw [hv]; rfl
theorem CW.keys2 (c : CW w B g n m x S wr) {i : Nat} (hi : i < n) (hm : m < 8796093022000) (W : World) (hW : Below wr.heap.size wr W) :
    Calls Try.prog 30 #[.pointer (some ⟨g, 0, none⟩), .int .i64 i] W fun e w' => ∃ A c, e = .returned (.slice A (S.keys i).length c) ∧ Rd w' w'.heap.size 1 A (S.keys i).length (keyCells (S.keys i)) ∧ Below W.heap.size W w' := by
  have c2 := c.later hW
  obtain ⟨rfl, rfl⟩ : x.g = g ∧ x.n = n := ⟨c.hg, c.hn⟩
  have hla := c.last
  rw [keys_length]
  exact keys_any x S i W c2.at_ c.ok hi (by omega)
theorem CW.shard2 (c : CW w B g n m x S wr) (key : ByteArray) (hk : key.size ≤ maxLen) (W : World) (hW : Below wr.heap.size wr W) :
    Calls Try.prog 29 #[.pointer (some ⟨g, 0, none⟩), .string key] W fun e w' => e = .returned (.int .i64 (sidx n key)) ∧ Below W.heap.size W w' := by
  have c2 := c.later hW
  obtain ⟨rfl, rfl⟩ : x.g = g ∧ x.n = n := ⟨c.hg, c.hn⟩
  exact shard_any x.g key _ x.n x.cp S.room S.last S.st _ W c2.at_.blk c2.at_.n0 c2.at_.n1 hk
theorem CW.old {w0 : World} (c : CW w B g n m x S wr) (h : Below w0.heap.size w0 w) : CW w0 B g n m x S wr :=
  ⟨c.hg, c.hn, c.at_, c.ok, c.vok, c.last, c.few, Nat.le_trans h.size c.base, c.size, h.trans (c.below.mono h.size)⟩
end
/-- One key of a row. -/
theorem key_at {w : World} {A : Option Addr} {n : Nat} {l : List ByteArray} (h : Rd w w.heap.size 1 A n (keyCells l)) {w' : World} (hb : Below w.heap.size w w') {i : Nat} (hi : i < n) :
    ∃ b o, ∃ hl : i < l.length, A = some ⟨b, o, none⟩ ∧ b < w.heap.size ∧ (blkOf w' b).bind (cellAt (o + i)) = some (.string l[i]) := by
  have hl : i < l.length := by have := h.1; rw [keyCells_length] at this; omega
  obtain ⟨b, o, rfl, hlt, hc⟩ := (h.below hb).2 (by omega)
  exact ⟨b, o, hl, rfl, hlt, cell_at (hc i _ (by simp [keyCells, hl]))⟩
end Go.Proofs.Ytbiaelaaihieeaa
