/- CacheActs, parts E21, E22, E23, E24: what the document's cache does, in one memory with the program's. -/
import Derived.Test.YtbiaelaaihieeaaEE
import Derived.Test.YtbiaelaaihieeaaP4
import Derived.Test.YtbiaelaaihieeaaC18
import Derived.Test.YtbiaelaaihieeaaC13
set_option linter.unusedVariables false
set_option linter.unusedSimpArgs false
set_option maxRecDepth 100000
/- Both caches in one memory. -/
namespace Go.Proofs.Ytbiaelaaihieeaa
open Go.RowKit
/-- Both caches hold S. -/
structure StX (B g gd n : Nat) (S : CS) (w : World) (x : CL) (y : DL) (G : Nat → Prop) (ρ : Nat → Nat) : Prop where
  ok : COk n S
  kk : KOk n S
  vok : VOk S
  p1 : ∀ p ∈ S.pins, 1 ≤ p.1
  hg : x.g = g
  hn : x.n = n
  hd : y.g = gd
  c : CAt B w x S
  d : DAt G B w n y S ρ
  apart : ∀ k, x.F S k → ¬ G k
def St (B g gd n : Nat) (S : CS) (w : World) : Prop := ∃ x y G ρ, StX B g gd n S w x y G ρ
section
variable {B g gd n : Nat} {S S' : CS} {w w1 w2 : World} {x x' : CL} {y : DL} {G : Nat → Prop} {ρ ρ' : Nat → Nat}
theorem StX.n0 (s : StX B g gd n S w x y G ρ) : 0 < n ∧ n ≤ 64 := by have := s.c.n0; have := s.c.n1; have := s.hn; omega
theorem StX.below (s : StX B g gd n S w x y G ρ) (hb : Below w.heap.size w w1) : StX B g gd n S w1 x y G ρ := ⟨s.ok, s.kk, s.vok, s.p1, s.hg, s.hn, s.hd, s.c.below hb, s.d.below hb, s.apart⟩
theorem StX.base (s : StX B g gd n S w x y G ρ) : B ≤ w.heap.size := s.d.base
/-- The document's behind a call of the program's. -/
theorem StX.d1 (s : StX B g gd n S w x y G ρ) (hc : Chg (x.F S) w w1) : DAt G B w1 n y S ρ := s.d.chg hc (fun k hk hf => s.apart k hf hk)
theorem StX.step (s : StX B g gd n S w x y G ρ) (hc : Chg (x.F S) w w1) (C1 : CAt B w1 x' S') (hg : x'.g = x.g) (hn : x'.n = x.n) (hF : ∀ k, x'.F S' k → x.F S k ∨ w.heap.size ≤ k)
    (ok : COk n S') (kk : KOk n S') (vok : VOk S') (p1 : ∀ p ∈ S'.pins, 1 ≤ p.1) (d2 : DTo G B n gd ρ' w1 w2 S') : St B g gd n S' w2 ∧ Below B w w2 := by
  obtain ⟨y', hy, dd, cc⟩ := d2
  have hs := hc.size
  refine ⟨⟨x', y', _, _, ok, kk, vok, p1, hg.trans s.hg, hn.trans s.hn, hy, C1.chg cc (fun k hk hG => (hF k hk).elim (fun h => s.apart k h hG) (fun h => by have := s.d.lt k hG; omega)), dd, fun k hk hG => ?_⟩, ?_⟩
  · have hk' := C1.lt hk
    rcases hG with hG | ⟨h1, _⟩
    · exact (hF k hk).elim (fun h => s.apart k h hG) (fun h => by have := s.d.lt k hG; omega)
    · omega
  · exact (hc.to_below s.base (fun k hk hf => by have := (s.c.lt hf).1; omega)).trans (cc.to_below (by have := s.base; omega) (fun k hk hG => by have := (s.d.lt k hG).1; omega))
theorem F_same {its : List Nat} (h : ∀ k ∈ its, k ∈ S.its ∨ w.heap.size ≤ k) (e : S'.its = its) : ∀ k, x.F S' k → x.F S k ∨ w.heap.size ≤ k := by
  rintro k (h1 | h1 | h1 | h1 | h1)
  · exact .inl (.inl h1)
  · exact .inl (.inr (.inl h1))
  · exact .inl (.inr (.inr (.inl h1)))
  · exact .inl (.inr (.inr (.inr (.inl h1))))
  · rw [e] at h1
    exact (h k h1).imp (fun h => .inr (.inr (.inr (.inr h)))) (fun h => h)
theorem F_eq (e : S'.its = S.its) : ∀ k, x.F S' k → x.F S k ∨ w.heap.size ≤ k := F_same (its := S.its) (fun k h => .inl h) e
/-- What one act leaves. -/
def Done (B g gd n : Nat) (S : CS) (w : World) (w' : World) : Prop := ∃ S', St B g gd n S' w' ∧ S'.last ≤ S.last + 1 ∧ Below B w w'
theorem sdrop (s : StX B g gd n S w x y G ρ) (key : ByteArray) (hk : key.size ≤ maxLen) (hl : S.last < 8796093022000) :
    Calls Try.prog 32 #[.pointer (some ⟨g, 0, none⟩), .string key] w fun e w1 => ∃ u, e = .returned (.bool u) ∧ Chg (x.F S) w w1 ∧
      ∀ W, Below w1.heap.size w1 W → Calls Try.prog 69 #[.pointer (some ⟨gd, 0, none⟩), .string key] W fun e w2 => e = .returned (.bool u) ∧ Done B g gd n S w w2 ∧ Chg (fun k => x.F S k ∨ G k) w w2 := by
  obtain ⟨rfl, rfl⟩ : x.g = g ∧ x.n = n := ⟨s.hg, s.hn⟩
  refine (cdrop_any x S key w s.c s.ok hk (by omega)).mono ?_
  rintro e w1 ⟨hc, ho⟩
  have hsi := sidx_lt s.c.n0 key
  have hd := s.d1 hc
  have hchg : ∀ {W w2 : World}, Below w1.heap.size w1 W → Chg G W w2 → Chg (fun k => x.F S k ∨ G k) w w2 := fun {W w2} hW h => (hc.below hW).trans h (fun _ _ h => .inl h) (fun _ _ h => .inr h)
  cases hlk : look (S.sh (sidx x.n key)).inm key with
  | none =>
    rw [hlk] at ho
    refine ⟨_, ho.1, hc, fun W hW => ?_⟩
    have := ddrop_any key (hd.below hW) s.ok s.kk s.c.n0 s.c.n1 hk hl
    rw [s.hd] at this
    refine this.mono ?_
    rintro e w2 h2
    unfold DDrop at h2
    rw [hlk] at h2
    obtain ⟨y', e1, e2, e3⟩ := h2.2
    obtain ⟨a1, a2⟩ := s.step (hc.below hW) (ho.2.below hW) rfl rfl (F_eq rfl) s.ok s.kk s.vok s.p1 h2.2
    exact ⟨h2.1, ⟨S, a1, by omega, a2⟩, hchg hW e3⟩
  | some b =>
    rw [hlk] at ho
    have hin := s.ok.inm _ hsi (key, b) (look_some hlk)
    refine ⟨_, ho.1, hc, fun W hW => ?_⟩
    have := ddrop_any key (hd.below hW) s.ok s.kk s.c.n0 s.c.n1 hk hl
    rw [s.hd] at this
    refine this.mono ?_
    rintro e w2 h2
    unfold DDrop at h2
    rw [hlk] at h2
    obtain ⟨y', e1, e2, e3⟩ := h2.2
    obtain ⟨a1, a2⟩ := s.step (hc.below hW) (ho.2.below hW) rfl rfl (F_eq rfl) (s.ok.out hsi (by rw [hin.2.1])) (s.kk.out hsi (by rw [hin.2.1]; exact look_some hlk)) (s.vok.turn (fun b' => off_v _ _ _)) s.p1 h2.2
    exact ⟨h2.1, ⟨_, a1, by show S.last ≤ _; omega, a2⟩, hchg hW e3⟩
end
end Go.Proofs.Ytbiaelaaihieeaa
/- Both caches, act by act. -/
namespace Go.Proofs.Ytbiaelaaihieeaa
open Go.RowKit
section
variable {B g gd n : Nat} {S S' : CS} {w w1 w2 : World} {x x' : CL} {y : DL} {G : Nat → Prop} {ρ ρ' : Nat → Nat}
theorem two_chg {F G : Nat → Prop} {w w1 W w2 : World} (hc : Chg F w w1) (hW : Below w1.heap.size w1 W) (h : Chg G W w2) : Chg (fun k => F k ∨ G k) w w2 :=
  (hc.below hW).trans h (fun _ _ h => .inl h) (fun _ _ h => .inr h)
/-- Both answer u; what holds behind. -/
def Twin (B g gd n : Nat) (S : CS) (w : World) (x : CL) (G : Nat → Prop) (u : Value) (w1 : World) (f : FuncId) (args : Array Value) : Prop :=
  Chg (x.F S) w w1 ∧ ∀ W, Below w1.heap.size w1 W → Calls Try.prog f args W fun e w2 => e = .returned u ∧ Done B g gd n S w w2 ∧ Chg (fun k => x.F S k ∨ G k) w w2
theorem StX.twin (s : StX B g gd n S w x y G ρ) {u : Value} {f : FuncId} {args : Array Value} (hc : Chg (x.F S) w w1) (C1 : CAt B w1 x' S') (hg : x'.g = x.g) (hn : x'.n = x.n) (hF : ∀ k, x'.F S' k → x.F S k ∨ w.heap.size ≤ k)
    (ok : COk n S') (kk : KOk n S') (vok : VOk S') (p1 : ∀ p ∈ S'.pins, 1 ≤ p.1) (hl : S'.last ≤ S.last + 1)
    (hd : ∀ W, DAt G B W n y S ρ → Calls Try.prog f args W fun e w2 => e = .returned u ∧ ∃ ρ', DTo G B n gd ρ' W w2 S') : Twin B g gd n S w x G u w1 f args := by
  refine ⟨hc, fun W hW => (hd W ((s.d1 hc).below hW)).mono ?_⟩
  rintro e w2 ⟨h1, ρ', h2⟩
  obtain ⟨a1, a2⟩ := s.step (hc.below hW) (C1.below hW) hg hn hF ok kk vok p1 h2
  obtain ⟨y', e1, e2, e3⟩ := h2
  exact ⟨h1, ⟨S', a1, hl, a2⟩, two_chg hc hW e3⟩
theorem sput (s : StX B g gd n S w x y G ρ) (key : ByteArray) (v ch : Int) (hk : key.size ≤ maxLen) (hch : 0 ≤ ch ∧ ch ≤ 18446744073709551615) (hl : S.last < 8796093022000) :
    Calls Try.prog 25 #[.pointer (some ⟨g, 0, none⟩), .string key, .int .u64 v, .int .u64 ch] w fun e w1 => ∃ a z, e = .returned (.tuple #[.int .i64 a, .int .i64 z]) ∧ Twin B g gd n S w x G (.tuple #[.int .i64 a, .int .i64 z]) w1 65 #[.pointer (some ⟨gd, 0, none⟩), .string key, .int .u64 v, .int .u64 ch] := by
  obtain ⟨rfl, rfl⟩ : x.g = g ∧ x.n = n := ⟨s.hg, s.hn⟩
  have hsi := sidx_lt s.c.n0 key
  by_cases hlg : 1024 < key.size
  · refine (cput_long x key v ch w hlg hk).mono ?_
    rintro e w1 ⟨rfl, rfl⟩
    refine ⟨0, 2, rfl, s.twin (Chg.refl _ _) s.c rfl rfl (F_eq rfl) s.ok s.kk s.vok s.p1 (by omega) (fun W hd => ?_)⟩
    refine (dput_long key v ch W hlg hk).mono ?_
    rintro e w2 ⟨h1, rfl⟩
    have := DTo.refl hd
    rw [s.hd] at this
    exact ⟨h1, ρ, this⟩
  · have hkz : key.size ≤ 1024 := by omega
    refine (cput_any x S key v ch w s.c s.base s.ok hkz hch (by omega)).mono ?_
    rintro e w1 ⟨T, I, hmd, hc, ho⟩
    have hs := hmd.same
    have hv : ∀ b, (I b).v = (S.it b).v := fun b => (hs b).2.2.2
    have ok1 := s.ok.madeAt hsi hmd
    have kk1 := s.kk.madeAt s.ok hsi hmd
    rcases ho with ⟨hf, rfl, hC⟩ | ⟨hf, nb, hnb, rfl, hC⟩
    · refine ⟨0, 110, rfl, s.twin hc hC rfl rfl (F_eq rfl) ok1 kk1 (s.vok.turn hv) s.p1 (by show S.last ≤ _; omega) (fun W hd => ?_)⟩
      have hnew : (w.heap.size) ∉ S.its := fun h => by have := Blk.lt (s.c.its _ h); omega
      have := dput_full key v ch T I w.heap.size hd s.ok s.kk s.c.n0 s.c.n1 hkz hch hl hmd hnew hf.1 hf.2
      rw [s.hd] at this
      exact this.mono fun e w2 h => ⟨h.1, ρ, h.2⟩
    · have hnits : nb ∉ S.its := fun h => by have := Blk.lt (s.c.its nb h); omega
      have hsame := clear_same (S.turn (sidx x.n key) T I) (sidx x.n key) key
      have hcl : COk x.n ((S.turn (sidx x.n key) T I).clear (sidx x.n key) key) ∧ KOk x.n ((S.turn (sidx x.n key) T I).clear (sidx x.n key) key) ∧ ∀ p ∈ (((S.turn (sidx x.n key) T I).clear (sidx x.n key) key).sh (sidx x.n key)).inm, p.1 ≠ key := by
        unfold CS.clear
        rw [turn_sh]
        cases hlk : look T.inm key with
        | none =>
          refine ⟨ok1, kk1, fun p hp => ?_⟩
          have hp : p ∈ ((S.turn (sidx x.n key) T I).sh (sidx x.n key)).inm := hp
          rw [turn_sh] at hp
          exact look_none hlk p hp
        | some b =>
          have hm : (key, b) ∈ ((S.turn (sidx x.n key) T I).sh (sidx x.n key)).inm := by rw [turn_sh]; exact look_some hlk
          have hin := ok1.inm _ hsi (key, b) hm
          refine ⟨ok1.out hsi (by rw [hin.2.1]), kk1.out hsi (by rw [hin.2.1]; exact hm), fun p hp => ?_⟩
          exact out_free hin.2.1 p hp
      have ok3 := hcl.1.added hsi (nb := nb) (by rw [hsame.1]; exact hnits) (a := ⟨key, .int .u64 v, ch, true, 0⟩) rfl rfl hch rfl hkz
      have kk3 := (hcl.2.1.added hsi (nb := nb) (a := ⟨key, .int .u64 v, ch, true, 0⟩) hcl.1.al (by rw [hsame.1]; exact hnits) hcl.2.2).pinned nb
      refine ⟨S.last + 1, 0, rfl, s.twin hc hC rfl rfl ?_ ok3 kk3 ((((s.vok.turn hv).clear _ _).added _ ⟨v, rfl⟩).pinned nb) ?_ (by show ((S.turn (sidx x.n key) T I).clear (sidx x.n key) key).last + 1 ≤ _; rw [hsame.2.1]; show S.last + 1 ≤ _; omega) (fun W hd => ?_)⟩
      · refine F_same (its := S.its ++ [nb]) (fun k hk => (List.mem_append.1 hk).imp (fun h => h) (fun h => by rw [List.mem_singleton.1 h]; exact hnb)) ?_
        show ((S.turn (sidx x.n key) T I).clear (sidx x.n key) key).its ++ [nb] = _
        rw [hsame.1]; rfl
      · intro p hp
        have hp : p ∈ ((S.turn (sidx x.n key) T I).clear (sidx x.n key) key).pins ++ [(((S.turn (sidx x.n key) T I).clear (sidx x.n key) key).last + 1, nb)] := hp
        rw [hsame.2.1, hsame.2.2] at hp
        rcases List.mem_append.1 hp with h | h
        · exact s.p1 p h
        · rw [List.mem_singleton.1 h]
          have := s.ok.last
          show 1 ≤ S.last + 1
          omega
      · cases hst : S.st with
        | true =>
          have := dput_strict key v ch T I nb hd s.ok s.kk s.c.n0 s.c.n1 hkz hch hl hmd hnits hst (fun h => hf ⟨hst, h⟩)
          rw [s.hd] at this
          exact this.mono fun e w2 ⟨h1, nd, h2⟩ => ⟨h1, _, h2⟩
        | false =>
          have := dput_free key v ch T I nb hd s.ok s.kk s.c.n0 s.c.n1 hkz hch hl hmd hnits hst
          rw [s.hd] at this
          exact this.mono fun e w2 ⟨h1, nd, h2⟩ => ⟨h1, _, h2⟩
theorem sget (s : StX B g gd n S w x y G ρ) (key : ByteArray) (hk : key.size ≤ maxLen) (hl : S.last < 8796093022000) :
    Calls Try.prog 31 #[.pointer (some ⟨g, 0, none⟩), .string key] w fun e w1 => ∃ a z i, e = .returned (.tuple #[.int .i64 a, .int .u64 z, .bool i]) ∧ Twin B g gd n S w x G (.tuple #[.int .i64 a, .int .u64 z, .bool i]) w1 66 #[.pointer (some ⟨gd, 0, none⟩), .string key] := by
  obtain ⟨rfl, rfl⟩ : x.g = g ∧ x.n = n := ⟨s.hg, s.hn⟩
  have hsi := sidx_lt s.c.n0 key
  refine (cget_any x S key w s.c s.ok hk (by omega) s.vok).mono ?_
  rintro e w1 ⟨hc, ho⟩
  cases hlk : look (S.sh (sidx x.n key)).inm key with
  | none =>
    rw [hlk] at ho
    refine ⟨0, 0, false, ho.1, s.twin hc ho.2 rfl rfl (F_eq rfl) s.ok s.kk s.vok s.p1 (by omega) (fun W hd => ?_)⟩
    have := dget_any key hd s.ok s.kk s.c.n0 s.c.n1 hk hl s.vok
    rw [s.hd] at this
    refine this.mono fun e w2 h => ?_
    unfold DGet at h
    rw [hlk] at h
    exact ⟨h.1, ρ, h.2⟩
  | some b =>
    rw [hlk] at ho
    have hin := s.ok.inm _ hsi (key, b) (look_some hlk)
    have hbi := s.ok.al _ hsi b hin.1
    obtain ⟨v, hv⟩ := s.vok b hbi
    have ok1 : COk x.n (S.unwait (sidx x.n key) b) := s.ok.busy hsi b
    have ok2 : COk x.n ((S.unwait (sidx x.n key) b).pinned b) := by
      refine ok1.pinned hbi (fun j hj hmem => ?_) ?_
      · have hm' : b ∈ (putAt S.sh (sidx x.n key) { S.sh (sidx x.n key) with wt := less (S.sh (sidx x.n key)).wt b } j).wt := hmem
        by_cases ej : j = sidx x.n key
        · rw [ej, putAt_same] at hm'; exact less_ne hm' rfl
        · rw [putAt_ne _ _ ej] at hm'
          have h1 := s.ok.alk j hj b ((s.ok.ok j hj).sub b hm')
          rw [hin.2.1] at h1
          exact ej h1.symm
      · show b ∈ (putAt S.sh (sidx x.n key) _ (sidx x.n (S.it b).key)).al
        rw [hin.2.1, putAt_same]; exact hin.1
    refine ⟨S.last + 1, v, true, by rw [ho.1, hv], s.twin hc ho.2 rfl rfl (F_eq rfl) ok2 ((s.kk.wt hsi _).pinned b) ((s.vok.turn (fun _ => rfl)).pinned b) (fun p hp => ?_) (by show S.last + 1 ≤ _; omega) (fun W hd => ?_)⟩
    · have hp : p ∈ S.pins ++ [(S.last + 1, b)] := hp
      rcases List.mem_append.1 hp with h | h
      · exact s.p1 p h
      · rw [List.mem_singleton.1 h]
        have := s.ok.last
        show 1 ≤ S.last + 1
        omega
    · have := dget_any key hd s.ok s.kk s.c.n0 s.c.n1 hk hl s.vok
      rw [s.hd] at this
      refine this.mono fun e w2 h => ?_
      unfold DGet at h
      rw [hlk] at h
      exact ⟨by rw [h.1, hv], ρ, h.2⟩
theorem sfree (s : StX B g gd n S w x y G ρ) (k : Int) (hl : S.last < 8796093022000) :
    Calls Try.prog 27 #[.pointer (some ⟨g, 0, none⟩), .int .i64 k] w fun e w1 => ∃ z, e = .returned (.int .i64 z) ∧ Twin B g gd n S w x G (.int .i64 z) w1 67 #[.pointer (some ⟨gd, 0, none⟩), .int .i64 k] := by
  obtain ⟨rfl, rfl⟩ : x.g = g ∧ x.n = n := ⟨s.hg, s.hn⟩
  cases hlk : lookP S.pins k with
  | none =>
    refine (cfree_no x S k w s.c hlk).mono ?_
    rintro e w1 ⟨rfl, rfl⟩
    refine ⟨111, rfl, s.twin (Chg.refl _ _) s.c rfl rfl (F_eq rfl) s.ok s.kk s.vok s.p1 (by omega) (fun W hd => ?_)⟩
    have := dfree_none k hd s.ok s.p1 hl hlk
    rw [s.hd] at this
    refine this.mono ?_
    rintro e w2 ⟨h1, rfl⟩
    have h2 := DTo.refl hd
    rw [s.hd] at h2
    exact ⟨h1, ρ, h2⟩
  | some b =>
    have hkb := lookP_some hlk
    have hnd := s.c.pins_nodup
    have hk1 := s.p1 _ hkb
    have hsi := sidx_lt s.c.n0 (S.it b).key
    refine (cfree_any x S k b w s.c s.base s.ok hlk (by omega)).mono ?_
    rintro e w1 ⟨rfl, hc, x', S', hg, hn, hF, hC, ho⟩
    have ok1 := s.ok.unpinned hkb hnd
    have kk1 := s.kk.unpinned k b
    have hpp : ∀ p ∈ (S.unpinned k b).pins, 1 ≤ p.1 := fun p hp => s.p1 p (List.mem_filter.1 hp).1
    have hinv : COk x.n S' ∧ KOk x.n S' ∧ VOk S' ∧ (∀ p ∈ S'.pins, 1 ≤ p.1) ∧ S'.last = S.last := by
      rcases ho with ⟨h1, rfl⟩ | ⟨h1, hin, T, I, hm, rfl⟩ | ⟨h1, hin, rfl⟩
      · exact ⟨ok1, kk1, s.vok.unpinned k b, hpp, rfl⟩
      · have hba : b ∈ (S.sh (sidx x.n (S.it b).key)).al := s.ok.pinal _ hkb
        have hbw : b ∉ (S.sh (sidx x.n (S.it b).key)).wt := fun hm => by have := s.ok.w0 _ hsi b hm; omega
        have ok2 := ok1.waits hsi hba (by show (upd S.it b _ b).pins = 0; rw [upd_same]; show (S.it b).pins - 1 = 0; omega) hbw
        have kk2 : KOk x.n ((S.unpinned k b).waits (sidx x.n (S.it b).key) b) := kk1.wt hsi _
        have ok3 : COk x.n ((S.unpinned k b).turn (sidx x.n (S.it b).key) T I) := by
          have := ok2.madeAt hsi hm
          unfold CS.waits at this
          rw [turn_turn] at this
          exact this
        have kk3 : KOk x.n ((S.unpinned k b).turn (sidx x.n (S.it b).key) T I) := by
          have := kk2.madeAt ok2 hsi hm
          unfold CS.waits at this
          rw [turn_turn] at this
          exact this
        have hv : ∀ b', (I b').v = ((S.unpinned k b).it b').v := fun b' => (hm.same b').2.2.2
        exact ⟨ok3, kk3, (s.vok.unpinned k b).turn hv, hpp, rfl⟩
      · have hkey : ((S.unpinned k b).it b).key = (S.it b).key := (unpinned_it S k b b).2.2
        have hp0 : ((S.unpinned k b).it b).pins = 0 := by have := (unpinned_it S k b b).2.1; rw [if_pos rfl] at this; omega
        have hi0 : ((S.unpinned k b).it b).inn = false := by
          show (upd S.it b _ b).inn = false
          rw [upd_same]; exact hin
        exact ⟨ok1.gone hsi (by rw [hkey]) hp0, kk1.gone hsi (.inr hi0), (s.vok.unpinned k b).turn (fun b' => off_v _ _ _), hpp, rfl⟩
    obtain ⟨j, rfl⟩ : ∃ j : Nat, k = (j : Int) + 1 := ⟨(k - 1).toNat, by have hk1 : 1 ≤ k := hk1; omega⟩
    refine ⟨0, rfl, s.twin hc hC hg hn (fun c h => hF c h) hinv.1 hinv.2.1 hinv.2.2.1 hinv.2.2.2.1 (by rw [hinv.2.2.2.2]; omega) (fun W hd => ?_)⟩
    have := dfree_any (S' := S') j b hd s.ok s.kk s.p1 hnd s.c.n0 s.c.n1 hl hlk (by
      rcases ho with h | ⟨h1, h2, T, I, h3, h4⟩ | h
      · exact .inl h
      · exact .inr (.inl ⟨h1, h2, T, I, h3, h4⟩)
      · exact .inr (.inr h))
    rw [s.hd] at this
    exact this.mono fun e w2 h => ⟨h.1, ρ, h.2⟩
theorem sroom (s : StX B g gd n S w x y G ρ) (room : Int) (hr : 0 ≤ room ∧ room ≤ 18446744073709551615) (hl : S.last < 8796093022000) :
    Calls Try.prog 33 #[.pointer (some ⟨g, 0, none⟩), .int .u64 room] w fun e w1 => e = .returned (.tuple #[]) ∧ Twin B g gd n S w x G (.tuple #[]) w1 70 #[.pointer (some ⟨gd, 0, none⟩), .int .u64 room] := by
  obtain ⟨rfl, rfl⟩ : x.g = g ∧ x.n = n := ⟨s.hg, s.hn⟩
  refine (croom_any x S room w s.c s.ok hr (by omega)).mono ?_
  rintro e w1 ⟨rfl, S', hro, hC, hc⟩
  have ok2 : COk x.n { S with room := room } := ⟨hr, s.ok.last, s.ok.ok, s.ok.al, s.ok.alk, s.ok.inm, s.ok.pins, s.ok.pn, s.ok.wtn, s.ok.itn, s.ok.cnt, s.ok.ksz, s.ok.pinal, s.ok.w0⟩
  have hsm := hro.same
  refine ⟨rfl, s.twin hc hC rfl rfl (F_eq hsm.2.2.2.2) (hro.ok (Nat.le_refl _) ok2) (KOk.roomed hro (Nat.le_refl _) ok2 (s.kk.room room)) (hro.holds.2 s.vok) (fun p hp => s.p1 p (by rw [hsm.2.2.2.1] at hp; exact hp)) (by rw [hsm.2.2.1]; show S.last ≤ _; omega) (fun W hd => ?_)⟩
  have := droom_any room hd s.ok s.kk s.c.n0 s.c.n1 hr hl hro
  rw [s.hd] at this
  exact this.mono fun e w2 h => ⟨h.1, ρ, h.2⟩
theorem sdrop' (s : StX B g gd n S w x y G ρ) (key : ByteArray) (hk : key.size ≤ maxLen) (hl : S.last < 8796093022000) :
    Calls Try.prog 32 #[.pointer (some ⟨g, 0, none⟩), .string key] w fun e w1 => ∃ u, e = .returned (.bool u) ∧ Twin B g gd n S w x G (.bool u) w1 69 #[.pointer (some ⟨gd, 0, none⟩), .string key] :=
  (sdrop s key hk hl).mono fun e w1 ⟨u, h1, h2, h3⟩ => ⟨u, h1, h2, h3⟩
theorem svalue (s : StX B g gd n S w x y G ρ) (k : Int) (hl : S.last < 8796093022000) : ∃ a z, Calls Try.prog 34 #[.pointer (some ⟨g, 0, none⟩), .int .i64 k] w (fun e w1 => e = .returned (.tuple #[.int .u64 a, .int .i64 z]) ∧ w1 = w) ∧
    Calls Try.prog 68 #[.pointer (some ⟨gd, 0, none⟩), .int .i64 k] w (fun e w1 => e = .returned (.tuple #[.int .u64 a, .int .i64 z]) ∧ w1 = w) := by
  obtain ⟨rfl, rfl, rfl⟩ : x.g = g ∧ x.n = n ∧ y.g = gd := ⟨s.hg, s.hn, s.hd⟩
  cases hlk : lookP S.pins k with
  | none => exact ⟨0, 111, value_no x S k w s.c hlk, dvalue_none k s.d s.ok s.p1 hl hlk⟩
  | some b =>
    have hbi := (s.ok.pins _ (lookP_some hlk)).2
    obtain ⟨v, hv⟩ := s.vok b hbi
    exact ⟨v, 0, value_any x S k b v w s.c hlk hbi hv, dvalue_some k b v s.d s.ok s.p1 hl hlk hbi hv⟩
end
end Go.Proofs.Ytbiaelaaihieeaa
/- Both caches: does. -/
namespace Go.Proofs.Ytbiaelaaihieeaa
open Go.RowKit
section
variable {B g gd n : Nat} {S S' : CS} {w w1 w2 : World} {x x' : CL} {y : DL} {G : Nat → Prop} {ρ ρ' : Nat → Nat}
def box5 (k p : Int) (key : ByteArray) (v ch : Int) : Array Value := #[.int .i64 k, .int .i64 p, .string key, .int .u64 v, .int .u64 ch]
theorem Done.from (h : Below w.heap.size w w1) (hB : B ≤ w.heap.size) (d : Done B g gd n S w1 w2) : Done B g gd n S w w2 := by
  obtain ⟨S', a, b, c⟩ := d
  exact ⟨S', a, b, (h.mono hB).trans c⟩
theorem Twin.box {u : Value} {f : FuncId} {args : Array Value} (s : StX B g gd n S w x y G ρ) (t : Twin B g gd n S w1 x G u w2 f args) {o : Obj} {k : Nat} (hk : w.heap.size ≤ k) (h1 : blkOf w1 k = some o) : blkOf w2 k = some o :=
  (t.1.block k (Array.getElem?_eq_some_iff.1 h1).1 (fun hf => by have := (s.c.lt hf).2; omega)).trans h1
theorem Twin.box2 {w3 : World} (s : StX B g gd n S w x y G ρ) (hc : Chg (fun k => x.F S k ∨ G k) w1 w3) {o : Obj} {k : Nat} (hk : w.heap.size ≤ k) (h1 : blkOf w1 k = some o) : blkOf w3 k = some o :=
  (hc.block k (Array.getElem?_eq_some_iff.1 h1).1 (fun hf => hf.elim (fun hf => by have := (s.c.lt hf).2; omega) (fun hf => by have := (s.d.lt k hf).2; omega))).trans h1
set_option maxHeartbeats 3200000 in
theorem does0 (k p : Int) (key : ByteArray) (v ch : Int) (s : StX B g gd n S w x y G ρ) (hk : key.size ≤ maxLen) (hv : 0 ≤ v ∧ v ≤ 18446744073709551615) (hch : 0 ≤ ch ∧ ch ≤ 18446744073709551615) (hl : S.last < 8796093022000) :
    Calls Try.prog 36 #[.pointer (some ⟨g, 0, none⟩), .pointer (some ⟨gd, 0, none⟩), .agg #[.int .i64 0, .int .i64 p, .string key, .int .u64 v, .int .u64 ch]] w fun e w' => e = .returned (.bool true) ∧ Done B g gd n S w w' := by
  refine calls_of fun R HR => ?_
  have hb := s.d.blk
  rw [s.hd] at hb
  have lg := Blk.lt hb
  obtain ⟨m, hm⟩ : ∃ m : Nat, m = S.last.toNat := ⟨_, rfl⟩
  rw [← hm] at hb
  have hmN : m ≤ 8796093022000 := by omega
  have Hs := hid s; have Hl := hid hl; have Hk := hid hk; have Hch := hid hch
  clear s hl hm hk hch hv
  go_enter Try.func36, Try.ntmps36
  go_wp2
  go_quiet (fail)
  obtain ⟨w1, hw1⟩ : ∃ w1, w1 = (w.alloc (.cells #[.int .i64 0, .int .i64 p, .string key, .int .u64 v, .int .u64 ch] 60)).drewN nq := ⟨_, rfl⟩
  rw [← hw1]
  have hb1 : Below w.heap.size w w1 := by rw [hw1]; exact bl_drewN (bl_alloc (Below.refl _ _) _) _
  have e1 : blkOf w1 w.heap.size = some (.cells #[.int .i64 0, .int .i64 p, .string key, .int .u64 v, .int .u64 ch] 60 (0, 0)) := by rw [hw1]; exact blk_new _ _
  have lb1 := Blk.lt e1
  have s1 := hid (Hs.out.below hb1)
  have Hb1 := hid hb1
  clear hw1 hb1 hb lg hmN
  go_wp2_with fail
  refine (sput s1.out key v ch Hk.out Hch.out Hl.out).mono ?_
  rintro e w2 ⟨a, z, rfl, tw⟩
  have e2 := tw.box Hs.out (Nat.le_refl _) e1
  have lb2 := Blk.lt e2
  have Tw := hid tw
  clear tw
  go_wp2_with (go_at_call 65; refine (Tw.out.2 _ (Below.refl _ _)).mono ?_; rintro e w3 ⟨rfl, hdone, hc3⟩; have Hd := hid hdone; clear hdone hc3)
  exact HR.out _ _ ⟨rfl, Hd.out.from Hb1.out Hs.out.base⟩
set_option maxHeartbeats 3200000 in
theorem does1 (k p : Int) (key : ByteArray) (v ch : Int) (s : StX B g gd n S w x y G ρ) (hk : key.size ≤ maxLen) (hv : 0 ≤ v ∧ v ≤ 18446744073709551615) (hch : 0 ≤ ch ∧ ch ≤ 18446744073709551615) (hl : S.last < 8796093022000) :
    Calls Try.prog 36 #[.pointer (some ⟨g, 0, none⟩), .pointer (some ⟨gd, 0, none⟩), .agg #[.int .i64 1, .int .i64 p, .string key, .int .u64 v, .int .u64 ch]] w fun e w' => e = .returned (.bool true) ∧ Done B g gd n S w w' := by
  refine calls_of fun R HR => ?_
  have hb := s.d.blk
  rw [s.hd] at hb
  have lg := Blk.lt hb
  obtain ⟨m, hm⟩ : ∃ m : Nat, m = S.last.toNat := ⟨_, rfl⟩
  rw [← hm] at hb
  have hmN : m ≤ 8796093022000 := by omega
  have Hs := hid s; have Hl := hid hl; have Hk := hid hk; have Hch := hid hch
  clear s hl hm hk hch hv
  go_enter Try.func36, Try.ntmps36
  go_wp2
  go_quiet (fail)
  obtain ⟨w1, hw1⟩ : ∃ w1, w1 = (w.alloc (.cells #[.int .i64 1, .int .i64 p, .string key, .int .u64 v, .int .u64 ch] 60)).drewN nq := ⟨_, rfl⟩
  rw [← hw1]
  have hb1 : Below w.heap.size w w1 := by rw [hw1]; exact bl_drewN (bl_alloc (Below.refl _ _) _) _
  have e1 : blkOf w1 w.heap.size = some (.cells #[.int .i64 1, .int .i64 p, .string key, .int .u64 v, .int .u64 ch] 60 (0, 0)) := by rw [hw1]; exact blk_new _ _
  have lb1 := Blk.lt e1
  have s1 := hid (Hs.out.below hb1)
  have Hb1 := hid hb1
  clear hw1 hb1 hb lg hmN
  go_wp2_with fail
  refine (sget s1.out key Hk.out Hl.out).mono ?_
  rintro e w2 ⟨a, z, i, rfl, tw⟩
  have e2 := tw.box Hs.out (Nat.le_refl _) e1
  have lb2 := Blk.lt e2
  have Tw := hid tw
  clear tw
  go_wp2_with (go_at_call 66; refine (Tw.out.2 _ (Below.refl _ _)).mono ?_; rintro e w3 ⟨rfl, hdone, hc3⟩; have Hd := hid hdone; clear hdone hc3)
  exact HR.out _ _ ⟨rfl, Hd.out.from Hb1.out Hs.out.base⟩
set_option maxHeartbeats 3200000 in
theorem does2 (k p : Int) (key : ByteArray) (v ch : Int) (s : StX B g gd n S w x y G ρ) (hk : key.size ≤ maxLen) (hv : 0 ≤ v ∧ v ≤ 18446744073709551615) (hch : 0 ≤ ch ∧ ch ≤ 18446744073709551615) (hl : S.last < 8796093022000) :
    Calls Try.prog 36 #[.pointer (some ⟨g, 0, none⟩), .pointer (some ⟨gd, 0, none⟩), .agg #[.int .i64 2, .int .i64 p, .string key, .int .u64 v, .int .u64 ch]] w fun e w' => e = .returned (.bool true) ∧ Done B g gd n S w w' := by
  refine calls_of fun R HR => ?_
  have hb := s.d.blk
  rw [s.hd] at hb
  have lg := Blk.lt hb
  obtain ⟨m, hm⟩ : ∃ m : Nat, m = S.last.toNat := ⟨_, rfl⟩
  rw [← hm] at hb
  have hmN : m ≤ 8796093022000 := by omega
  have Hs := hid s; have Hl := hid hl; have Hk := hid hk; have Hch := hid hch
  clear s hl hm hk hch hv
  go_enter Try.func36, Try.ntmps36
  go_wp2
  go_quiet (fail)
  obtain ⟨q, hq⟩ : ∃ q : Int, q = wrap64 ((m : Int) - p) := ⟨_, rfl⟩
  rw [← hq]
  clear hq
  obtain ⟨w1, hw1⟩ : ∃ w1, w1 = (w.alloc (.cells #[.int .i64 2, .int .i64 p, .string key, .int .u64 v, .int .u64 ch] 60)).drewN nq := ⟨_, rfl⟩
  rw [← hw1]
  have hb1 : Below w.heap.size w w1 := by rw [hw1]; exact bl_drewN (bl_alloc (Below.refl _ _) _) _
  have e1 : blkOf w1 w.heap.size = some (.cells #[.int .i64 2, .int .i64 p, .string key, .int .u64 v, .int .u64 ch] 60 (0, 0)) := by rw [hw1]; exact blk_new _ _
  have lb1 := Blk.lt e1
  have s1 := hid (Hs.out.below hb1)
  have Hb1 := hid hb1
  clear hw1 hb1 hb lg hmN
  go_wp2_with fail
  refine (sfree s1.out q Hl.out).mono ?_
  rintro e w2 ⟨z, rfl, tw⟩
  have e2 := tw.box Hs.out (Nat.le_refl _) e1
  have lb2 := Blk.lt e2
  have Tw := hid tw
  clear tw
  go_wp2_with (go_at_call 67; refine (Tw.out.2 _ (Below.refl _ _)).mono ?_; rintro e w3 ⟨rfl, hdone, hc3⟩; have Hd := hid hdone; clear hdone hc3)
  exact HR.out _ _ ⟨rfl, Hd.out.from Hb1.out Hs.out.base⟩
set_option maxHeartbeats 3200000 in
theorem does3 (k p : Int) (key : ByteArray) (v ch : Int) (s : StX B g gd n S w x y G ρ) (hk : key.size ≤ maxLen) (hv : 0 ≤ v ∧ v ≤ 18446744073709551615) (hch : 0 ≤ ch ∧ ch ≤ 18446744073709551615) (hl : S.last < 8796093022000) :
    Calls Try.prog 36 #[.pointer (some ⟨g, 0, none⟩), .pointer (some ⟨gd, 0, none⟩), .agg #[.int .i64 3, .int .i64 p, .string key, .int .u64 v, .int .u64 ch]] w fun e w' => e = .returned (.bool true) ∧ Done B g gd n S w w' := by
  refine calls_of fun R HR => ?_
  have hb := s.d.blk
  rw [s.hd] at hb
  have lg := Blk.lt hb
  obtain ⟨m, hm⟩ : ∃ m : Nat, m = S.last.toNat := ⟨_, rfl⟩
  rw [← hm] at hb
  have hmN : m ≤ 8796093022000 := by omega
  have Hs := hid s; have Hl := hid hl; have Hk := hid hk; have Hch := hid hch
  clear s hl hm hk hch hv
  go_enter Try.func36, Try.ntmps36
  go_wp2
  go_quiet (fail)
  obtain ⟨q, hq⟩ : ∃ q : Int, q = wrap64 ((m : Int) - p) := ⟨_, rfl⟩
  rw [← hq]
  clear hq
  obtain ⟨w1, hw1⟩ : ∃ w1, w1 = (w.alloc (.cells #[.int .i64 3, .int .i64 p, .string key, .int .u64 v, .int .u64 ch] 60)).drewN nq := ⟨_, rfl⟩
  rw [← hw1]
  have hb1 : Below w.heap.size w w1 := by rw [hw1]; exact bl_drewN (bl_alloc (Below.refl _ _) _) _
  have e1 : blkOf w1 w.heap.size = some (.cells #[.int .i64 3, .int .i64 p, .string key, .int .u64 v, .int .u64 ch] 60 (0, 0)) := by rw [hw1]; exact blk_new _ _
  have lb1 := Blk.lt e1
  have s1 := hid (Hs.out.below hb1)
  have Hb1 := hid hb1
  clear hw1 hb1 hb lg hmN
  obtain ⟨a, z, c1, c2⟩ := svalue s1.out q Hl.out
  have C1 := hid c1; have C2 := hid c2
  clear c1 c2
  go_wp2_with (first
    | (go_at_call 68; refine C2.out.mono ?_; rintro e w3 ⟨rfl, hw3⟩; obtain rfl := hw3.symm)
    | (go_at_call 34; refine C1.out.mono ?_; rintro e w2 ⟨rfl, hw2⟩; obtain rfl := hw2.symm))
  exact HR.out _ _ ⟨rfl, Done.from Hb1.out Hs.out.base ⟨S, ⟨x, y, G, ρ, s1.out⟩, by omega, Below.refl _ _⟩⟩
set_option maxHeartbeats 3200000 in
theorem does5 (k p : Int) (key : ByteArray) (v ch : Int) (s : StX B g gd n S w x y G ρ) (hk : key.size ≤ maxLen) (hv : 0 ≤ v ∧ v ≤ 18446744073709551615) (hch : 0 ≤ ch ∧ ch ≤ 18446744073709551615) (hl : S.last < 8796093022000) :
    Calls Try.prog 36 #[.pointer (some ⟨g, 0, none⟩), .pointer (some ⟨gd, 0, none⟩), .agg #[.int .i64 5, .int .i64 p, .string key, .int .u64 v, .int .u64 ch]] w fun e w' => e = .returned (.bool true) ∧ Done B g gd n S w w' := by
  refine calls_of fun R HR => ?_
  have hb := s.d.blk
  rw [s.hd] at hb
  have lg := Blk.lt hb
  obtain ⟨m, hm⟩ : ∃ m : Nat, m = S.last.toNat := ⟨_, rfl⟩
  rw [← hm] at hb
  have hmN : m ≤ 8796093022000 := by omega
  have Hs := hid s; have Hl := hid hl; have Hk := hid hk; have Hch := hid hch
  clear s hl hm hk hch hv
  go_enter Try.func36, Try.ntmps36
  go_wp2
  go_quiet (fail)
  obtain ⟨w1, hw1⟩ : ∃ w1, w1 = (w.alloc (.cells #[.int .i64 5, .int .i64 p, .string key, .int .u64 v, .int .u64 ch] 60)).drewN nq := ⟨_, rfl⟩
  rw [← hw1]
  have hb1 : Below w.heap.size w w1 := by rw [hw1]; exact bl_drewN (bl_alloc (Below.refl _ _) _) _
  have e1 : blkOf w1 w.heap.size = some (.cells #[.int .i64 5, .int .i64 p, .string key, .int .u64 v, .int .u64 ch] 60 (0, 0)) := by rw [hw1]; exact blk_new _ _
  have lb1 := Blk.lt e1
  have s1 := hid (Hs.out.below hb1)
  have Hb1 := hid hb1
  clear hw1 hb1 hb lg hmN
  go_wp2_with fail
  refine (sroom s1.out ch Hch.out Hl.out).mono ?_
  rintro e w2 ⟨rfl, tw⟩
  have e2 := tw.box Hs.out (Nat.le_refl _) e1
  have lb2 := Blk.lt e2
  have Tw := hid tw
  clear tw
  go_wp2_with (go_at_call 70; refine (Tw.out.2 _ (Below.refl _ _)).mono ?_; rintro e w3 ⟨rfl, hdone, hc3⟩; have Hd := hid hdone; clear hdone hc3)
  exact HR.out _ _ ⟨rfl, Hd.out.from Hb1.out Hs.out.base⟩
set_option maxHeartbeats 3200000 in
theorem does6 (k p : Int) (key : ByteArray) (v ch : Int) (s : StX B g gd n S w x y G ρ) (hk : key.size ≤ maxLen) (hv : 0 ≤ v ∧ v ≤ 18446744073709551615) (hch : 0 ≤ ch ∧ ch ≤ 18446744073709551615) (hl : S.last < 8796093022000) (hk0 : (k == 0) = false) (hk1 : (k == 1) = false) (hk2 : (k == 2) = false) (hk3 : (k == 3) = false) (hk4 : (k == 4) = false) (hk5 : (k == 5) = false) :
    Calls Try.prog 36 #[.pointer (some ⟨g, 0, none⟩), .pointer (some ⟨gd, 0, none⟩), .agg #[.int .i64 k, .int .i64 p, .string key, .int .u64 v, .int .u64 ch]] w fun e w' => e = .returned (.bool true) ∧ Done B g gd n S w w' := by
  refine calls_of fun R HR => ?_
  have hb := s.d.blk
  rw [s.hd] at hb
  have lg := Blk.lt hb
  obtain ⟨m, hm⟩ : ∃ m : Nat, m = S.last.toNat := ⟨_, rfl⟩
  rw [← hm] at hb
  have hmN : m ≤ 8796093022000 := by omega
  have Hs := hid s; have Hl := hid hl; have Hk := hid hk; have Hch := hid hch
  clear s hl hm hk hch hv
  go_enter Try.func36, Try.ntmps36
  go_wp2
  go_quiet (fail)
  obtain ⟨w1, hw1⟩ : ∃ w1, w1 = (w.alloc (.cells #[.int .i64 k, .int .i64 p, .string key, .int .u64 v, .int .u64 ch] 60)).drewN nq := ⟨_, rfl⟩
  rw [← hw1]
  have hb1 : Below w.heap.size w w1 := by rw [hw1]; exact bl_drewN (bl_alloc (Below.refl _ _) _) _
  have e1 : blkOf w1 w.heap.size = some (.cells #[.int .i64 k, .int .i64 p, .string key, .int .u64 v, .int .u64 ch] 60 (0, 0)) := by rw [hw1]; exact blk_new _ _
  have lb1 := Blk.lt e1
  have s1 := hid (Hs.out.below hb1)
  have Hb1 := hid hb1
  clear hw1 hb1 hb lg hmN
  go_wp2
  exact HR.out _ _ ⟨rfl, Done.from Hb1.out Hs.out.base ⟨S, ⟨x, y, G, ρ, s1.out⟩, by omega, Below.refl _ _⟩⟩
set_option maxHeartbeats 3200000 in
theorem does4 (k p : Int) (key : ByteArray) (v ch : Int) (s : StX B g gd n S w x y G ρ) (hk : key.size ≤ maxLen) (hv : 0 ≤ v ∧ v ≤ 18446744073709551615) (hch : 0 ≤ ch ∧ ch ≤ 18446744073709551615) (hl : S.last < 8796093022000) :
    Calls Try.prog 36 #[.pointer (some ⟨g, 0, none⟩), .pointer (some ⟨gd, 0, none⟩), .agg #[.int .i64 4, .int .i64 p, .string key, .int .u64 v, .int .u64 ch]] w fun e w' => e = .returned (.bool true) ∧ Done B g gd n S w w' := by
  refine calls_of fun R HR => ?_
  have hb := s.d.blk
  rw [s.hd] at hb
  have lg := Blk.lt hb
  obtain ⟨m, hm⟩ : ∃ m : Nat, m = S.last.toNat := ⟨_, rfl⟩
  rw [← hm] at hb
  have hmN : m ≤ 8796093022000 := by omega
  have Hs := hid s; have Hl := hid hl; have Hk := hid hk; have Hch := hid hch
  clear s hl hm hk hch hv
  go_enter Try.func36, Try.ntmps36
  go_wp2
  go_quiet (fail)
  obtain ⟨w1, hw1⟩ : ∃ w1, w1 = (w.alloc (.cells #[.int .i64 4, .int .i64 p, .string key, .int .u64 v, .int .u64 ch] 60)).drewN nq := ⟨_, rfl⟩
  rw [← hw1]
  have hb1 : Below w.heap.size w w1 := by rw [hw1]; exact bl_drewN (bl_alloc (Below.refl _ _) _) _
  have e1 : blkOf w1 w.heap.size = some (.cells #[.int .i64 4, .int .i64 p, .string key, .int .u64 v, .int .u64 ch] 60 (0, 0)) := by rw [hw1]; exact blk_new _ _
  have lb1 := Blk.lt e1
  have s1 := hid (Hs.out.below hb1)
  have Hb1 := hid hb1
  clear hw1 hb1 hb lg hmN
  go_upto_region 18 with fail
  have Hd : Hid (∀ W, Below w1.heap.size w1 W → Calls Try.prog 32 #[.pointer (some ⟨g, 0, none⟩), .string key] W fun e w2 => ∃ u, e = .returned (.bool u) ∧ Twin B g gd n S W x G (.bool u) w2 69 #[.pointer (some ⟨gd, 0, none⟩), .string key]) := hid (fun W hW => sdrop' (s1.out.below hW) key Hk.out Hl.out)
  obtain ⟨bx, hbx⟩ : ∃ bx, bx = w.heap.size := ⟨_, rfl⟩
  rw [← hbx] at e1 lb1 ⊢
  have Hbx := hid (Nat.le_of_eq hbx.symm)
  clear hbx
  refine wp_region_T (fun W => blkOf W bx = some (.cells #[.int .i64 4, .int .i64 p, .string key, .int .u64 v, .int .u64 ch] 60 (0, 0))) 9 [] (by kernel_rfl) (by kernel_rfl) e1 ?_
  refine GoT.take 0 (v := ?va0) rfl (by kernel_rfl) (fun _ _ _ h => h) (Or.inl ⟨by rfl, ?ya0⟩) ?ra0
  case ya0 => (intro W hSw; (try dsimp only at hSw); go_simp; try with_reducible rfl)
  try simp only [Act.put, List.setIfInBounds_toArray, List.set_cons_zero, List.set_cons_succ]
  refine GoT.take 1 (v := ?va1) rfl (by kernel_rfl) (fun _ _ _ h => h) (Or.inl ⟨by rfl, ?ya1⟩) ?ra1
  case ya1 => (intro W hSw; (try dsimp only at hSw); go_simp; try with_reducible rfl)
  try simp only [Act.put, List.setIfInBounds_toArray, List.set_cons_zero, List.set_cons_succ]
  refine GoT.take 2 (v := ?va2) rfl (by kernel_rfl) (fun _ _ _ h => h) (Or.inl ⟨by rfl, ?ya2⟩) ?ra2
  case ya2 => (intro W hSw; (try dsimp only at hSw); go_simp; try with_reducible rfl)
  try simp only [Act.put, List.setIfInBounds_toArray, List.set_cons_zero, List.set_cons_succ]
  refine GoT.take 4 (v := ?va4) rfl (by kernel_rfl) (fun _ _ _ h => h) (Or.inl ⟨by rfl, ?ya4⟩) ?ra4
  case ya4 => (intro W hSw; (try dsimp only at hSw); go_simp; try with_reducible rfl)
  try simp only [Act.put, List.setIfInBounds_toArray, List.set_cons_zero, List.set_cons_succ]
  refine GoT.take 5 (v := ?va5) rfl (by kernel_rfl) (fun _ _ _ h => h) (Or.inl ⟨by rfl, ?ya5⟩) ?ra5
  case ya5 => (intro W hSw; (try dsimp only at hSw); go_simp; try with_reducible rfl)
  try simp only [Act.put, List.setIfInBounds_toArray, List.set_cons_zero, List.set_cons_succ]
  refine GoT.take 6 (v := ?va6) rfl (by kernel_rfl) (fun _ _ _ h => h) (Or.inl ⟨by rfl, ?ya6⟩) ?ra6
  case ya6 => (intro W hSw; (try dsimp only at hSw); go_simp; try with_reducible rfl)
  try simp only [Act.put, List.setIfInBounds_toArray, List.set_cons_zero, List.set_cons_succ]
  refine GoT.all [3] (by kernel_rfl) rfl ?_
  refine AllT.cons (i := 3) rfl (fun K hK => ?_) AllT.nil
  go_simp
  go_at_call 32
  refine (Hd.out _ (bl_drewN (Below.refl _ _) 1)).mono ?_
  rintro e w2 ⟨u, rfl, tw⟩
  have e2 : blkOf w2 bx = some (.cells #[.int .i64 4, .int .i64 p, .string key, .int .u64 v, .int .u64 ch] 60 (0, 0)) := tw.box Hs.out Hbx.out (w1 := w1.drew) e1
  refine hK.out _ _ (fun _ => e2) ?_
  clear hK K
  try simp only [Act.put, List.setIfInBounds_toArray, List.set_cons_zero, List.set_cons_succ]
  have Tw := hid tw
  clear tw
  refine GoT.all [7] (by kernel_rfl) rfl ?_
  refine AllT.cons (i := 7) rfl (fun K hK => ?_) AllT.nil
  go_simp
  go_at_call 69
  refine (Tw.out.2 _ (Below.refl _ _)).mono ?_
  rintro e w3 ⟨rfl, hdone, hc3⟩
  have e3 : blkOf w3 bx = some (.cells #[.int .i64 4, .int .i64 p, .string key, .int .u64 v, .int .u64 ch] 60 (0, 0)) := Twin.box2 Hs.out hc3 Hbx.out (w1 := w1.drew) e1
  refine hK.out _ _ (fun _ => e3) ?_
  clear hK K
  try simp only [Act.put, List.setIfInBounds_toArray, List.set_cons_zero, List.set_cons_succ]
  have HD := hid hdone
  clear hdone hc3
  refine GoT.take 8 (v := ?vb8) rfl (by kernel_rfl) (fun _ _ _ h => h) (Or.inl ⟨by rfl, ?yb8⟩) ?rb8
  case yb8 => (intro W hSw; (try dsimp only at hSw); go_simp; try with_reducible rfl)
  try simp only [Act.put, List.setIfInBounds_toArray, List.set_cons_zero, List.set_cons_succ]
  refine GoT.all [9] (by kernel_rfl) rfl ?_
  refine AllT.cons (i := 9) rfl (fun K hK => ?_) AllT.nil
  go_simp
  refine hK.out _ _ (fun _ => e3) ?_
  clear hK K
  try simp only [Act.put, List.setIfInBounds_toArray, List.set_cons_zero, List.set_cons_succ]
  refine GoT.done (by kernel_rfl) ?_ _
  go_wp2
  refine HR.out _ _ ⟨?_, HD.out.from (bl_drewN Hb1.out 1) Hs.out.base⟩
  simp
end
end Go.Proofs.Ytbiaelaaihieeaa
/- Both caches: tells. -/
namespace Go.Proofs.Ytbiaelaaihieeaa
open Go.RowKit
section
variable {B g gd n : Nat} {S S' : CS} {w w1 w2 : World} {x x' : CL} {y : DL} {G : Nat → Prop} {ρ ρ' : Nat → Nat}
theorem keys_no (x : CL) (S : CS) (i : Int) (w : World) (h : CAt B w x S) (hi : i < 0 ∨ (x.n : Int) ≤ i) :
    Calls Try.prog 30 #[.pointer (some ⟨x.g, 0, none⟩), .int .i64 i] w fun e w' => e = .returned (.slice none 0 0) ∧ w' = w := by
  refine calls_of fun R HR => ?_
  have hb := h.blk
  have lg := Blk.lt hb
  rcases hi with hi | hi
  · clear h
    go_enter Try.func30, Try.ntmps30
    go_wp2
    exact HR.out _ _ ⟨rfl, rfl⟩
  · have hi2 : ¬ i < 0 := by omega
    clear h
    go_enter Try.func30, Try.ntmps30
    go_wp2
    exact HR.out _ _ ⟨rfl, rfl⟩
def TellRel (w : World) (n : Nat) (gk : Nat) (v8 : Value) (wr : World) : Prop := ∃ s : Nat, s ≤ n ∧ gk = n - s ∧ v8 = .int .i64 s ∧ Below w.heap.size w wr
def TellIn (w1 : World) (L : Nat) (gk : Nat) (v10 : Value) (wr : World) : Prop := ∃ i m : Nat, i ≤ L ∧ gk = L - i ∧ v10 = .int .i64 i ∧ wr = w1.drewN m
set_option maxHeartbeats 3200000 in
theorem tells_any (s : StX B g gd n S w x y G ρ) (hl : S.last < 8796093022000) :
    Calls Try.prog 38 #[.pointer (some ⟨g, 0, none⟩), .pointer (some ⟨gd, 0, none⟩)] w fun e w' => e = .returned (.bool true) ∧ Below w.heap.size w w' := by
  refine calls_of fun R HR => ?_
  obtain ⟨rfl, rfl, rfl⟩ : x.g = g ∧ x.n = n ∧ y.g = gd := ⟨s.hg, s.hn, s.hd⟩
  have Hsum := hid (dsums_any s.d s.ok s.kk s.c.n1 hl)
  have hic : (S.icount x.n : Int) = S.count x.n := icount_count s.ok s.kk (Nat.le_refl _)
  rw [hic] at Hsum
  have Hch := hid (fun W (hW : Below w.heap.size w W) => charge_any x S W (s.c.below hW) s.ok)
  have Hpi := hid (fun W (hW : Below w.heap.size w W) => pinned_any x S W (s.c.below hW) s.ok)
  have Hle := hid (fun W (hW : Below w.heap.size w W) => len_any x S W (s.c.below hW) (fun j hj => by
    have h1 := inn_count s.ok s.kk (i := j) hj
    have h2 := (DOk.of s.ok s.kk.aln).len hj
    have h3 : ((S.sh j).al.filter fun b => (S.it b).inn).length ≤ (S.sh j).al.length := List.length_filter_le _ _
    omega))
  have Hk1 := hid (fun W (hW : Below w.heap.size w W) => keys_no x S (-1) W (s.c.below hW) (.inl (by decide)))
  have Hk2 := hid (fun W (hW : Below w.heap.size w W) => keys_no x S (x.n : Int) W (s.c.below hW) (.inr (Int.le_refl _)))
  have Hkk := hid (fun W (hW : Below w.heap.size w W) j (hj : j < x.n) => keys_any x S j W (s.c.below hW) s.ok hj hl)
  have hb := s.d.blk
  have lg := Blk.lt hb
  have Hs := hid s; have Hl := hid hl
  have hn1 : (x.n : Int) ≤ 64 := by have := s.c.n1; omega
  clear s hl hic
  go_enter Try.func38, Try.ntmps38
  go_wp2_with fail
  refine Hsum.out.mono ?_
  rintro e w1 ⟨rfl, hw1⟩
  obtain rfl := hw1.symm
  go_wp2_with fail
  refine (Hch.out _ (Below.refl _ _)).mono ?_
  rintro e w2 ⟨rfl, hb2⟩
  go_wp2_with fail
  refine (Hpi.out _ hb2).mono ?_
  rintro e w3 ⟨rfl, hb3⟩
  have hb3' := bl_then hb2 hb3
  go_wp2_with fail
  refine (Hle.out _ hb3').mono ?_
  rintro e w4 ⟨rfl, hw4⟩
  obtain rfl := hw4.symm
  go_wp2_with fail
  refine (Hk1.out _ hb3').mono ?_
  rintro e w4 ⟨rfl, hw4⟩
  obtain rfl := hw4.symm
  have hb4 := (bl_at hb3' y.g lg).trans hb
  have lg4 := Blk.lt hb4
  go_wp2_with fail
  refine (Hk2.out _ hb3').mono ?_
  rintro e w4 ⟨rfl, hw4⟩
  obtain rfl := hw4.symm
  have Hb3 := hid hb3'
  clear hb2 hb3 hb3' hb4 lg4
  go_wp2
  go_loopg [8] x.n (fun gk v8 wr => TellRel w x.n gk v8 wr)
  case atStart => exact ⟨0, Nat.zero_le _, rfl, rfl, Hb3.out⟩
  case round =>
    obtain ⟨j, hj, rfl, rfl, hbl⟩ := hrel
    obtain ⟨wo, hwo⟩ : ∃ wo : World, wo = wr := ⟨_, rfl⟩
    subst hwo
    have Hbl := hid hbl
    have hbo := (bl_at hbl y.g lg).trans hb
    have lgo := Blk.lt hbo
    clear hbl
    by_cases hlt : j < x.n
    · have hj0 : (0 : Int) ≤ (j : Int) := Int.natCast_nonneg _
      have hj1 : (j : Int) < (x.n : Int) := by omega
      go_wp2_with fail
      refine (Hkk.out _ Hbl.out j hlt).mono ?_
      rintro e w5 ⟨A, c, rfl, hrd, hb5⟩
      have hb5' := bl_then Hbl.out hb5
      have d5 := Hs.out.d.below hb5'
      have g5 := d5.blk
      have k5 := d5.wcell hlt
      have lg5 := Blk.lt g5
      have lw5 := Blk.lt d5.wrow
      have hrow := d5.W j hlt
      have hwi : ∀ c ∈ (S.sh j).wt, c ∈ S.its := fun c hc => Hs.out.ok.al j hlt c ((Hs.out.ok.ok j hlt).sub c hc)
      have hlen := (DOk.of Hs.out.ok Hs.out.kk.aln).wlen hlt
      have hkl := keys_length S j
      obtain ⟨L, hL⟩ : ∃ L, L = (S.sh j).wt.length := ⟨_, rfl⟩
      rw [← hL] at hrd k5 hrow hlen hkl ⊢
      have hLN : L ≤ 8796093022000 := by have := Hl.out; omega
      have Hrd := hid hrd; have D5 := hid d5; have Hrow := hid hrow; have Hwi := hid hwi; have HL := hid hL; have Hb5 := hid hb5'; have Hkl := hid hkl
      clear hrd d5 hrow hwi hL hb5 hb5' hlen hkl hbo lgo
      go_wp2
      go_loopg [10] L (fun gk v10 wr => TellIn w5 L gk v10 wr)
      case atStart => exact ⟨0, 0, Nat.zero_le _, rfl, rfl, rfl⟩
      case round =>
        obtain ⟨i, m, hi, rfl, rfl, rfl⟩ := hrel
        by_cases hil : i < L
        · obtain ⟨b, o, rfl, lb, hc⟩ := Hrd.out.2 (by omega)
          have hiw : i < (S.sh j).wt.length := by rw [← HL.out]; exact hil
          have hu : (keyCells (S.keys j))[i]? = some (.string (S.it ((S.sh j).wt[i]'hiw)).key) := by
            unfold keyCells CS.keys
            simp [hiw]
          have kb := cell_at (hc i _ hu)
          obtain ⟨a, hl2, ea, la, ka⟩ := own_ptr Hrow.out hil
          rw [List.getElem_map] at ka
          have hit := D5.out.its _ (Hwi.out _ (List.getElem_mem hiw))
          obtain ⟨q, hq⟩ : ∃ q, q = (S.sh j).wt[i]'hiw := ⟨_, rfl⟩
          rw [← hq] at kb ka hit
          unfold DItAt itCells at hit
          have liq := Blk.lt hit
          rw [ea] at k5
          have hi0 : (0 : Int) ≤ (i : Int) := Int.natCast_nonneg _
          have hi1 : (i : Int) < (L : Int) := by omega
          clear hc hu hq ea hl2
          go_wp2
          go_quiet (fail)
          go_wp2
          go_roundg (L - (i + 1))
          case measure => omega
          case rel => exact ⟨i + 1, _, by omega, rfl, by go_num, rfl⟩
        · obtain rfl : i = L := by omega
          go_wp2
          go_roundg (x.n - (j + 1))
          case measure => omega
          case rel => exact ⟨j + 1, by omega, rfl, by go_num, bl_drewN Hb5.out _⟩
    · obtain rfl : j = x.n := by omega
      go_wp2
      exact HR.out _ _ ⟨rfl, Hbl.out⟩
end
end Go.Proofs.Ytbiaelaaihieeaa
