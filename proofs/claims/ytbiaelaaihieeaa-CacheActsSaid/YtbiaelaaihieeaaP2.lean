/- CacheRoom: what holds ahead of each act. -/
import Derived.Test.YtbiaelaaihieeaaP1
import Derived.Test.YtbiaelaaihieeaaC15
set_option linter.unusedVariables false
set_option linter.unusedSimpArgs false
set_option maxRecDepth 100000
namespace Go.Proofs.Ytbiaelaaihieeaa
open Go.RowKit

/-- A call of a cache: kind, pin, key, value, number. -/
abbrev CActD := Int × Int × ByteArray × Int × Int
def cactCells (a : CActD) : List Value := [.int .i64 a.1, .int .i64 a.2.1, .string a.2.2.1, .int .u64 a.2.2.2.1, .int .u64 a.2.2.2.2]
def cactsC (l : List CActD) : List Value := l.flatMap cactCells
theorem cactsC_length (l : List CActD) : (cactsC l).length = l.length * 5 := by
  induction l with
  | nil => rfl
  | cons a l ih => simp only [cactsC, List.flatMap_cons, List.length_append, List.length_cons] at *; rw [ih]; simp [cactCells]; omega
theorem cactsC_at (l : List CActD) (i : Nat) (h : i < l.length) (j : Nat) (hj : j < 5) : (cactsC l)[i * 5 + j]? = (cactCells l[i])[j]? := by
  induction l generalizing i with
  | nil => simp at h
  | cons a l ih =>
    simp only [cactsC, List.flatMap_cons]
    cases i with
    | zero => rw [List.getElem?_append_left (by simp [cactCells]; omega)]; simp
    | succ i =>
      rw [List.getElem?_append_right (by simp [cactCells]; omega)]
      have := ih i (by simpa using h)
      simp only [cactsC] at this
      rw [show (i + 1) * 5 + j - (cactCells a).length = i * 5 + j by simp [cactCells]; omega, this]
      rfl
/-- The cells of one act. -/
theorem cact_at {w : World} {A : Option Addr} {n : Nat} {l : List CActD} (h : Rd w w.heap.size 5 A n (cactsC l)) {w' : World} (hb : Below w.heap.size w w') {i : Nat} (hi : i < n) :
    ∃ b o, ∃ hl : i < l.length, A = some ⟨b, o, none⟩ ∧ b < w.heap.size ∧ (blkOf w' b).bind (cellAt (o + i * 5)) = some (.int .i64 l[i].1) ∧ (blkOf w' b).bind (cellAt (o + i * 5 + 1)) = some (.int .i64 l[i].2.1) ∧
      (blkOf w' b).bind (cellAt (o + i * 5 + 2)) = some (.string l[i].2.2.1) ∧ (blkOf w' b).bind (cellAt (o + i * 5 + 3)) = some (.int .u64 l[i].2.2.2.1) ∧ (blkOf w' b).bind (cellAt (o + i * 5 + 4)) = some (.int .u64 l[i].2.2.2.2) := by
  have hl : i < l.length := by have := h.1; rw [cactsC_length] at this; omega
  obtain ⟨b, o, rfl, hlt, hc⟩ := (h.below hb).2 (by omega)
  have h0 := hc (i * 5 + 0) _ ((cactsC_at l i hl 0 (by omega)).trans rfl)
  have h1 := hc (i * 5 + 1) _ ((cactsC_at l i hl 1 (by omega)).trans rfl)
  have h2 := hc (i * 5 + 2) _ ((cactsC_at l i hl 2 (by omega)).trans rfl)
  have h3 := hc (i * 5 + 3) _ ((cactsC_at l i hl 3 (by omega)).trans rfl)
  have h4 := hc (i * 5 + 4) _ ((cactsC_at l i hl 4 (by omega)).trans rfl)
  exact ⟨b, o, hl, rfl, hlt, cell_at h0, cell_at h1, cell_at h2, cell_at h3, cell_at h4⟩
/-- Numbers as cells. -/
def nums (l : List Int) : List Value := l.map fun x => .int .i64 x
theorem nums_length (l : List Int) : (nums l).length = l.length := by simp [nums]
theorem Try.info3c : (Try.prog.info? 3).map (fun i => (i.zero, i.size, i.bytes)) = some (some (.int .i64 0), 1, 8) := by kernel_rfl
variable {B : Nat}
/-- A row of another type is none of a cache's blocks. -/
theorem CAt.own_far {w : World} {x : CL} {S : CS} (h : CAt B w x S) {base e size n : Nat} {v : Value} {xs : List Value} (ho : w.ownsRow base e size v n xs) (h1 : e ≠ 103) (h2 : e ≠ 104) (h3 : e ≠ 109) (h4 : e ≠ 120) (h5 : e ≠ 123) : ∀ k, v.ownBlock = some k → ¬ x.F S k := by
  intro k hk
  obtain ⟨cr, hr⟩ := h.row_blk
  have hkb : ∃ cs, blkOf w k = some (.cells cs e (0, 0)) := by
    rcases ho.2 with ⟨h0, _⟩ | ⟨b, cap, cur, hv, _, hh, _⟩
    · rw [h0] at hk; cases hk
    · rw [hv] at hk
      have : b = k := by simpa [Value.ownBlock] using hk
      subst this
      exact ⟨cur, hh⟩
  obtain ⟨cs, hc⟩ := hkb
  rintro (rfl | rfl | rfl | ⟨i, hi, hf⟩ | hi)
  · rw [h.blk] at hc; injection hc with hc; injection hc with _ e _; exact h1 e.symm
  · rw [hr] at hc; injection hc with hc; injection hc with _ e _; exact h2 e.symm
  · exact map_ne_blk h.pins hc rfl
  · exact (h.shs i hi).nt hc h3 h4 hf
  · obtain ⟨ci, hci⟩ := h.isI hi
    rw [hci] at hc; injection hc with hc; injection hc with _ e _; exact h5 e.symm
structure RoomInv (w : World) (g n : Nat) (sh room : Int) (st : Bool) (i : Nat) (x : CL) (S : CS) (ps qs : List Int) (A : Option Addr) (c : Nat) (wr : World) : Prop where
  hg : x.g = g
  hn : x.n = n
  at_ : CAt (w.heap.size + 1) wr x S
  ok : COk n S
  ci : CI n S
  hroom : S.room = room
  hst : S.st = st
  pins : S.pins.map (·.1) = qs
  row : wr.ownsRow (w.heap.size + 1) 3 1 (.slice A ps.length c) ps.length (nums ps)
  last : S.last ≤ i
  form : blkOf wr w.heap.size = some (.cells #[.int .i64 sh, .int .u64 room, .bool st] 54 (0, 0))
  below : Below w.heap.size w wr
  size : w.heap.size < wr.heap.size
section
variable {w wr w' : World} {g n : Nat} {sh room : Int} {st : Bool} {i : Nat} {x : CL} {S : CS} {ps qs : List Int} {A : Option Addr} {c : Nat}
theorem RoomInv.next (inv : RoomInv w g n sh room st i x S ps qs A c wr) {i' : Nat} {x' : CL} {S' : CS} {qs' : List Int} (hc : Chg (x.F S) wr w') (h1 : x'.g = g) (h2 : x'.n = n) (hC : CAt (w.heap.size + 1) w' x' S') (ok : COk n S') (ci : CI n S') (h3 : S'.room = S.room) (h4 : S'.st = S.st)
    (hq : S'.pins.map (·.1) = qs') (hl : S'.last ≤ i') : RoomInv w g n sh room st i' x' S' ps qs' A c w' := by
  have hF : ∀ k, x.F S k → w.heap.size + 1 ≤ k := fun k hk => (inv.at_.lt hk).1
  have hs := inv.size
  refine ⟨h1, h2, hC, ok, ci, h3.trans inv.hroom, h4.trans inv.hst, hq, own_chg inv.row hc (fun k hk => inv.at_.own_far inv.row (by decide) (by decide) (by decide) (by decide) (by decide) k hk), hl, ?_, inv.below.trans (hc.to_below (by omega) (fun k hk hf => by have := hF k hf; omega)), Nat.lt_of_lt_of_le hs hc.size⟩
  exact (hc.block _ hs (fun hf => by have := hF _ hf; omega)).trans inv.form
theorem RoomInv.later (inv : RoomInv w g n sh room st i x S ps qs A c wr) (hb : Below wr.heap.size wr w') : RoomInv w g n sh room st i x S ps qs A c w' :=
  inv.next (Chg.of_below hb) inv.hg inv.hn (inv.at_.below hb) inv.ok inv.ci rfl rfl inv.pins inv.last
theorem RoomInv.drewN (inv : RoomInv w g n sh room st i x S ps qs A c wr) (m : Nat) : RoomInv w g n sh room st i x S ps qs A c (wr.drewN m) := inv.later (bl_drewN (Below.refl _ _) m)
theorem RoomInv.turn (inv : RoomInv w g n sh room st i x S ps qs A c wr) : RoomInv w g n sh room st (i + 1) x S ps qs A c wr :=
  ⟨inv.hg, inv.hn, inv.at_, inv.ok, inv.ci, inv.hroom, inv.hst, inv.pins, inv.row, by have := inv.last; omega, inv.form, inv.below, inv.size⟩
/-- Another row of pins. -/
theorem RoomInv.put_row (inv : RoomInv w g n sh room st i x S ps qs A c wr) (hg : wr.grownBy w' (Value.slice A ps.length c).ownBlock) {A' : Option Addr} {c' : Nat} {ps' : List Int} (hown : w'.ownsRow (w.heap.size + 1) 3 1 (.slice A' ps'.length c') ps'.length (nums ps')) : RoomInv w g n sh room st i x S ps' qs A' c' w' := by
  have hc : Chg (fun k => (Value.slice A ps.length c).ownBlock = some k) wr w' := Chg.grown (F := fun k => (Value.slice A ps.length c).ownBlock = some k) (Chg.refl _ _) hg (fun k hk _ => hk)
  have hs := inv.size
  have hF : ∀ k, (Value.slice A ps.length c).ownBlock = some k → w.heap.size + 1 ≤ k := fun k hk => (inv.row.lt k hk).1
  refine ⟨inv.hg, inv.hn, inv.at_.chg hc (fun k hk hf => inv.at_.own_far inv.row (by decide) (by decide) (by decide) (by decide) (by decide) k hf hk), inv.ok, inv.ci, inv.hroom, inv.hst, inv.pins, hown, inv.last, ?_, inv.below.trans (hc.to_below (by omega) (fun k hk hf => by have := hF k hf; omega)), Nat.lt_of_lt_of_le hs hc.size⟩
  exact (hc.block _ hs (fun hf => by have := hF _ hf; omega)).trans inv.form
/-- What Put leaves. -/
def RoomPut (w : World) (g n : Nat) (sh room : Int) (st : Bool) (i : Nat) (x : CL) (ps : List Int) (A : Option Addr) (c : Nat) (v9 v10 : Value) (wx : World) : Prop :=
  ∃ (S' : CS) (z a : Int), v9 = .int .i64 a ∧ v10 = .int .i64 z ∧ (st = true → ∀ j, j < n → usedOf (S'.sh j) S'.it ≤ room / n) ∧
    ((z = 0 ∧ RoomInv w g n sh room st (i + 1) x S' ps (ps ++ [a]) A c wx) ∨ ((z == 0) = false ∧ RoomInv w g n sh room st (i + 1) x S' ps ps A c wx))
theorem RoomInv.strict (inv : RoomInv w g n sh room st i x S ps qs A c wr) : st = true → ∀ j, j < n → usedOf (S.sh j) S.it ≤ room / n := fun h j hj => by
  have := (inv.ci j hj).strict (by rw [inv.hst]; exact h)
  rw [inv.hroom] at this; exact this
/-- Put, as the statement meets it. -/
theorem RoomInv.put (inv : RoomInv w g n sh room st i x S ps ps A c wr) (key : ByteArray) (v ch : Int) (hk : key.size ≤ maxLen) (hch : 0 ≤ ch ∧ ch ≤ 18446744073709551615) (hi : (i : Int) < 4398046511104) (W : World) (hW : Below wr.heap.size wr W) :
    Calls Try.prog 25 #[.pointer (some ⟨g, 0, none⟩), .string key, .int .u64 v, .int .u64 ch] W fun e w' => ∃ v9 v10, e = .returned (.tuple #[v9, v10]) ∧ RoomPut w g n sh room st i x ps A c v9 v10 w' := by
  have inv2 := inv.later hW
  obtain ⟨rfl, rfl⟩ : x.g = g ∧ x.n = n := ⟨inv.hg, inv.hn⟩
  by_cases hl : 1024 < key.size
  · refine (cput_long x key v ch W hl hk).mono ?_
    rintro e w' ⟨rfl, rfl⟩
    exact ⟨_, _, rfl, S, 2, 0, rfl, rfl, inv2.strict, .inr ⟨by decide, inv2.turn⟩⟩
  · have hla := inv.last
    refine (cput_any x S key v ch W inv2.at_ inv2.size inv.ok (by omega) hch (by omega)).mono ?_
    rintro e w' ⟨T, I, hm, hc, ho⟩
    have hsi := sidx_lt inv.at_.n0 key
    have hcp := inv.ci.put inv.ok hsi hch hm
    rcases ho with ⟨_, rfl, hC⟩ | ⟨hf, nb, hnb, rfl, hC⟩
    · have i2 : RoomInv w x.g x.n sh room st (i + 1) x (S.turn (sidx x.n key) T I) ps ps A c w' := inv2.next hc rfl rfl hC (inv.ok.madeAt hsi hm) hcp.1 rfl rfl inv.pins (by show S.last ≤ _; omega)
      exact ⟨_, _, rfl, _, 110, 0, rfl, rfl, i2.strict, .inr ⟨by decide, i2⟩⟩
    · have hnits : nb ∉ S.its := fun h => by have := Blk.lt (inv2.at_.its nb h); omega
      have ok1 := inv.ok.madeAt hsi hm
      have ok2 : COk x.n ((S.turn (sidx x.n key) T I).clear (sidx x.n key) key) := by
        unfold CS.clear
        rw [turn_sh]
        cases hlk : look T.inm key with
        | none => exact ok1
        | some b =>
          have hin := ok1.inm _ hsi (key, b) (by rw [turn_sh]; exact look_some hlk)
          exact ok1.out hsi (by rw [hin.2.1])
      have hsame : ((S.turn (sidx x.n key) T I).clear (sidx x.n key) key).its = S.its ∧ ((S.turn (sidx x.n key) T I).clear (sidx x.n key) key).pins = S.pins ∧ ((S.turn (sidx x.n key) T I).clear (sidx x.n key) key).last = S.last ∧ ((S.turn (sidx x.n key) T I).clear (sidx x.n key) key).room = S.room ∧ ((S.turn (sidx x.n key) T I).clear (sidx x.n key) key).st = S.st := by
        unfold CS.clear
        split <;> exact ⟨rfl, rfl, rfl, rfl, rfl⟩
      have ok3 := ok2.added hsi (nb := nb) (by rw [hsame.1]; exact hnits) (a := ⟨key, .int .u64 v, ch, true, 0⟩) rfl rfl hch rfl (by show key.size ≤ 1024; omega)
      have i2 : RoomInv w x.g x.n sh room st (i + 1) x _ ps (ps ++ [S.last + 1]) A c w' := inv2.next hc rfl rfl hC ok3 (hcp.2 key _ nb hf rfl hnits) hsame.2.2.2.1 hsame.2.2.2.2 (by
        show (((S.turn (sidx x.n key) T I).clear (sidx x.n key) key).pins ++ [(((S.turn (sidx x.n key) T I).clear (sidx x.n key) key).last + 1, nb)]).map (·.1) = _
        rw [hsame.2.1, hsame.2.2.1, List.map_append, inv.pins]; rfl) (by show ((S.turn (sidx x.n key) T I).clear (sidx x.n key) key).last + 1 ≤ _; rw [hsame.2.2.1]; omega)
      exact ⟨_, _, rfl, _, 0, S.last + 1, rfl, rfl, i2.strict, .inl ⟨rfl, i2⟩⟩
end
end Go.Proofs.Ytbiaelaaihieeaa
