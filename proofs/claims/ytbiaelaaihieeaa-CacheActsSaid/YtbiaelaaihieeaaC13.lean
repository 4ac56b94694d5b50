/- The cache: Charge, Pinned, Len, Value. -/
import Derived.Test.YtbiaelaaihieeaaC12
set_option linter.unusedVariables false
set_option linter.unusedSimpArgs false
set_option maxRecDepth 100000
namespace Go.Proofs.Ytbiaelaaihieeaa
open Go.RowKit

variable {B : Nat}
/-- What is used of the first j shards. -/
def CS.charge (S : CS) (j : Nat) : Int := ((List.range j).map fun i => chs S.it (S.sh i).al).sum
theorem charge_succ (S : CS) (j : Nat) : S.charge (j + 1) = S.charge j + chs S.it (S.sh j).al := by
  simp [CS.charge, List.range_succ]
theorem cap_cap {a b : Int} (ha : 0 ≤ a) (hb : 0 ≤ b) : addTop (cap a) (cap b) = cap (a + b) := by
  unfold addTop cap; (repeat' split) <;> omega
theorem charge_nonneg {n : Nat} {S : CS} (ok : COk n S) : ∀ {j : Nat}, j ≤ n → 0 ≤ S.charge j
  | 0, _ => by simp [CS.charge]
  | j + 1, h => by
    rw [charge_succ]
    have h1 := charge_nonneg ok (j := j) (by omega)
    have h2 := chs_nonneg (ok.ok j (by omega)).ch
    omega
/-- A shard's pointer, in the row of shards. -/
theorem CAt.shard_at {w : World} {x : CL} {S : CS} (h : CAt B w x S) {j : Nat} (hj : j < x.n) : x.row < w.heap.size ∧ (blkOf w x.row).bind (cellAt j) = some (.pointer (some ⟨(x.sh j).s, 0, none⟩)) := by
  obtain ⟨b, o, hl, e, lb, k0⟩ := ptr_at (Rd.of_own h.row) hj
  injection e with e
  injection e with e1 e2
  subst e1; subst e2
  refine ⟨lb, ?_⟩
  rw [Nat.zero_add] at k0
  simpa using k0
def ChargeRel (B : Nat) (w : World) (x : CL) (S : CS) (gk : Nat) (v3 v11 : Value) (wr : World) : Prop :=
  ∃ (j : Nat) (z : Int), j ≤ x.n ∧ gk = x.n - j ∧ v11 = .int .i64 j ∧ z = S.charge j ∧ v3 = .int .u64 (cap z) ∧ CAt B wr x S ∧ Below w.heap.size w wr
set_option maxHeartbeats 1600000 in
theorem charge_any (x : CL) (S : CS) (w : World) (h : CAt B w x S) (ok : COk x.n S) :
    Calls Try.prog 26 #[.pointer (some ⟨x.g, 0, none⟩)] w fun e w' => e = .returned (.int .u64 (cap (S.charge x.n))) ∧ Below w.heap.size w w' := by
  refine calls_of fun R HR => ?_
  have H := hid h
  have Ok := hid ok
  have hb := h.blk
  have hn := h.n1
  clear h ok
  go_enter Try.func26, Try.ntmps26
  go_wp2
  go_loopg [3, 5, 11] x.n (fun gk v3 v5 v11 wr => ChargeRel B w x S gk v3 v11 wr)
  case atStart => exact ⟨0, 0, by omega, rfl, rfl, rfl, rfl, H.out, Below.refl _ _⟩
  case round =>
    obtain ⟨j, z, hj, rfl, rfl, hz, rfl, hC, hbl⟩ := hrel
    obtain ⟨wo, hwo⟩ : ∃ wo : World, wo = wr := ⟨_, rfl⟩
    subst hwo
    have Hz := hid hz; have HC := hid hC; have Hbl := hid hbl
    have hz0 : 0 ≤ z := by rw [hz]; exact charge_nonneg Ok.out hj
    clear hz hC hbl hb
    by_cases hlt : j < x.n
    · obtain ⟨lr, k0⟩ := HC.out.shard_at hlt
      have hj0 : (0 : Int) ≤ (j : Int) := Int.natCast_nonneg _
      have hj1 : (j : Int) < (x.n : Int) := by omega
      have hcp := cap_range hz0
      have hcn := chs_nonneg (Ok.out.ok j hlt).ch
      have hcq := cap_range hcn
      have Hu := hid (HC.out.used Ok.out hlt)
      have Hp := hid (cplus_any (cap z) (usedOf (S.sh j) S.it))
      have hcq' : 0 ≤ usedOf (S.sh j) S.it ∧ usedOf (S.sh j) S.it ≤ 18446744073709551615 := hcq
      clear hcq
      go_wp2_with (first
        | (go_at_call 59; refine (Hp.out _ hcp hcq').mono ?_; rintro e w2 ⟨rfl, rfl⟩)
        | (go_at_call 60; refine Hu.out.mono ?_; rintro e w1 ⟨rfl, hb1⟩; have Hb1 := hid hb1; clear hb1))
      go_roundg (x.n - (j + 1))
      case measure => omega
      case rel =>
        refine ⟨j + 1, z + chs S.it (S.sh j).al, by omega, rfl, by go_num, by rw [charge_succ, ← Hz.out], ?_, HC.out.below Hb1.out, Hbl.out.trans (Hb1.out.mono Hbl.out.size)⟩
        rw [show usedOf (S.sh j) S.it = cap (chs S.it (S.sh j).al) from rfl, cap_cap hz0 hcn]
    · obtain rfl : j = x.n := by omega
      go_wp2
      exact HR.out _ _ ⟨by rw [← Hz.out]; rfl, Hbl.out⟩
def CS.count (S : CS) (j : Nat) : Int := ((List.range j).map fun i => ((S.sh i).inm.length : Int)).sum
theorem count_succ (S : CS) (j : Nat) : S.count (j + 1) = S.count j + (S.sh j).inm.length := by
  simp [CS.count, List.range_succ]
def LenRel (w : World) (x : CL) (S : CS) (gk : Nat) (v3 v11 : Value) (wr : World) : Prop :=
  ∃ (j : Nat) (z : Int), j ≤ x.n ∧ gk = x.n - j ∧ v11 = .int .i64 j ∧ z = S.count j ∧ v3 = .int .i64 z ∧ 0 ≤ z ∧ z ≤ j * 4503599627370496 ∧ wr = w
theorem inP_length (l : List (ByteArray × Nat)) : (inP l).length = l.length := by simp [inP]
set_option maxHeartbeats 1600000 in
theorem len_any (x : CL) (S : CS) (w : World) (h : CAt B w x S) (hm : ∀ j, j < x.n → (S.sh j).inm.length ≤ 4503599627370496) :
    Calls Try.prog 72 #[.pointer (some ⟨x.g, 0, none⟩)] w fun e w' => e = .returned (.int .i64 (S.count x.n)) ∧ w' = w := by
  refine calls_of fun R HR => ?_
  have H := hid h
  have Hm := hid hm
  have hb := h.blk
  have hn := h.n1
  clear h hm
  go_enter Try.func72, Try.ntmps72
  go_wp2
  go_loopg [3, 5, 11] x.n (fun gk v3 v5 v11 wr => LenRel w x S gk v3 v11 wr)
  case atStart => exact ⟨0, 0, by omega, rfl, rfl, rfl, rfl, by omega, by omega, rfl⟩
  case round =>
    obtain ⟨j, z, hj, rfl, rfl, hz, rfl, hz0, hz1, rfl⟩ := hrel
    have Hz := hid hz
    clear hz
    by_cases hlt : j < x.n
    · obtain ⟨lr, k0⟩ := H.out.shard_at hlt
      have hj0 : (0 : Int) ≤ (j : Int) := Int.natCast_nonneg _
      have hj1 : (j : Int) < (x.n : Int) := by omega
      have s0 := (H.out.shs j hlt).blk
      have hmi := (H.out.shs j hlt).inm
      have hml := Hm.out j hlt
      have hz2 : z + ((S.sh j).inm.length : Int) ≤ 288230376151711744 := by omega
      have hz3 : 0 ≤ z + ((S.sh j).inm.length : Int) := by omega
      have hl : (inP (S.sh j).inm).length = (S.sh j).inm.length := inP_length _
      have Hl := hid hl
      clear hl
      go_wp2_with (at_len; refine wpList_mlen Try.underlying105 rfl (.tmp 19) rfl rfl hmi ?_; rw [Hl.out])
      go_roundg (x.n - (j + 1))
      case measure => omega
      case rel => exact ⟨j + 1, z + (S.sh j).inm.length, by omega, rfl, by go_num, by rw [count_succ, ← Hz.out], rfl, by omega, by omega, rfl⟩
    · obtain rfl : j = x.n := by omega
      go_wp2
      exact HR.out _ _ ⟨by rw [← Hz.out]; rfl, rfl⟩
theorem value_no (x : CL) (S : CS) (k : Int) (w : World) (h : CAt B w x S) (hk : lookP S.pins k = none) :
    Calls Try.prog 34 #[.pointer (some ⟨x.g, 0, none⟩), .int .i64 k] w fun e w' => e = .returned (.tuple #[.int .u64 0, .int .i64 111]) ∧ w' = w := by
  refine calls_of fun R HR => ?_
  have hb := h.blk
  have hm := h.pins
  have hpg : (pget (pinP S.pins) k).getD (.pointer none) = .pointer none := by rw [pget_pinP, hk]; rfl
  clear hk
  go_enter Try.func34, Try.ntmps34
  go_wp2_with (at_lookup; refine wpList_mget ikeys3 Try.underlying100 rfl (.tmp 11) (.tmp 12) rfl (zero120 _) rfl hm k rfl ?_; rw [hpg])
  exact HR.out _ _ ⟨rfl, rfl⟩
theorem value_any (x : CL) (S : CS) (k : Int) (b : Nat) (v : Int) (w : World) (h : CAt B w x S) (hk : lookP S.pins k = some b) (hb : b ∈ S.its) (hv : (S.it b).v = .int .u64 v) :
    Calls Try.prog 34 #[.pointer (some ⟨x.g, 0, none⟩), .int .i64 k] w fun e w' => e = .returned (.tuple #[.int .u64 v, .int .i64 0]) ∧ w' = w := by
  refine calls_of fun R HR => ?_
  have hbg := h.blk
  have hm := h.pins
  have hbb : blkOf w b = some (.cells #[.string (S.it b).key, .int .u64 v, .int .u64 (S.it b).ch, .bool (S.it b).inn, .int .i64 (S.it b).pins] 123 (0, 0)) := by rw [← hv]; exact h.its b hb
  have hpg : (pget (pinP S.pins) k).getD (.pointer none) = .pointer (some ⟨b, 0, none⟩) := by rw [pget_pinP, hk]; rfl
  clear hk hv h hb
  go_enter Try.func34, Try.ntmps34
  go_wp2_with (at_lookup; refine wpList_mget ikeys3 Try.underlying100 rfl (.tmp 11) (.tmp 12) rfl (zero120 _) rfl hm k rfl ?_; rw [hpg])
  exact HR.out _ _ ⟨rfl, rfl⟩
end Go.Proofs.Ytbiaelaaihieeaa
