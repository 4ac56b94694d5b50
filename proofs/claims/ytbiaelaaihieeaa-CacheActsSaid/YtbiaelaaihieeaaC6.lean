/- The cache: a key's shard, a shard's room. -/
import Derived.Test.YtbiaelaaihieeaaC5
import Derived.Lib.ConvBytes
set_option linter.unusedVariables false
set_option linter.unusedSimpArgs false
set_option maxRecDepth 100000
namespace Go.Proofs.Ytbiaelaaihieeaa
open Go.RowKit

/-- One byte more of a key's number. -/
def hstep (h : Int) (x : UInt8) : Int := IntKind.u32.wrap (bits .xor .u32 h (x.toNat : Int) * 16777619)
def hashOf (l : List UInt8) : Int := l.foldl hstep 2166136261
theorem u32_range (x : Int) : 0 ≤ IntKind.u32.wrap x ∧ IntKind.u32.wrap x < 4294967296 := by
  unfold IntKind.wrap; simp [IntKind.bits, IntKind.signed]; omega
theorem hash_snoc (l : List UInt8) (x : UInt8) : hashOf (l ++ [x]) = hstep (hashOf l) x := by simp [hashOf]
theorem hash_range (l : List UInt8) : 0 ≤ hashOf l ∧ hashOf l < 4294967296 := by
  rcases List.eq_nil_or_concat l with rfl | ⟨l', x, rfl⟩
  · simp [hashOf]
  · rw [List.concat_eq_append, hash_snoc]; exact u32_range _
/-- A key's shard. -/
def sidx (n : Nat) (key : ByteArray) : Nat := (hashOf key.data.toList % (n : Int)).toNat
theorem sidx_lt {n : Nat} (h : 0 < n) (key : ByteArray) : sidx n key < n := by
  unfold sidx
  have h1 := Int.emod_lt_of_pos (hashOf key.data.toList) (show (0 : Int) < n by omega)
  have h2 := Int.emod_nonneg (hashOf key.data.toList) (show (n : Int) ≠ 0 by omega)
  omega
/-- '[]byte(key)': a row of its own. -/
theorem conv_bytes (w : World) (key : ByteArray) : ∃ w1 c1, (convert 9 125 (.string key)).run Try.prog w = .ok (.slice (some ⟨w.heap.size, 0, none⟩) key.size c1) w1 ∧ Below w.heap.size w w1 ∧
    ∀ (j : Nat) (h : j < key.size), (blkOf w1 w.heap.size).bind (cellAt j) = some (.int .u8 (key.data.toList[j]'(by simpa using h)).toNat) := by
  refine ⟨_, _, Lib.run_convert_string_bytes (P := Try.prog) w 9 125 5 key (u := .string) Try.underlying9 Try.underlying125 Try.underlying5, ?_, fun j hj => ?_⟩
  · refine ⟨rfl, rfl, rfl, by rw [Lib.bytesWorld_size]; omega, fun k hk => Lib.bytesWorld_at_old w 5 key k hk⟩
  · have := Lib.bytesWorld_cell w 5 key j hj
    rw [cell_open] at this
    rw [this]
    have hl : j < key.data.toList.length := by simpa using hj
    rw [List.getD_eq_getElem?_getD, List.getElem?_eq_getElem hl]; rfl
def HashRel (w1 : World) (key : ByteArray) (gk : Nat) (v5 v11 : Value) (wr : World) : Prop :=
  ∃ i : Nat, i ≤ key.size ∧ gk = key.size - i ∧ v11 = .int .i64 i ∧ v5 = .int .u32 (hashOf (key.data.toList.take i)) ∧ wr = w1
set_option maxHeartbeats 1600000 in
theorem shard_any (g : Nat) (key : ByteArray) (A : Option Addr) (n c : Nat) (room last : Int) (st : Bool) (mp : Option Nat) (w : World) (hb : blkOf w g = some (.cells #[.slice A n c, .int .u64 room, .bool st, .map mp, .int .i64 last] 103 (0, 0)))
    (h0 : 0 < n) (h1 : n ≤ 64) (hk : key.size ≤ maxLen) :
    Calls Try.prog 29 #[.pointer (some ⟨g, 0, none⟩), .string key] w fun e w' => e = .returned (.int .i64 (sidx n key)) ∧ Below w.heap.size w w' := by
  refine calls_of fun R HR => ?_
  have lg := Blk.lt hb
  obtain ⟨w1, c1, hcv, hb1, hcell⟩ := conv_bytes w key
  have Hb1 := hid hb1; have Hcell := hid hcell
  have e1 := (bl_at hb1 g lg).trans hb
  clear hb1 hcell hb
  simp only [maxLen] at hk
  go_enter Try.func29, Try.ntmps29
  go_wp2
  go_loopg [5, 11] key.size (fun gk v5 v11 wr => HashRel w1 key gk v5 v11 wr)
  case atStart => exact ⟨0, Nat.zero_le _, rfl, rfl, rfl, rfl⟩
  case round =>
    obtain ⟨i, hi, rfl, rfl, rfl, rfl⟩ := hrel
    obtain ⟨h, hh⟩ : ∃ h, h = hashOf (key.data.toList.take i) := ⟨_, rfl⟩
    have hr := hash_range (key.data.toList.take i)
    rw [← hh] at hr ⊢
    have Hh := hid hh
    clear hh
    have hi0 : (0 : Int) ≤ (i : Int) := Int.natCast_nonneg _
    by_cases hlt : i < key.size
    · have hi1 : (i : Int) < (key.size : Int) := by omega
      have k0 := Hcell.out i hlt
      have hts : key.data.toList.take (i + 1) = key.data.toList.take i ++ [key.data.toList[i]'(by simpa using hlt)] := List.take_succ_eq_append_getElem (by simpa using hlt)
      obtain ⟨y, hy⟩ : ∃ y, y = key.data.toList[i]'(by simpa using hlt) := ⟨_, rfl⟩
      rw [← hy] at k0 hts
      have Hts := hid hts
      have hy8 : ((y.toNat : Int)) ≤ 255 := by have := y.toNat_lt; omega
      clear hy hts hcv
      go_wp2
      go_roundg (key.size - (i + 1))
      case measure => omega
      case rel => exact ⟨i + 1, by omega, rfl, by go_num, by rw [Hts.out, hash_snoc, ← Hh.out]; rfl, rfl⟩
    · obtain rfl : i = key.size := by omega
      have hn : IntKind.u32.wrap (n : Int) = (n : Int) := by unfold IntKind.wrap; simp [IntKind.bits, IntKind.signed]; omega
      have hn0 : ((n : Int) == 0) = false := by rw [beq_eq_false_iff_ne]; omega
      clear hcv
      go_wp2
      refine HR.out _ _ ⟨?_, Hb1.out⟩
      have hm1 := Int.emod_lt_of_pos h (show (0 : Int) < n by omega)
      have hm2 := Int.emod_nonneg h (show (n : Int) ≠ 0 by omega)
      have hx : ((sidx n key : Nat) : Int) = h % (n : Int) := by
        have e : h = hashOf key.data.toList := by rw [Hh.out, List.take_of_length_le (by simp)]
        unfold sidx
        rw [← e]; omega
      have hw : wrap64 (h % (n : Int)) = (sidx n key : Int) := by rw [hx]; unfold wrap64; omega
      rw [hw]; rfl

set_option maxHeartbeats 800000 in
theorem share_any (g : Nat) (A : Option Addr) (n c : Nat) (room last : Int) (st : Bool) (mp : Option Nat) (w : World) (hb : blkOf w g = some (.cells #[.slice A n c, .int .u64 room, .bool st, .map mp, .int .i64 last] 103 (0, 0)))
    (h0 : 0 < n) (h1 : n ≤ 64) (hr : 0 ≤ room ∧ room ≤ 18446744073709551615) :
    Calls Try.prog 58 #[.pointer (some ⟨g, 0, none⟩)] w fun e w' => e = .returned (.int .u64 (room / n)) ∧ ∃ m, w' = w.drewN m := by
  refine calls_of fun R HR => ?_
  have hn : IntKind.u64.wrap (n : Int) = (n : Int) := by unfold IntKind.wrap; simp [IntKind.bits, IntKind.signed]; omega
  have hn0 : ((n : Int) == 0) = false := by rw [beq_eq_false_iff_ne]; omega
  have hn1 : (1 : Int) ≤ n := by omega
  go_enter Try.func58, Try.ntmps58
  go_wp2
  go_quiet (fail)
  go_wp2
  refine HR.out _ _ ⟨?_, _, rfl⟩
  have h2 : room / (n : Int) ≤ room := Int.ediv_le_self _ hr.1
  have h3 : 0 ≤ room / (n : Int) := Int.ediv_nonneg hr.1 (by omega)
  have h4 : IntKind.u64.wrap (room.tdiv (n : Int)) = room / (n : Int) := by
    rw [Int.tdiv_eq_ediv_of_nonneg hr.1]
    unfold IntKind.wrap; simp [IntKind.bits, IntKind.signed]; omega
  rfl
set_option maxHeartbeats 800000 in
theorem of_any (g : Nat) (key : ByteArray) (A : Option Addr) (n c : Nat) (room last : Int) (st : Bool) (mp : Option Nat) (ss : List Nat) (w : World) (hb : blkOf w g = some (.cells #[.slice A n c, .int .u64 room, .bool st, .map mp, .int .i64 last] 103 (0, 0)))
    (hr : Rd w w.heap.size 1 A n (ptrs ss)) (h0 : 0 < n) (h1 : n ≤ 64) (hk : key.size ≤ maxLen) (y : Nat) (hy : ss[sidx n key]? = some y) :
    Calls Try.prog 56 #[.pointer (some ⟨g, 0, none⟩), .string key] w fun e w' => e = .returned (.pointer (some ⟨y, 0, none⟩)) ∧ Below w.heap.size w w' := by
  refine calls_of fun R HR => ?_
  have hi := sidx_lt h0 key
  obtain ⟨b, o, hl, rfl, lb, k0⟩ := ptr_at hr hi
  rw [List.getElem?_eq_getElem hl] at hy
  simp only [Option.some.injEq] at hy
  rw [hy] at k0
  have lg := Blk.lt hb
  have Hs := hid (fun W (hW : Below w.heap.size w W) => shard_any g key (some ⟨b, o, none⟩) n c room last st mp W ((bl_at hW g lg).trans hb) h0 h1 hk)
  obtain ⟨i, hie⟩ : ∃ i, i = sidx n key := ⟨_, rfl⟩
  rw [← hie] at k0 hi Hs
  clear hr hy hie hl
  have hi0 : (0 : Int) ≤ (i : Int) := Int.natCast_nonneg _
  have hi1 : (i : Int) < (n : Int) := by omega
  go_enter Try.func56, Try.ntmps56
  go_wp2
  go_region_with ((go_at_call 29; refine (Hs.out _ ?_).mono ?_; (repeat (first | exact Below.refl _ _ | apply Below.drew | apply bl_drewN)); rintro e w1 ⟨rfl, hb1⟩; have hb1' : Below w.heap.size w w1 := bl_then (by (repeat (first | exact Below.refl _ _ | apply Below.drew | apply bl_drewN))) hb1; have e1 := (bl_at hb1' g lg).trans hb; have k1 := (congrArg (fun u => Option.bind u (cellAt (o + i))) (bl_at hb1' b lb)).trans k0; have Hb1 := hid hb1'; clear hb1 hb1'))
  all_goals
    go_wp2
    go_simp
    go_ret
    exact HR.out _ _ ⟨rfl, Hb1.out⟩
end Go.Proofs.Ytbiaelaaihieeaa
