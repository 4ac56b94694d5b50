/- The cache: Keys. -/
import Derived.Test.YtbiaelaaihieeaaC16
import Derived.Test.YtbiaelaaihieeaaC13
set_option linter.unusedVariables false
set_option linter.unusedSimpArgs false
set_option maxRecDepth 100000
namespace Go.Proofs.Ytbiaelaaihieeaa
open Go.RowKit

variable {B : Nat}
def keyCells (l : List ByteArray) : List Value := l.map fun k => .string k
theorem keyCells_length (l : List ByteArray) : (keyCells l).length = l.length := by simp [keyCells]
/-- The keys of the entries that wait. -/
def CS.keys (S : CS) (i : Nat) : List ByteArray := (S.sh i).wt.map fun b => (S.it b).key
theorem keys_length (S : CS) (i : Nat) : (S.keys i).length = (S.sh i).wt.length := by simp [CS.keys]
theorem Try.info9k : (Try.prog.info? 9).map (fun i => (i.zero, i.size, i.bytes)) = some (some (.string ⟨#[]⟩), 1, 16) := by kernel_rfl
def KeysRel (w : World) (S : CS) (i : Nat) (L : Nat) (gk : Nat) (v5 v30 : Value) (wr : World) : Prop :=
  ∃ (j : Nat) (A : Option Addr) (c : Nat), j ≤ L ∧ gk = L - j ∧ v5 = .slice A j c ∧ v30 = .int .i64 j ∧ wr.ownsRow w.heap.size 9 1 (.slice A j c) j (keyCells ((S.keys i).take j)) ∧ Below w.heap.size w wr
theorem wt_len {n : Nat} {S : CS} (ok : COk n S) {i : Nat} (hi : i < n) : ((S.sh i).wt.length : Int) ≤ S.last := by
  have h1 := nodup_len (ok.wtn i hi) (l' := S.its) (fun y hy => ok.al i hi y ((ok.ok i hi).sub y hy))
  have h2 := ok.itn
  omega
theorem keys_below {w wo w5 : World} {A : Option Addr} {j c : Nat} {xs : List Value} {ob : Obj} (hown : wo.ownsRow w.heap.size 9 1 (.slice A j c) j xs) (hbl : Below w.heap.size w wo) (hg : (wo.alloc ob).grownBy w5 (Value.slice A j c).ownBlock) : Below w.heap.size w w5 := by
  have hc : Chg (fun k => (Value.slice A j c).ownBlock = some k) (wo.alloc ob) w5 := Chg.grown (F := fun k => (Value.slice A j c).ownBlock = some k) (Chg.refl _ _) hg (fun k hk _ => hk)
  have hs := hbl.size
  refine (bl_alloc hbl ob).trans (hc.to_below (by rw [World.size_alloc]; omega) (fun k hk hf => ?_))
  have := (hown.lt k hf).1
  omega
set_option maxHeartbeats 1600000 in
theorem keys_any (x : CL) (S : CS) (i : Nat) (w : World) (h : CAt B w x S) (ok : COk x.n S) (hi : i < x.n) (hl : S.last < 8796093022000) :
    Calls Try.prog 30 #[.pointer (some ⟨x.g, 0, none⟩), .int .i64 i] w fun e w' => ∃ A c, e = .returned (.slice A (S.sh i).wt.length c) ∧ Rd w' w'.heap.size 1 A (S.sh i).wt.length (keyCells (S.keys i)) ∧ Below w.heap.size w w' := by
  refine calls_of fun R HR => ?_
  have hL := wt_len ok hi
  obtain ⟨L, hLe⟩ : ∃ L, L = (S.sh i).wt.length := ⟨_, rfl⟩
  rw [← hLe] at hL HR
  have hLn : L ≤ 8796093022000 := by omega
  have HL := hid hLn
  have HLe := hid hLe
  have hL' : L ≤ 9223372036854775807 := by omega
  have H := hid h
  have Ok := hid ok
  have hb := h.blk
  obtain ⟨lr, k0⟩ := h.shard_at hi
  obtain ⟨A0, hA0⟩ : ∃ A0, A0 = (x.sh i).A := ⟨_, rfl⟩
  have hs : blkOf w (x.sh i).s = some (.cells #[.map (some (x.sh i).mi), .map (some (x.sh i).ma), .slice A0 L (x.sh i).c] 109 (0, 0)) := by rw [hLe, hA0]; exact (h.shs i hi).blk
  have HA := hid hA0
  have hi0 : (0 : Int) ≤ (i : Int) := Int.natCast_nonneg _
  have hi1 : (i : Int) < (x.n : Int) := by omega
  have hi2 : ¬ ((i : Int) < 0) := by omega
  have hi3 : ¬ ((x.n : Int) ≤ (i : Int)) := by omega
  have Hi := hid hi
  clear h ok hL hl hLe hLn hi hA0
  go_enter Try.func30, Try.ntmps30
  go_wp2
  go_loopg [5, 7, 30] L (fun gk v5 v7 v30 wr => KeysRel w S i L gk v5 v30 wr)
  case atStart => exact ⟨0, none, 0, Nat.zero_le _, rfl, rfl, rfl, World.ownsRow_nil _ _ _ _, Below.refl _ _⟩
  case round =>
    obtain ⟨j, A, c, hj, rfl, rfl, rfl, hown, hbl⟩ := hrel
    obtain ⟨wo, hwo⟩ : ∃ wo : World, wo = wr := ⟨_, rfl⟩
    subst hwo
    have Hown := hid hown
    have Hbl := hid hbl
    clear hown hbl hs hb k0
    by_cases hlt : j < L
    · have hr := Rd.of_own ((H.out.below Hbl.out).shs i Hi.out).wt
      have hlt2 : j < (S.sh i).wt.length := by rw [← HLe.out]; exact hlt
      obtain ⟨b, o, hl2, ea, lb, kb⟩ := ptr_at hr hlt2
      obtain rfl : A0 = _ := HA.out.trans ea
      obtain ⟨y, hy⟩ : ∃ y, y = (S.sh i).wt[j] := ⟨_, rfl⟩
      rw [← hy] at kb
      have hyi : y ∈ S.its := Ok.out.al i Hi.out y ((Ok.out.ok i Hi.out).sub y (by rw [hy]; exact List.getElem_mem hl2))
      have hit : blkOf wo y = some (.cells #[.string (S.it y).key, (S.it y).v, .int .u64 (S.it y).ch, .bool (S.it y).inn, .int .i64 (S.it y).pins] 123 (0, 0)) := (H.out.below Hbl.out).its y hyi
      have hkj : (S.keys i).take (j + 1) = (S.keys i).take j ++ [(S.it y).key] := by
        rw [List.take_succ_eq_append_getElem (by rw [keys_length]; exact hlt2)]
        congr 2
        simp [CS.keys, hy]
      have Hkj := hid hkj
      obtain ⟨k, hk⟩ : ∃ k, k = (S.it y).key := ⟨_, rfl⟩
      rw [← hk] at hit Hkj
      have hj0 : (0 : Int) ≤ (j : Int) := Int.natCast_nonneg _
      have hj1 : (j : Int) < (L : Int) := by omega
      obtain ⟨i9, hi9, hz0, hz1, hz2⟩ := info_parts Try.info9k
      clear hr hlt2 hl2 hy hyi hkj hk ea
      go_wp2_with (at_builtin; refine wpList_append_rd _ rfl (.tmp 34) (.tmp 39) _ rfl w.heap.size 9 i9 _ 1 16 Try.underlying66 hi9 hz0 hz1 hz2 rfl (by decide) (.slice A j c) j (keyCells ((S.keys i).take j)) rfl ?ho (wo.heap.size + 1) (some ⟨wo.heap.size, 0, none⟩) 1 1 [.string k] rfl ?hr ?h1 ?h63 ?hb ?hbase ?hk; case' hk => (intro v2 w5 hown5 hg5 hat5; obtain ⟨A3, c3, rfl, _⟩ := own_shape hown5; have Hown5 := hid hown5; have Hg5 := hid hg5; clear hown5 hg5 hat5))
      case ho => exact Hown.out.alloc _
      case hr => exact rd_new wo 9 1 1 [.string k] rfl
      case h1 => simp [Value.oneCell']
      case h63 => have := HL.out; simp only [maxLen]; omega
      case hb => have := HL.out; omega
      case hbase => have := Hbl.out.size; simp; omega
      go_roundg (L - (j + 1))
      case measure => omega
      case rel =>
        refine ⟨j + 1, A3, c3, by omega, rfl, rfl, by go_num, ?_, keys_below Hown.out Hbl.out Hg5.out⟩
        rw [Hkj.out]
        have := Hown5.out
        simpa [keyCells] using this
    · obtain rfl : j = L := by omega
      go_wp2
      refine HR.out _ _ ⟨A, c, rfl, ?_, Hbl.out⟩
      have := Rd.of_own Hown.out
      rw [List.take_of_length_le (by rw [keys_length, HLe.out]; exact Nat.le_refl _)] at this
      exact this
end Go.Proofs.Ytbiaelaaihieeaa
