/- The cache: Drop, Room. -/
import Derived.Test.YtbiaelaaihieeaaC16
set_option linter.unusedVariables false
set_option linter.unusedSimpArgs false
set_option maxRecDepth 100000
namespace Go.Proofs.Ytbiaelaaihieeaa
open Go.RowKit

variable {B : Nat}
def CDrop (B : Nat) (w : World) (x : CL) (S : CS) (key : ByteArray) (e : Ending) (w' : World) : Prop :=
  Chg (x.F S) w w' ∧ match look (S.sh (sidx x.n key)).inm key with
    | none => e = .returned (.bool false) ∧ CAt B w' x S
    | some b => e = .returned (.bool true) ∧ CAt B w' x (S.outAt (sidx x.n key) b)
set_option maxHeartbeats 1600000 in
theorem cdrop_any (x : CL) (S : CS) (key : ByteArray) (w : World) (h : CAt B w x S) (ok : COk x.n S) (hk : key.size ≤ maxLen) (hl : S.last < 1152921504606846976) :
    Calls Try.prog 32 #[.pointer (some ⟨x.g, 0, none⟩), .string key] w (CDrop B w x S key) := by
  refine calls_of fun R HR => ?_
  unfold CDrop at HR
  have H := hid h
  have Ok := hid ok
  have Hof := hid (h.of key hk)
  have Hi := hid (sidx_lt h.n0 key)
  obtain ⟨i, hie⟩ : ∃ i, i = sidx x.n key := ⟨_, rfl⟩
  have Hie := hid hie
  rw [← hie] at Hof Hi
  clear h ok hie
  go_enter Try.func32, Try.ntmps32
  go_wp2_with fail
  refine Hof.out.mono ?_
  rintro e w1 ⟨rfl, hb1⟩
  have C1 := hid (H.out.below hb1)
  have Hb1 := hid hb1
  have s1 := (C1.out.shs i Hi.out).blk
  have hmi := (C1.out.shs i Hi.out).inm
  clear hb1
  cases hlk : look (S.sh i).inm key with
  | none =>
    have hpg : (pget (inP (S.sh i).inm) key).getD (.pointer none) = .pointer none := by rw [pget_inP, hlk]; rfl
    have Hlk := hid hlk
    clear hlk
    go_wp2_with (at_lookup; refine wpList_mget skeys Try.underlying105 rfl (.tmp 13) (.tmp 14) rfl (zero120 _) rfl hmi key rfl ?_; rw [hpg])
    refine HR.out _ _ ⟨Chg.of_below Hb1.out, ?_⟩
    rw [← Hie.out, Hlk.out]
    exact ⟨rfl, C1.out⟩
  | some b =>
    have hpg : (pget (inP (S.sh i).inm) key).getD (.pointer none) = .pointer (some ⟨b, 0, none⟩) := by rw [pget_inP, hlk]; rfl
    have hin := Ok.out.inm i Hi.out (key, b) (look_some hlk)
    have hbi : b ∈ S.its := Ok.out.al i Hi.out b hin.1
    have Hlk := hid hlk
    have Hout := hid (C1.out.out Ok.out Hi.out hbi hl)
    clear hlk hin hbi
    go_wp2_with (first
      | (go_at_call 61; refine Hout.out.mono ?_; rintro e w2 ⟨rfl, c2, hc2⟩; have C2 := hid c2; have Hc2 := hid hc2; clear c2 hc2)
      | (at_lookup; refine wpList_mget skeys Try.underlying105 rfl (.tmp 13) (.tmp 14) rfl (zero120 _) rfl hmi key rfl ?_; rw [hpg]))
    refine HR.out _ _ ⟨(Chg.of_below (F := x.F S) Hb1.out).trans Hc2.out (fun _ _ h => h) (fun k _ hk => hk.elim (fun h => .inr (.inr (.inr (.inl ⟨i, Hi.out, h⟩)))) (fun h => .inr (.inr (.inr (.inr h))))), ?_⟩
    rw [← Hie.out, Hlk.out]
    exact ⟨rfl, C2.out⟩
/-- The first j shards fit the new room. -/
inductive Roomed (q : Int) : Nat → CS → CS → Prop
  | zero (S : CS) : Roomed q 0 S S
  | succ {j : Nat} {S S1 : CS} {T : Sh} {I : Nat → It} : Roomed q j S S1 → Made 0 q (S1.sh j) S1.it T I → Roomed q (j + 1) S (S1.turn j T I)
theorem Roomed.ok {q : Int} {j n : Nat} {S S' : CS} (h : Roomed q j S S') (hj : j ≤ n) (ok : COk n S) : COk n S' := by
  induction h with
  | zero => exact ok
  | succ _ hm ih => exact (ih (by omega) ok).madeAt (by omega) hm
theorem Roomed.same {q : Int} {j : Nat} {S S' : CS} (h : Roomed q j S S') : S'.room = S.room ∧ S'.st = S.st ∧ S'.last = S.last ∧ S'.pins = S.pins ∧ S'.its = S.its := by
  induction h with
  | zero => exact ⟨rfl, rfl, rfl, rfl, rfl⟩
  | succ _ hm ih => exact ih
def RoomedRel (B : Nat) (w : World) (x : CL) (S : CS) (q : Int) (gk : Nat) (v15 : Value) (wr : World) : Prop :=
  ∃ (j : Nat) (S1 : CS), j ≤ x.n ∧ gk = x.n - j ∧ v15 = .int .i64 j ∧ Roomed q j S S1 ∧ CAt B wr x S1 ∧ Chg (x.F S) w wr
theorem CAt.put_room {w w' : World} {x : CL} {S : CS} (h : CAt B w x S) (hc : Chg (fun k => k = x.g) w w') {room : Int} (hb : blkOf w' x.g = some (.cells #[.slice (some ⟨x.row, 0, none⟩) x.n x.cp, .int .u64 room, .bool S.st, .map (some x.mp), .int .i64 S.last] 103 (0, 0))) : CAt B w' x { S with room := room } := by
  obtain ⟨cr, hr⟩ := h.row_blk
  exact ⟨hb, own_chg h.row hc (fun k hk e => by
      have e1 : x.row = x.g := (show x.row = k by injection hk).trans e
      rw [e1, h.blk] at hr; injection hr with hr; injection hr with _ e _; exact absurd e (by decide)), h.n0, h.n1, h.pins.of_blk (hc.block _ h.pins.lt (fun e => map_ne_blk h.pins h.blk e)),
    fun i hi => (h.shs i hi).chg hc (fun k hk e => (h.far hi).1 (by rw [← e]; exact hk)), h.apart, h.mpa, fun b hb => (hc.block b (Blk.lt (h.its b hb)) (fun e => (h.ni (h.isI hb)).1 e)).trans (h.its b hb), h.base⟩
set_option maxHeartbeats 1600000 in
theorem croom_any (x : CL) (S : CS) (room : Int) (w : World) (h : CAt B w x S) (ok : COk x.n S) (hr : 0 ≤ room ∧ room ≤ 18446744073709551615) (hl : S.last < 1152921504606846976) :
    Calls Try.prog 33 #[.pointer (some ⟨x.g, 0, none⟩), .int .u64 room] w fun e w' => e = .returned (.tuple #[]) ∧ ∃ S', Roomed (room / x.n) x.n { S with room := room } S' ∧ CAt B w' x S' ∧ Chg (x.F S) w w' := by
  refine calls_of fun R HR => ?_
  have H := hid h
  have ok2 : COk x.n { S with room := room } := ⟨hr, ok.last, ok.ok, ok.al, ok.alk, ok.inm, ok.pins, ok.pn, ok.wtn, ok.itn, ok.cnt, ok.ksz, ok.pinal, ok.w0⟩
  have Ok := hid ok2
  have hb := h.blk
  have lg := Blk.lt hb
  have hn := h.n1
  have Hl := hid hl
  clear h ok ok2 hl
  go_enter Try.func33, Try.ntmps33
  go_wp2
  go_loopg [5, 15] x.n (fun gk v5 v15 wr => RoomedRel B w x { S with room := room } (room / x.n) gk v15 wr)
  case atStart =>
    exact ⟨0, _, by omega, rfl, rfl, .zero _, H.out.put_room (chg_cell w x.g 1 _) (Blk.set (t := 103) hb 1 (.int .u64 room)), (chg_cell w x.g 1 _).mono (fun _ _ e => .inl e)⟩
  case round =>
    obtain ⟨j, S1, hj, rfl, rfl, hro, hC, hch⟩ := hrel
    obtain ⟨wo, hwo⟩ : ∃ wo : World, wo = wr := ⟨_, rfl⟩
    subst hwo
    have Hro := hid hro; have HC := hid hC; have Hch := hid hch
    clear hro hC hch hb
    by_cases hlt : j < x.n
    · obtain ⟨lr, k0⟩ := HC.out.shard_at hlt
      have hj0 : (0 : Int) ≤ (j : Int) := Int.natCast_nonneg _
      have hj1 : (j : Int) < (x.n : Int) := by omega
      have ok1 := Hro.out.ok (by omega) Ok.out
      have hsame := Hro.out.same
      have Hsh : Hid (Calls Try.prog 58 #[.pointer (some ⟨x.g, 0, none⟩)] wo fun e w' => e = .returned (.int .u64 (room / x.n)) ∧ ∃ m, w' = wo.drewN m) := hid (by
        have := HC.out.share ok1
        rw [hsame.1] at this; exact this)
      have Hmk : Hid (∀ m, Calls Try.prog 57 #[.pointer (some ⟨(x.sh j).s, 0, none⟩), .int .u64 0, .int .u64 (room / x.n)] (wo.drewN m) fun e w' => e = .returned (.tuple #[]) ∧ ∃ T I', Made 0 (room / x.n) (S1.sh j) S1.it T I' ∧ CAt B w' x (S1.turn j T I') ∧ Chg (fun k => (x.sh j).F k ∨ k ∈ S1.its) wo w') := hid (fun m => by
        refine ((HC.out.drewN m).makes ok1 hlt 0 (room / x.n) (by decide) (by rw [hsame.2.2.1]; exact Hl.out)).mono ?_
        rintro e w' ⟨h1, T, I', h2, h3, h4⟩
        exact ⟨h1, T, I', h2, h3, Chg.trans (F := fun _ => False) (Chg.drewN (Chg.refl _ _) m) h4 (fun _ _ h => h.elim) (fun _ _ h => h)⟩)
      have Hits := hid hsame.2.2.2.2
      clear ok1 hsame
      go_wp2_with (first
        | (go_at_call 57; refine (Hmk.out _).mono ?_; rintro e w5 ⟨rfl, T, I', h1, h2, h3⟩; have M1 := hid h1; have M2 := hid h2; have M3 := hid h3; clear h1 h2 h3)
        | (go_at_call 58; refine Hsh.out.mono ?_; rintro e _ ⟨rfl, m, rfl⟩))
      go_roundg (x.n - (j + 1))
      case measure => omega
      case rel =>
        refine ⟨j + 1, _, by omega, rfl, by go_num, .succ Hro.out M1.out, M2.out, Hch.out.trans M3.out (fun _ _ h => h) (fun k _ hk => hk.elim (fun h => .inr (.inr (.inr (.inl ⟨j, hlt, h⟩)))) (fun h => .inr (.inr (.inr (.inr (by rw [Hits.out] at h; exact h))))))⟩
    · obtain rfl : j = x.n := by omega
      go_wp2
      go_end0
      exact HR.out _ _ ⟨rfl, S1, Hro.out, HC.out, Hch.out⟩
end Go.Proofs.Ytbiaelaaihieeaa
