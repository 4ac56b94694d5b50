/- The cache: Get. -/
import Derived.Test.YtbiaelaaihieeaaC15
set_option linter.unusedVariables false
set_option linter.unusedSimpArgs false
set_option maxRecDepth 100000
namespace Go.Proofs.Ytbiaelaaihieeaa
open Go.RowKit

variable {B : Nat}
def CS.unwait (S : CS) (i b : Nat) : CS := S.turn i { S.sh i with wt := less (S.sh i).wt b } S.it
def CGet (B : Nat) (w : World) (x : CL) (S : CS) (key : ByteArray) (e : Ending) (w' : World) : Prop :=
  Chg (x.F S) w w' ∧ match look (S.sh (sidx x.n key)).inm key with
    | none => e = .returned (.tuple #[.int .i64 0, .int .u64 0, .bool false]) ∧ CAt B w' x S
    | some b => e = .returned (.tuple #[.int .i64 (S.last + 1), (S.it b).v, .bool true]) ∧ CAt B w' x ((S.unwait (sidx x.n key) b).pinned b)
theorem cget_it {w3 : World} {x : CL} {S : CS} {i b : Nat} {v : Int} (h : CAt B w3 x ((S.unwait i b).pinned b)) (hb : b ∈ S.its) (hv : (S.it b).v = .int .u64 v) :
    blkOf w3 b = some (.cells #[.string (S.it b).key, .int .u64 v, .int .u64 (S.it b).ch, .bool (S.it b).inn, .int .i64 ((S.it b).pins + 1)] 123 (0, 0)) := by
  have h1 := h.its b hb
  have e : ((S.unwait i b).pinned b).it b = { S.it b with pins := (S.it b).pins + 1 } := upd_same _ _ _
  rw [e] at h1
  unfold ItAt itCells at h1
  simp only [hv] at h1
  exact h1
theorem CAt.pin_at {w : World} {x : CL} {S : CS} (h : CAt B w x S) {b : Nat} (hb : b ∈ S.its) (hp : 0 ≤ (S.it b).pins ∧ (S.it b).pins ≤ S.last) (hps : ∀ p ∈ S.pins, p.1 ≤ S.last) (hl0 : 0 ≤ S.last) (hl : S.last < 1152921504606846976) (W : World) (hW : Below w.heap.size w W) :
    Calls Try.prog 62 #[.pointer (some ⟨x.g, 0, none⟩), .pointer (some ⟨b, 0, none⟩)] W fun e w' => e = .returned (.int .i64 (S.last + 1)) ∧ CAt B w' x (S.pinned b) ∧ Chg (fun k => k = x.g ∨ k = x.mp ∨ k ∈ S.its) w w' :=
  ((h.below hW).pin hb hp hps hl0 hl).mono fun _ _ ⟨h1, h2, h3⟩ => ⟨h1, h2, Chg.trans (F := fun _ => False) (Chg.of_below hW) h3 (fun _ _ h => h.elim) (fun _ _ h => h)⟩
theorem cget_c {w w1 w2 w3 : World} {x : CL} {S : CS} {i : Nat} (hi : i < x.n) (hb1 : Below w.heap.size w w1) (hc2 : Chg (fun k => (x.sh i).F k) w1 w2) (hc3 : Chg (fun k => k = x.g ∨ k = x.mp ∨ k ∈ S.its) w2 w3) : Chg (x.F S) w w3 :=
  ((Chg.of_below (F := x.F S) hb1).trans hc2 (H := x.F S) (fun _ _ h => h) (fun k _ hk => .inr (.inr (.inr (.inl ⟨i, hi, hk⟩))))).trans hc3 (fun _ _ h => h) (fun k _ hk => by
    rcases hk with e | e | e
    · exact .inl e
    · exact .inr (.inr (.inl e))
    · exact .inr (.inr (.inr (.inr e))))
set_option maxHeartbeats 1600000 in
theorem cget_any (x : CL) (S : CS) (key : ByteArray) (w : World) (h : CAt B w x S) (ok : COk x.n S) (hk : key.size ≤ maxLen) (hl : S.last < 1152921504606846976) (hv : ∀ b ∈ S.its, ∃ v, (S.it b).v = .int .u64 v) :
    Calls Try.prog 31 #[.pointer (some ⟨x.g, 0, none⟩), .string key] w (CGet B w x S key) := by
  refine calls_of fun R HR => ?_
  unfold CGet at HR
  have H := hid h
  have Ok := hid ok
  have Hof := hid (h.of key hk)
  have Hi := hid (sidx_lt h.n0 key)
  obtain ⟨i, hie⟩ : ∃ i, i = sidx x.n key := ⟨_, rfl⟩
  have Hie := hid hie
  rw [← hie] at Hof Hi
  have Hv := hid hv
  clear h ok hie hv
  go_enter Try.func31, Try.ntmps31
  go_wp2_with fail
  refine Hof.out.mono ?_
  rintro e w1 ⟨rfl, hb1⟩
  have C1 := hid (H.out.below hb1)
  have Hb1 := hid hb1
  have s1 := (C1.out.shs i Hi.out).blk
  have hmi := (C1.out.shs i Hi.out).inm
  clear hb1
  cases hlk : look (S.sh i).inm key with
  | none =>
    have hpg : (pget (inP (S.sh i).inm) key).getD (.pointer none) = .pointer none := by rw [pget_inP, hlk]; rfl
    have Hlk := hid hlk
    clear hlk
    go_wp2_with (at_lookup; refine wpList_mget skeys Try.underlying105 rfl (.tmp 16) (.tmp 17) rfl (zero120 _) rfl hmi key rfl ?_; rw [hpg])
    go_ret3
    refine HR.out _ _ ⟨Chg.of_below Hb1.out, ?_⟩
    rw [← Hie.out, Hlk.out]
    exact ⟨rfl, C1.out⟩
  | some b =>
    have hpg : (pget (inP (S.sh i).inm) key).getD (.pointer none) = .pointer (some ⟨b, 0, none⟩) := by rw [pget_inP, hlk]; rfl
    have hin := Ok.out.inm i Hi.out (key, b) (look_some hlk)
    have hbi : b ∈ S.its := Ok.out.al i Hi.out b hin.1
    have Hbi := hid hbi
    have Hlk := hid hlk
    have Hbu := hid (C1.out.busy Ok.out Hi.out hbi hl)
    obtain ⟨v, hv⟩ := Hv.out b hbi
    have Hvv := hid hv
    clear hlk hin hbi hv
    go_wp2_with (first
      | (go_at_call 64; refine Hbu.out.mono ?_; rintro e w2 ⟨rfl, c2, hc2⟩; have C2 : Hid (CAt B w2 x (S.unwait i b)) := hid c2; have e2 := c2.its b Hbi.out; have Hc2 := hid hc2; clear c2 hc2)
      | (at_lookup; refine wpList_mget skeys Try.underlying105 rfl (.tmp 16) (.tmp 17) rfl (zero120 _) rfl hmi key rfl ?_; rw [hpg]))
    have e2' : blkOf w2 b = some (.cells #[.string (S.it b).key, .int .u64 v, .int .u64 (S.it b).ch, .bool (S.it b).inn, .int .i64 (S.it b).pins] 123 (0, 0)) := by rw [← Hvv.out]; exact e2
    have Hp := hid (C2.out.pin_at (b := b) Hbi.out (Ok.out.pn b Hbi.out) (fun p hp => (Ok.out.pins p hp).1) Ok.out.last hl)
    clear e2 hpg hmi s1
    go_region_with ((go_at_call 62; refine (Hp.out _ ?_).mono ?_; (repeat (first | exact Below.refl _ _ | apply Below.drew | apply bl_drewN)); rintro e w3 ⟨rfl, c3, hc3⟩; have e3 : blkOf w3 b = some (.cells #[.string (S.it b).key, .int .u64 v, .int .u64 (S.it b).ch, .bool (S.it b).inn, .int .i64 ((S.it b).pins + 1)] 123 (0, 0)) := cget_it c3 Hbi.out Hvv.out; have C3 := hid c3; have Hc3 := hid hc3; clear c3 hc3))
    all_goals
      go_wp2
      go_ret3
      refine HR.out _ _ ⟨cget_c Hi.out Hb1.out Hc2.out Hc3.out, ?_⟩
      rw [← Hie.out, Hlk.out]
      exact ⟨by rw [Hvv.out]; rfl, C3.out⟩
end Go.Proofs.Ytbiaelaaihieeaa
