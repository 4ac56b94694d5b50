/- StallTurn: the walk. -/
import Derived.Test.YtbiaelaaihieeaaX
import Derived.Test.YtbiaelaaihieeaaTu
set_option linter.unusedVariables false
set_option linter.unusedSimpArgs false
set_option maxRecDepth 100000
namespace Go.Proofs.Ytbiaelaaihieeaa
open Go.RowKit

structure AskInv (w : World) (g m : Nat) (r b : Int) (i : Nat) (L : Lim) (M : List (Int × Value)) (wr : World) : Prop where
  lim : PAt w.heap.size wr g L
  ok : L.Ok
  rate : L.rate = r
  burst : L.burst = b
  map : MapAt (fun k : Int => Value.int .i64 k) wr m M
  same : M.Perm (L.queue.map pairU)
  old : ∀ a ∈ L.queue, a.1 < i
  turn : TurnInv L (-1) (-1) 0
  row : L.row = 0
  below : Below w.heap.size w wr
theorem AskInv.turns {w wr w2 : World} {g m : Nat} {r b : Int} {i : Nat} {L : Lim} {M : List (Int × Value)} (inv : AskInv w g m r b i L M wr) (hp : PAt w.heap.size w2 g L) (hc : Chg (LimF w.heap.size wr) wr w2) :
    AskInv w g m r b (i + 1) L M w2 :=
  ⟨hp, inv.ok, inv.rate, inv.burst, inv.map.of_blk (hc.block m inv.map.lt (limF_map inv.map)), inv.same, fun a ha => by have := inv.old a ha; omega, inv.turn, inv.row,
    inv.below.trans (hc.to_below inv.below.size (fun k hk h => by have := h.1; omega))⟩
theorem AskInv.asks {w wr w2 w3 : World} {g m : Nat} {r b : Int} {i : Nat} {L : Lim} {M : List (Int × Value)} (inv : AskInv w g m r b i L M wr) {x : Int} {u : Bool} (hx : 0 ≤ x) (hf : L.fits x = true) (hm : w.heap.size ≤ m)
    (hp : PAt w.heap.size w2 g (L.asked i x u)) (hc : Chg (LimF w.heap.size wr) wr w2) (hm3 : MapAt (fun k : Int => Value.int .i64 k) w3 m (pput M i (.bool u))) (hc3 : Chg (fun k => k = m) w2 w3) :
    AskInv w g m r b (i + 1) (L.asked i x u) (pput M i (.bool u)) w3 ∧ (L.asked i x u).os.length = L.os.length + (if u = true then 0 else 1) := by
  have hmap2 := inv.map.of_blk (hc.block m inv.map.lt (limF_map inv.map))
  have hq := asked_queue (who := i) (u := u) hf
  have ok2 := inv.ok.asked i x u hx
  have hL : (L.asked i x u).rate = L.rate ∧ (L.asked i x u).burst = L.burst ∧ (L.asked i x u).left = L.left := by
    by_cases hu : u = true <;> simp [Lim.asked, hf, hu]
  obtain ⟨t1, t2, t3⟩ := inv.turn.asked inv.row (by omega) hf ok2 inv.old
  refine ⟨⟨hp.later hc3 (fun k hk e => by rw [e] at hk; exact limF_map hmap2 hk), ok2, hL.1.trans inv.rate, hL.2.1.trans inv.burst, hm3, ?_, ?_, t1, t2, ?_⟩, t3⟩
  · exact (pput_newU (u := u) inv.same (fun a ha e => by have := inv.old a ha; omega)).trans (hq.map _).symm
  · intro a ha
    have := hq.mem_iff.1 ha
    simp only [List.mem_append, List.mem_singleton] at this
    rcases this with h | rfl
    · have := inv.old a h; omega
    · simp only; omega
  · have h1 := inv.below.trans (hc.to_below inv.below.size (fun k hk h => by have := h.1; omega))
    exact h1.trans (hc3.to_below h1.size (fun k hk h => by omega))
def AskRel (w : World) (g m : Nat) (r b : Int) (n : Nat) (gk : Nat) (v10 v11 : Value) (wr : World) : Prop :=
  ∃ (i : Nat) (L : Lim) (M : List (Int × Value)), i ≤ n ∧ gk = n - i ∧ v11 = .int .i64 i ∧ v10 = .int .i64 L.os.length ∧ AskInv w g m r b i L M wr

structure GoInv (w : World) (g m : Nat) (r b : Int) (L : Lim) (M : List (Int × Value)) (lu lo row : Int) (j : Nat) (wr : World) : Prop where
  lim : PAt w.heap.size wr g L
  ok : L.Ok
  rate : L.rate = r
  burst : L.burst = b
  map : MapAt (fun k : Int => Value.int .i64 k) wr m M
  same : M.Perm (L.queue.map pairU)
  turn : TurnInv L lu lo row
  idle : (j : Int) * r ≤ L.left
  few : (j : Int) ≤ b / r
  below : Below w.heap.size w wr
def GoRel (w : World) (g m : Nat) (r b : Int) (q : Nat) (gk : Nat) (v10 v13 v14 v15 v16 : Value) (wr : World) : Prop :=
  ∃ (L : Lim) (M : List (Int × Value)) (lu lo row : Int) (j : Nat), gk = M.length * (q + 2) + (q + 1 - j) ∧ v10 = .int .i64 L.os.length ∧ v13 = .int .i64 lu ∧ v14 = .int .i64 lo ∧ v15 = .int .i64 row ∧ v16 = .int .i64 j ∧ GoInv w g m r b L M lu lo row j wr
def OneRel (m : Nat) (gs : List Ask) (L2 : Lim) (w2 : World) (gk : Nat) (v10 v13 v14 v15 v18 : Value) (wr : World) : Prop :=
  ∃ (k : Nat) (M : List (Int × Value)) (lu lo row : Int) (Lk : Lim), k ≤ gs.length ∧ gk = gs.length - k ∧ v18 = .int .i64 k ∧ v10 = .int .i64 Lk.os.length ∧ v13 = .int .i64 lu ∧ v14 = .int .i64 lo ∧ v15 = .int .i64 row ∧
    Run Lk (gs.drop k) L2 ∧ TurnInv Lk lu lo row ∧ MapAt (fun k : Int => Value.int .i64 k) wr m M ∧ M.Perm (Lk.queue.map pairU) ∧ Chg (fun j => j = m) w2 wr
theorem zero4 (w : World) : (zeroValue 4).run Try.prog w = .ok (.bool false) w := by kernel_rfl
set_option maxHeartbeats 1600000 in
theorem turn_ok (r b : Int) (A : Option Addr) (n c : Nat) (l : List ActD) (w : World) (h0 : 0 < r) (h1 : r ≤ b) (h2 : b < 65536) (hr : Rd w w.heap.size 4 A n (actsC l)) (hn : n ≤ maxLen) (hpos : ∀ a ∈ l, 0 ≤ a.2.2.1) :
    Calls Try.prog 4 #[.int .u16 r, .int .u16 b, .slice A n c] w fun e w' => e = .returned (.bool true) ∧ Below w.heap.size w w' := by
  refine calls_of fun R HR => ?_
  have Hpos := hid hpos; clear hpos
  have Hr := hid hr; clear hr
  have hmm := @run_makeMap Try.prog
  have hn2 := hn
  simp only [maxLen] at hn2
  go_enter Try.func4, Try.ntmps4
  go_wp2_with (first | (go_at_call 10; refine (lives_any _).mono ?_; rintro e w1 ⟨rfl, hb1⟩; have Hb1 := hid hb1; clear hb1) | (go_at_call 11; refine (new_ok r b _ h0 h1).mono ?_; rintro e w2 ⟨rfl, rfl⟩))
  have hs1 := Hb1.out.size
  go_loopg [10, 11] n (fun gk v10 v11 wr => AskRel w w1.heap.size (w1.heap.size + 1) r b n gk v10 v11 wr)
  case atStart =>
    refine ⟨0, Lim.new r b, [], Nat.zero_le _, rfl, rfl, rfl, ?_⟩
    have hp := new_at (B := w.heap.size) r b w1 hs1
    refine ⟨hp.below (bl_alloc (Below.refl _ _) _), new_okk r b h0 h1 (by omega), rfl, rfl, ?_, by simp [Lim.queue, Lim.new], by simp [Lim.queue, Lim.new], TurnInv.new r b, rfl, ?_⟩
    · have := MapAt.new (fun k : Int => Value.int .i64 k) (w1.alloc (.cells #[.int .u64 r, .int .u64 b, .int .u64 b, .slice none 0 0, .slice none 0 0, .int .i64 0] 84))
      simpa using this
    · exact bl_alloc (bl_alloc Hb1.out _) _
  case round =>
    obtain ⟨i, L, M, hi, rfl, rfl, rfl, inv⟩ := hrel
    obtain ⟨wo, hwo⟩ : ∃ wo : World, wo = wr := ⟨_, rfl⟩
    subst hwo
    have Inv := hid inv
    clear inv hmm
    by_cases hlt : i < n
    · obtain ⟨ab, o, hl, rfl, lab, k0, k2, k3⟩ := act_at Hr.out Inv.out.below hlt
      have hi0 : (0 : Int) ≤ (i : Int) := Int.natCast_nonneg _
      have hi1 : (i : Int) < (n : Int) := by omega
      have hxp := Hpos.out l[i] (List.getElem_mem hl)
      obtain ⟨⟨kd, whoA, by_, ug⟩, hx⟩ : ∃ x, x = l[i] := ⟨_, rfl⟩
      rw [← hx] at k0 k2 k3 hxp
      dsimp only at k0 k2 k3 hxp
      clear hx
      by_cases hk0 : kd = 0
      · subst hk0
        by_cases hf : L.fits by_ = true
        · have Hask := hid (ask_yes Inv.out.lim Inv.out.ok i by_ ug hf)
          have Hf := hid hf
          clear hf
          go_wp2
          go_region_held3 (fun w' => (blkOf w' ab).bind (cellAt (o + i * 4)) = some (.int .i64 0) ∧ (blkOf w' ab).bind (cellAt (o + i * 4 + 2)) = some (.int .u64 by_) ∧ (blkOf w' ab).bind (cellAt (o + i * 4 + 3)) = some (.bool ug))
            (first | (simp [go_sem, *]; done))
            ((go_at_call 12; refine (Hask.out _ ?_).mono ?_; exact ⟨rfl, rfl, rfl, rfl⟩; rintro e w2 ⟨rfl, hp2, hc2⟩; have e2 : blkOf w2 ab = blkOf wo ab := hc2.block ab (Nat.lt_of_lt_of_le lab Inv.out.below.size) (fun h => by have := h.1; omega); have Hp2 := hid hp2; have Hc2 := hid hc2; clear hp2 hc2))
          have hmap2 := Inv.out.map.of_blk (Hc2.out.block _ Inv.out.map.lt (limF_map Inv.out.map))
          have Hmap2 := hid hmap2
          clear hmap2
          have hmany := Inv.out.turn.many
          cases ug with
          | true =>
            go_wp2_with (at_mapUpdate; refine wpList_mput ikeys Try.underlying40 rfl (.tmp 72) (.tmp 73) (.tmp 78) rfl rfl Hmap2.out (i : Int) rfl (.bool true) rfl ?_; intro w3 hm3 hc3; have e3 : blkOf w3 ab = blkOf w2 ab := hc3.block ab (Nat.lt_of_lt_of_le (Nat.lt_of_lt_of_le lab Inv.out.below.size) Hc2.out.size) (by omega); have Hm3 := hid hm3; have Hc3 := hid hc3; clear hm3 hc3)
            go_roundg (n - (i + 1))
            case measure => omega
            case rel =>
              have hA := Inv.out.asks hxp Hf.out (by omega) Hp2.out Hc2.out Hm3.out Hc3.out
              exact ⟨i + 1, _, _, by omega, rfl, by go_num, by rw [hA.2]; simp, hA.1⟩
          | false =>
            go_wp2_with (at_mapUpdate; refine wpList_mput ikeys Try.underlying40 rfl (.tmp 72) (.tmp 73) (.tmp 78) rfl rfl Hmap2.out (i : Int) rfl (.bool false) rfl ?_; intro w3 hm3 hc3; have e3 : blkOf w3 ab = blkOf w2 ab := hc3.block ab (Nat.lt_of_lt_of_le (Nat.lt_of_lt_of_le lab Inv.out.below.size) Hc2.out.size) (by omega); have Hm3 := hid hm3; have Hc3 := hid hc3; clear hm3 hc3)
            go_roundg (n - (i + 1))
            case measure => omega
            case rel =>
              have hA := Inv.out.asks hxp Hf.out (by omega) Hp2.out Hc2.out Hm3.out Hc3.out
              exact ⟨i + 1, _, _, by omega, rfl, by go_num, by rw [hA.2]; simp only [Bool.false_eq_true, if_false]; go_num, hA.1⟩
        · have Hask := hid (ask_nay Inv.out.lim Inv.out.ok i by_ ug hf)
          clear hf
          go_wp2
          go_region_held3 (fun w' => (blkOf w' ab).bind (cellAt (o + i * 4)) = some (.int .i64 0) ∧ (blkOf w' ab).bind (cellAt (o + i * 4 + 2)) = some (.int .u64 by_) ∧ (blkOf w' ab).bind (cellAt (o + i * 4 + 3)) = some (.bool ug))
            (first | (simp [go_sem, *]; done))
            ((go_at_call 12; refine (Hask.out _ ?_).mono ?_; exact ⟨rfl, rfl, rfl, rfl⟩; rintro e w2 ⟨rfl, hp2, hc2⟩; have e2 : blkOf w2 ab = blkOf wo ab := hc2.block ab (Nat.lt_of_lt_of_le lab Inv.out.below.size) (fun h => by have := h.1; omega); have Hp2 := hid hp2; have Hc2 := hid hc2; clear hp2 hc2))
          go_wp2
          go_roundg (n - (i + 1))
          case measure => omega
          case rel => exact ⟨i + 1, L, M, by omega, rfl, by go_num, rfl, Inv.out.turns Hp2.out Hc2.out⟩
      · have hne0 : (kd == 0) = false := by simp; exact hk0
        go_wp2
        go_quiet (fail)
        go_wp2
        go_roundg (n - (i + 1))
        case measure => omega
        case rel =>
          have hc : Chg (LimF w.heap.size wo) wo (wo.drewN nq) := Chg.drewN (Chg.refl _ _) _
          exact ⟨i + 1, L, M, by omega, rfl, by go_num, rfl, Inv.out.turns (Inv.out.lim.eqv ⟨rfl, rfl, rfl, rfl⟩) hc⟩
    · obtain rfl : i = n := by omega
      have hq0 : 0 ≤ b / r := Int.ediv_nonneg (by omega) (by omega)
      have hq1 : b / r ≤ b := Int.ediv_le_self _ (by omega)
      obtain ⟨q, hq⟩ : ∃ q : Nat, (q : Int) = b / r := ⟨(b / r).toNat, Int.toNat_of_nonneg hq0⟩
      have hdv : Int.tdiv b r = (q : Int) := by rw [Int.tdiv_eq_ediv_of_nonneg (by omega), hq]
      have hrne : (r == 0) = false := by simp; omega
      have ok0 := Inv.out.ok
      go_wp2
      go_loopg [10, 13, 14, 15, 16] (M.length * (q + 2) + (q + 1)) (fun gk v10 v13 v14 v15 v16 wr => GoRel w w1.heap.size (w1.heap.size + 1) r b q gk v10 v13 v14 v15 v16 wr)
      case atStart =>
        exact ⟨L, M, -1, -1, 0, 0, rfl, rfl, rfl, rfl, rfl, rfl, Inv.out.lim, Inv.out.ok, Inv.out.rate, Inv.out.burst, Inv.out.map, Inv.out.same, Inv.out.turn, by have := ok0.left0; simpa using this, by simpa using hq0, Inv.out.below⟩
      case round =>
        clear Inv ok0
        obtain ⟨L, M, lu, lo, row, j, rfl, rfl, rfl, rfl, rfl, rfl, inv⟩ := hrel
        obtain ⟨wp, hwp⟩ : ∃ wp : World, wp = wr := ⟨_, rfl⟩
        subst hwp
        have Inv := hid inv
        clear inv
        have hml : M.length = L.queue.length := by have := Inv.out.same.length_eq; simpa using this
        have hmany := Inv.out.ok.many
        have hql : L.queue.length = L.us.length + L.os.length := by simp [Lim.queue]
        have hjq : j ≤ q := by have := Inv.out.few; omega
        by_cases hM : M.length = 0
        · have hMi : (M.length : Int) = 0 := by omega
          have hw0 : L.waiting.length = 0 := by rw [waiting_length Inv.out.ok]; omega
          have hw := fun W => waiting_at Inv.out.lim Inv.out.ok W
          simp only [hw0] at hw
          have Hw := hid hw
          clear hw
          go_wp2_with (first
            | (go_at_call 14; refine (Hw.out _ ?_).mono ?_; exact ⟨rfl, rfl, rfl, rfl⟩; rintro e w2 ⟨Aq, cq, rfl, hq2, hb2⟩; have Hb2 := hid hb2; clear hq2 hb2)
            | (at_len; refine wpList_mlen Try.underlying40 rfl (.tmp 93) rfl rfl Inv.out.map ?_; rw [hMi]))
          exact HR.out _ _ ⟨rfl, Inv.out.below.trans (Hb2.out.mono Inv.out.below.size)⟩
        · have Hst := hid (step_at Inv.out.lim Inv.out.ok)
          obtain ⟨gs, e1, e2⟩ := step_run L
          have hlen : L.step.1.length = gs.length := by rw [e1]; simp
          have hM1 : (0 : Int) < (M.length : Int) := by omega
          have hj0 : (0 : Int) ≤ (j : Int) := Int.natCast_nonneg _
          have hjb : (j : Int) ≤ b / r := Inv.out.few
          rcases Nat.eq_zero_or_pos gs.length with hg | hg
          · have hgs : gs = [] := List.length_eq_zero_iff.1 hg
            subst hgs
            obtain ⟨i1, i2, i3⟩ := step_idle Inv.out.ok (by omega) (by rw [e1]; rfl)
            obtain ⟨f1, f2⟩ := idle_few (b := b) h0 Inv.out.idle (by have := Inv.out.rate; have := Inv.out.burst; omega)
            simp only [hlen, List.length_nil] at Hst
            have Hi := hid i1; have Hf2 := hid f2; have Hi2 := hid i2
            clear i1 f2 i2 e1 e2
            go_wp2_with (first
              | (go_at_call 13; refine (Hst.out _ ?_).mono ?_; exact ⟨rfl, rfl, rfl, rfl⟩; rintro e w2 ⟨Aq, cq, rfl, hq, hp2, hc2, ok2⟩; have Hq := hid hq; have Hp2 := hid hp2; have Hc2 := hid hc2; have Ok2 := hid ok2; clear hq hp2 hc2 ok2)
              | (at_len; refine wpList_mlen Try.underlying40 rfl (.tmp 93) rfl rfl Inv.out.map ?_))
            go_loopg [10, 13, 14, 15, 18, 19, 20] 0 (fun gk v10 v13 v14 v15 v18 v19 v20 wr' => gk = 0 ∧ v10 = .int .i64 L.os.length ∧ v13 = .int .i64 lu ∧ v14 = .int .i64 lo ∧ v15 = .int .i64 row ∧ v18 = .int .i64 0 ∧ wr' = w2)
            case atStart => exact ⟨rfl, rfl, rfl, rfl, rfl, rfl, rfl⟩
            case round =>
              obtain ⟨rfl, rfl, rfl, rfl, rfl, rfl, rfl⟩ := hrel
              go_wp2
              go_roundg (M.length * (q + 2) + (q + 1 - (j + 1)))
              case measure => omega
              case rel =>
                have ho : L.step.2.os = L.os := by rw [Hi.out]; rfl
                have hqu : L.step.2.queue = L.queue := by rw [Hi.out]; rfl
                exact ⟨L.step.2, M, lu, lo, row, j + 1, rfl, by rw [ho], rfl, rfl, rfl, by go_num, Hp2.out, Ok2.out, by rw [Hi.out]; exact Inv.out.rate, by rw [Hi.out]; exact Inv.out.burst,
                  Inv.out.map.of_blk (Hc2.out.block _ Inv.out.map.lt (limF_map Inv.out.map)), by rw [hqu]; exact Inv.out.same, by rw [Hi.out]; exact Inv.out.turn.left _,
                  by rw [Hi.out, Hi2.out]; have := Inv.out.rate; have := Hf2.out; omega, by omega, Inv.out.below.trans (Hc2.out.to_below Inv.out.below.size (fun k hk h => by have := h.1; omega))⟩
          · have hg1 : (0 : Int) < (gs.length : Int) := by omega
            simp only [hlen] at Hst
            have Hrun := hid e2
            have hE := (step_spec Inv.out.ok)
            have hEr : L.step.2.rate = r ∧ L.step.2.burst = b := by
              obtain ⟨_, _, _, _, _, _, x1, x2, _⟩ := hE
              exact ⟨x1.trans Inv.out.rate, x2.trans Inv.out.burst⟩
            have E := hid hEr
            have hgl : gs.length ≤ 4096 := by
              have h1 := e2.perm.length_eq
              have h2 := Inv.out.ok.many
              simp only [Lim.queue, List.length_append, Lim.fill] at h1
              omega
            have hperm : L.queue.length = gs.length + L.step.2.queue.length := by
              have h1 := e2.perm.length_eq
              simp only [List.length_append] at h1
              simpa [Lim.fill, Lim.queue] using h1
            rw [e1] at Hst
            clear e1 e2 hE hEr hlen
            generalize L.step.2 = L2 at *
            go_wp2_with (first
              | (go_at_call 13; refine (Hst.out _ ?_).mono ?_; exact ⟨rfl, rfl, rfl, rfl⟩; rintro e w2 ⟨Aq, cq, rfl, hq, hp2, hc2, ok2⟩; have Hq := hid hq; have Hp2 := hid hp2; have Hc2 := hid hc2; have Ok2 := hid ok2; clear hq hp2 hc2 ok2)
              | (at_len; refine wpList_mlen Try.underlying40 rfl (.tmp 93) rfl rfl Inv.out.map ?_))
            have hmap2 := Inv.out.map.of_blk (Hc2.out.block _ Inv.out.map.lt (limF_map Inv.out.map))
            have Hmap2 := hid hmap2
            clear hmap2
            go_loopg [10, 13, 14, 15, 18, 19, 20] gs.length (fun gk v10 v13 v14 v15 v18 v19 v20 wr' => OneRel (w1.heap.size + 1) gs L2 w2 gk v10 v13 v14 v15 v18 wr')
            case atStart => exact ⟨0, M, lu, lo, row, L.fill, Nat.zero_le _, rfl, rfl, rfl, rfl, rfl, rfl, Hrun.out, Inv.out.turn.left _, Hmap2.out, Inv.out.same, Chg.refl _ _⟩
            case round =>
              obtain ⟨k, M', lu', lo', row', Lk, hk, rfl, rfl, rfl, rfl, rfl, rfl, hrun, ht, hm', hp', hc'⟩ := hrel
              by_cases hlk : k < gs.length
              · have hq' := own_chg Hq.out hc' (fun j hj e => own_ne_map Hmap2.out Hq.out (by rw [hj, e]))
                obtain ⟨bq, hlq, rfl, lbq, kq⟩ := own_at hq' hlk
                have hbne : bq ≠ w1.heap.size + 1 := fun e => own_ne_map hm' hq' (by rw [← e]; rfl)
                simp only [List.getElem_map] at kq
                have hdr : gs.drop k = gs[k] :: gs.drop (k + 1) := List.drop_eq_getElem_cons hlk
                rw [hdr] at hrun
                obtain ⟨⟨aw, ax, au⟩, hax⟩ : ∃ x, x = gs[k] := ⟨_, rfl⟩
                rw [← hax] at kq hrun
                dsimp only at kq
                clear hax hdr
                cases hrun with
                | cons hpk hr2 =>
                  rename_i L' x
                  have hperm1 := hp'.trans ((Lim.pick_perm hpk).map pairU)
                  rw [List.map_cons] at hperm1
                  have hget := pget_perm hperm1 hm'.nodup
                  have hdel := pdel_perm hperm1 hm'.nodup
                  have hrow0 := ht.row0
                  have hrow1 := ht.most
                  have hmn := ht.many
                  rcases ht.pick hpk with ⟨hu, g1, g2, g3, ht2⟩ | ⟨hu, g1, g3, ht2⟩
                  · obtain rfl : au = true := hu
                    have g1' : ¬ aw ≤ lu' := by simp only at g1; omega
                    have hnr : ¬ ((0 : Int) < (Lk.os.length : Int)) ∨ ((0 : Int) < (Lk.os.length : Int) ∧ ¬ (10 ≤ row')) := by omega
                    have Hget := hid hget; have Hdel := hid hdel; have Hm' := hid hm'; have Hc' := hid hc'; have Ht2 := hid ht2; have Hr2 := hid hr2; have Hg3 := hid g3
                    clear hget hdel hm' hc' hp' hperm1 hq' hlq ht2 ht hr2 hpk g2 g3 g1
                    rcases hnr with hos | ⟨hos, hrw⟩
                    · go_wp2_with (first
                        | (at_lookup; refine wpList_mlook_some ikeys Try.underlying40 rfl (.tmp 113) (.tmp 117) rfl (zero4 _) rfl Hm'.out aw rfl _ Hget.out ?_)
                        | (at_delete; refine wpList_mdel ikeys Try.underlying40 rfl (.tmp 123) (.tmp 127) rfl rfl Hm'.out aw rfl ?_; intro w4 hm4 hc4; have e4 : blkOf w4 bq = blkOf wr bq := hc4.block bq lbq hbne; have Hm4 := hid hm4; have Hc4 := hid hc4; clear hm4 hc4))
                      go_roundg (gs.length - (k + 1))
                      case measure => omega
                      case rel => exact ⟨k + 1, _, aw, lo', row' + 1, _, by omega, rfl, by go_num, by rw [← Hg3.out], rfl, rfl, by go_num, Hr2.out, Ht2.out.left _, Hm4.out, Hdel.out, Hc'.out.trans Hc4.out (fun _ _ h => h) (fun _ _ h => h)⟩
                    · go_wp2_with (first
                        | (at_lookup; refine wpList_mlook_some ikeys Try.underlying40 rfl (.tmp 113) (.tmp 117) rfl (zero4 _) rfl Hm'.out aw rfl _ Hget.out ?_)
                        | (at_delete; refine wpList_mdel ikeys Try.underlying40 rfl (.tmp 123) (.tmp 127) rfl rfl Hm'.out aw rfl ?_; intro w4 hm4 hc4; have e4 : blkOf w4 bq = blkOf wr bq := hc4.block bq lbq hbne; have Hm4 := hid hm4; have Hc4 := hid hc4; clear hm4 hc4))
                      go_roundg (gs.length - (k + 1))
                      case measure => omega
                      case rel => exact ⟨k + 1, _, aw, lo', row' + 1, _, by omega, rfl, by go_num, by rw [← Hg3.out], rfl, rfl, by go_num, Hr2.out, Ht2.out.left _, Hm4.out, Hdel.out, Hc'.out.trans Hc4.out (fun _ _ h => h) (fun _ _ h => h)⟩
                  · obtain rfl : au = false := hu
                    have g1' : ¬ aw ≤ lo' := by simp only at g1; omega
                    have g3' : (Lk.os.length : Int) = (L'.os.length : Int) + 1 := by omega
                    have Hget := hid hget; have Hdel := hid hdel; have Hm' := hid hm'; have Hc' := hid hc'; have Ht2 := hid ht2; have Hr2 := hid hr2; have Hg3 := hid g3'
                    clear hget hdel hm' hc' hp' hperm1 hq' hlq ht2 ht hr2 hpk g1 g3'
                    go_wp2_with (first
                      | (at_lookup; refine wpList_mlook_some ikeys Try.underlying40 rfl (.tmp 113) (.tmp 117) rfl (zero4 _) rfl Hm'.out aw rfl _ Hget.out ?_)
                      | (at_delete; refine wpList_mdel ikeys Try.underlying40 rfl (.tmp 123) (.tmp 127) rfl rfl Hm'.out aw rfl ?_; intro w4 hm4 hc4; have e4 : blkOf w4 bq = blkOf wr bq := hc4.block bq lbq hbne; have Hm4 := hid hm4; have Hc4 := hid hc4; clear hm4 hc4))
                    go_roundg (gs.length - (k + 1))
                    case measure => omega
                    case rel => exact ⟨k + 1, _, lu', aw, 0, _, by omega, rfl, by go_num, by rw [show (L'.os.length : Int) = (Lk.os.length : Int) - 1 by have := Hg3.out; omega], rfl, rfl, rfl, Hr2.out, Ht2.out.left _, Hm4.out, Hdel.out, Hc'.out.trans Hc4.out (fun _ _ h => h) (fun _ _ h => h)⟩
              · obtain rfl : k = gs.length := by omega
                rw [List.drop_length] at hrun
                have hend := hrun.end_
                subst hend
                have Hm' := hid hm'; have Hc' := hid hc'; have Hp' := hid hp'; have Ht := hid ht
                have hb2 := Inv.out.below.trans (Hc2.out.to_below Inv.out.below.size (fun k hk h => by have := h.1; omega))
                have hbl := hb2.trans (hc'.to_below hb2.size (fun k hk h => by omega))
                have hp2 := Hp2.out.later hc' (fun j hj e => by rw [e] at hj; exact limF_map Hmap2.out hj)
                have hlM : M'.length = L2.queue.length := by have := hp'.length_eq; simpa using this
                have Hb2 := hid hbl; have Hp3 := hid hp2
                clear hm' hc' hp' ht hb2 hbl hp2
                go_wp2
                go_roundg (M'.length * (q + 2) + (q + 1 - 0))
                case measure =>
                  have h1 : M'.length + 1 ≤ M.length := by omega
                  have h2 : (M'.length + 1) * (q + 2) ≤ M.length * (q + 2) := Nat.mul_le_mul_right _ h1
                  rw [Nat.add_mul, Nat.one_mul] at h2
                  omega
                case rel =>
                  exact ⟨L2, M', lu', lo', row', 0, rfl, rfl, rfl, rfl, rfl, rfl, Hp3.out, Ok2.out, E.out.1, E.out.2, Hm'.out, Hp'.out, Ht.out, by have := Ok2.out.left0; simpa using this, by simpa using hq0, Hb2.out⟩
end Go.Proofs.Ytbiaelaaihieeaa
