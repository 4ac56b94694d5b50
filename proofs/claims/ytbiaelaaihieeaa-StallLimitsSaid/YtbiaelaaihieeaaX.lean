/- StallRate: the walk. -/
import Derived.Test.YtbiaelaaihieeaaW1
import Derived.Test.YtbiaelaaihieeaaR
set_option linter.unusedVariables false
set_option linter.unusedSimpArgs false
set_option maxRecDepth 100000
namespace Go.Proofs.Ytbiaelaaihieeaa
open Go.RowKit

/-- What is asked of a limiter, or done with it. -/
abbrev ActD := Int × Int × Int × Bool
def actCells (a : ActD) : List Value := [.int .i64 a.1, .int .i64 a.2.1, .int .u64 a.2.2.1, .bool a.2.2.2]
def actsC (l : List ActD) : List Value := l.flatMap actCells
theorem actsC_length (l : List ActD) : (actsC l).length = l.length * 4 := by
  induction l with
  | nil => rfl
  | cons a l ih => simp only [actsC, List.flatMap_cons, List.length_append, List.length_cons] at *; rw [ih]; simp [actCells]; omega
theorem actsC_at (l : List ActD) (i : Nat) (h : i < l.length) (j : Nat) (hj : j < 4) : (actsC l)[i * 4 + j]? = (actCells l[i])[j]? := by
  induction l generalizing i with
  | nil => simp at h
  | cons a l ih =>
    simp only [actsC, List.flatMap_cons]
    cases i with
    | zero => rw [List.getElem?_append_left (by simp [actCells]; omega)]; simp
    | succ i =>
      rw [List.getElem?_append_right (by simp [actCells]; omega)]
      have := ih i (by simpa using h)
      simp only [actsC] at this
      rw [show (i + 1) * 4 + j - (actCells a).length = i * 4 + j by simp [actCells]; omega, this]
      rfl
/-- The cells of one act. -/
theorem act_at {w : World} {A : Option Addr} {n : Nat} {l : List ActD} (h : Rd w w.heap.size 4 A n (actsC l)) {w' : World} (hb : Below w.heap.size w w') {i : Nat} (hi : i < n) :
    ∃ b o, ∃ hl : i < l.length, A = some ⟨b, o, none⟩ ∧ b < w.heap.size ∧ (blkOf w' b).bind (cellAt (o + i * 4)) = some (.int .i64 l[i].1) ∧ (blkOf w' b).bind (cellAt (o + i * 4 + 2)) = some (.int .u64 l[i].2.2.1) ∧
      (blkOf w' b).bind (cellAt (o + i * 4 + 3)) = some (.bool l[i].2.2.2) := by
  have hl : i < l.length := by have := h.1; rw [actsC_length] at this; omega
  obtain ⟨b, o, rfl, hlt, hc⟩ := (h.below hb).2 (by omega)
  have h0 := hc (i * 4 + 0) _ ((actsC_at l i hl 0 (by omega)).trans rfl)
  have h2 := hc (i * 4 + 2) _ ((actsC_at l i hl 2 (by omega)).trans rfl)
  have h3 := hc (i * 4 + 3) _ ((actsC_at l i hl 3 (by omega)).trans rfl)
  exact ⟨b, o, hl, rfl, hlt, cell_at h0, cell_at h2, cell_at h3⟩

def u64s (l : List Int) : List Value := l.map fun x => .int .u64 x
theorem Try.info29 : (Try.prog.info? 29).map (fun i => (i.zero, i.size, i.bytes)) = some (some (.int .u64 0), 1, 8) := by kernel_rfl
theorem zero29 (w : World) : (zeroValue 29).run Try.prog w = .ok (.int .u64 0) w := by kernel_rfl
theorem ikeys : Keys Try.prog 3 (fun k : Int => Value.int .i64 k) := int_keys Try.underlying3

structure RateInv (w : World) (g m : Nat) (r b : Int) (i : Nat) (L : Lim) (M : List (Int × Value)) (ws : List Int) (wr : World) : Prop where
  lim : PAt w.heap.size wr g L
  ok : L.Ok
  rate : L.rate = r
  burst : L.burst = b
  map : MapAt (fun k : Int => Value.int .i64 k) wr m M
  same : M.Perm (L.queue.map pairB)
  old : ∀ a ∈ L.queue, a.1 < i
  few : ws.length ≤ i
  pos : ∀ x ∈ ws, 0 ≤ x
  bound : ∀ k, k < ws.length → sumFrom ws k + L.left ≤ b + (ws.length - k) * r
  below : Below w.heap.size w wr
theorem RateInv.turn {w wr w2 : World} {g m : Nat} {r b : Int} {i : Nat} {L : Lim} {M : List (Int × Value)} {ws : List Int} (inv : RateInv w g m r b i L M ws wr) (hp : PAt w.heap.size w2 g L) (hc : Chg (LimF w.heap.size wr) wr w2) :
    RateInv w g m r b (i + 1) L M ws w2 :=
  ⟨hp, inv.ok, inv.rate, inv.burst, inv.map.of_blk (hc.block m inv.map.lt (limF_map inv.map)), inv.same, fun a ha => by have := inv.old a ha; omega, by have := inv.few; omega, inv.pos, inv.bound,
    inv.below.trans (hc.to_below inv.below.size (fun k hk h => by have := h.1; omega))⟩
theorem RateInv.asks {w wr w2 w3 : World} {g m : Nat} {r b : Int} {i : Nat} {L : Lim} {M : List (Int × Value)} {ws : List Int} (inv : RateInv w g m r b i L M ws wr) {x : Int} {u : Bool} (hx : 0 ≤ x) (hf : L.fits x = true) (hm : w.heap.size ≤ m)
    (hp : PAt w.heap.size w2 g (L.asked i x u)) (hc : Chg (LimF w.heap.size wr) wr w2) (hm3 : MapAt (fun k : Int => Value.int .i64 k) w3 m (pput M i (.int .u64 x))) (hc3 : Chg (fun k => k = m) w2 w3) :
    RateInv w g m r b (i + 1) (L.asked i x u) (pput M i (.int .u64 x)) ws w3 := by
  have hmap2 := inv.map.of_blk (hc.block m inv.map.lt (limF_map inv.map))
  have hq := asked_queue (who := i) (u := u) hf
  have hL : (L.asked i x u).rate = L.rate ∧ (L.asked i x u).burst = L.burst ∧ (L.asked i x u).left = L.left := by
    by_cases hu : u = true <;> simp [Lim.asked, hf, hu]
  refine ⟨hp.later hc3 (fun k hk e => by rw [e] at hk; exact limF_map hmap2 hk), inv.ok.asked _ _ _ hx, hL.1.trans inv.rate, hL.2.1.trans inv.burst, hm3, ?_, ?_, by have := inv.few; omega, inv.pos, by rw [hL.2.2]; exact inv.bound, ?_⟩
  · exact (pput_new (u := u) inv.same (fun a ha e => by have := inv.old a ha; omega)).trans (hq.map _).symm
  · intro a ha
    have := hq.mem_iff.1 ha
    simp only [List.mem_append, List.mem_singleton] at this
    rcases this with h | rfl
    · have := inv.old a h; omega
    · simp only; omega
  · have h1 := inv.below.trans (hc.to_below inv.below.size (fun k hk h => by have := h.1; omega))
    exact h1.trans (hc3.to_below h1.size (fun k hk h => by omega))
def RateRel (w : World) (g m : Nat) (r b : Int) (n : Nat) (gk : Nat) (v10 v11 : Value) (wr : World) : Prop :=
  ∃ (i : Nat) (L : Lim) (M : List (Int × Value)) (ws : List Int) (A : Option Addr) (c : Nat), i ≤ n ∧ gk = n - i ∧ v11 = .int .i64 i ∧ v10 = .slice A ws.length c ∧ wr.ownsRow w.heap.size 29 1 (.slice A ws.length c) ws.length (u64s ws) ∧
    RateInv w g m r b i L M ws wr

theorem bound_next {ws : List Int} {s b r x y : Int} (hb : ∀ k, k < ws.length → sumFrom ws k + x ≤ b + (ws.length - k) * r) (h1 : s + y ≤ x + r) (h2 : s + y ≤ b) (hr : 0 < r) :
    ∀ k, k < (ws ++ [s]).length → sumFrom (ws ++ [s]) k + y ≤ b + ((ws ++ [s]).length - k) * r := by
  intro k hk
  simp only [List.length_append, List.length_cons, List.length_nil] at hk ⊢
  rw [sumFrom_append ws s k (by omega)]
  have hm : (((ws.length + (0 + 1) : Nat) : Int) - (k : Int)) * r = ((ws.length : Int) - k) * r + r := by
    rw [show ((ws.length + (0 + 1) : Nat) : Int) - (k : Int) = ((ws.length : Int) - k) + 1 by omega, Int.add_mul, Int.one_mul]
  rw [hm]
  by_cases hlt : k < ws.length
  · have := hb k hlt
    omega
  · obtain rfl : k = ws.length := by omega
    rw [sumFrom_end, Int.sub_self, Int.zero_mul]
    omega
theorem own_at29 {w : World} {base n c : Nat} {A : Option Addr} {l : List Int} (h : w.ownsRow base 29 1 (.slice A n c) n (u64s l)) {k : Nat} (hk : k < n) :
    ∃ b, ∃ hl : k < l.length, A = some ⟨b, 0, none⟩ ∧ b < w.heap.size ∧ (blkOf w b).bind (cellAt k) = some (.int .u64 l[k]) := by
  have hl : k < l.length := by have := h.1; simp [u64s] at this; omega
  obtain ⟨b, cap, hv, _, hlt⟩ := h.form (by omega)
  have hA : A = some ⟨b, 0, none⟩ := by injection hv
  subst hA
  exact ⟨b, hl, rfl, hlt, cell_at ((h.cellAt k (by omega)).trans (by simp [u64s, hl]))⟩
/-- What holds at the head of the loop over the sums. -/
def TotRel (ws : List Int) (w5 : World) (gk : Nat) (v17 v18 : Value) (wr : World) : Prop :=
  gk ≤ ws.length ∧ v18 = .int .i64 ((gk : Int) - 1) ∧ v17 = .int .u64 (sumFrom ws gk) ∧ wr = w5
/-- What holds at the head of the loop over those who go. -/
def GoneRel (m : Nat) (gs : List Ask) (L2 : Lim) (w2 : World) (gk : Nat) (v12 v14 : Value) (wr : World) : Prop :=
  ∃ (k : Nat) (M : List (Int × Value)), k ≤ gs.length ∧ gk = gs.length - k ∧ v14 = .int .i64 k ∧ v12 = .int .u64 (sumB (gs.take k)) ∧ MapAt (fun k : Int => Value.int .i64 k) wr m M ∧ M.Perm ((gs.drop k ++ L2.queue).map pairB) ∧ Chg (fun j => j = m) w2 wr
theorem own_at {w : World} {base n c : Nat} {A : Option Addr} {l : List Int} (h : w.ownsRow base 3 1 (.slice A n c) n (ints l)) {k : Nat} (hk : k < n) :
    ∃ b, ∃ hl : k < l.length, A = some ⟨b, 0, none⟩ ∧ b < w.heap.size ∧ (blkOf w b).bind (cellAt k) = some (.int .i64 l[k]) := by
  have hl : k < l.length := by have := h.1; rw [ints_length] at this; omega
  obtain ⟨b, cap, hv, _, hlt⟩ := h.form (by omega)
  have hA : A = some ⟨b, 0, none⟩ := by injection hv
  subst hA
  exact ⟨b, hl, rfl, hlt, cell_at ((h.cellAt k (by omega)).trans (by simp [ints, hl]))⟩
theorem MapAt.nodup {enc : Int → Value} {w : World} {b : Nat} {l : List (Int × Value)} (h : MapAt enc w b l) : (l.map (·.1)).Nodup := by
  obtain ⟨_, _, _, _, hn, _⟩ := h
  exact hn
theorem sumB_take {l : List Ask} {k : Nat} (h : k < l.length) : sumB (l.take (k + 1)) = sumB (l.take k) + (l[k]).2.1 := by
  rw [List.take_succ_eq_append_getElem h, sumB_append]
  simp [sumB]
theorem sumB_part {l : List Ask} (h : ∀ a ∈ l, 0 ≤ a.2.1) (k : Nat) : 0 ≤ sumB (l.take k) ∧ sumB (l.take k) ≤ sumB l := by
  have h1 := sumB_pos (l := l.take k) (fun a ha => h a (List.mem_of_mem_take ha))
  have h2 := sumB_pos (l := l.drop k) (fun a ha => h a (List.mem_of_mem_drop ha))
  have h3 := sumB_append (l.take k) (l.drop k)
  rw [List.take_append_drop] at h3
  omega
set_option maxHeartbeats 1600000 in
theorem rate_ok (r b : Int) (A : Option Addr) (n c : Nat) (l : List ActD) (w : World) (h0 : 0 < r) (h1 : r ≤ b) (h2 : b < 4294967296) (hr : Rd w w.heap.size 4 A n (actsC l)) (hn : n ≤ 1048576) (hpos : ∀ a ∈ l, 0 ≤ a.2.2.1) :
    Calls Try.prog 3 #[.int .u32 r, .int .u32 b, .slice A n c] w fun e w' => e = .returned (.bool true) ∧ Below w.heap.size w w' := by
  refine calls_of fun R HR => ?_
  have Hpos := hid hpos; clear hpos
  have Hr := hid hr; clear hr
  have hmm := @run_makeMap Try.prog
  go_enter Try.func3, Try.ntmps3
  go_wp2_with (first | (go_at_call 10; refine (lives_any _).mono ?_; rintro e w1 ⟨rfl, hb1⟩; have Hb1 := hid hb1; clear hb1) | (go_at_call 11; refine (new_ok r b _ h0 h1).mono ?_; rintro e w2 ⟨rfl, rfl⟩))
  have hs1 := Hb1.out.size
  go_loopg [10, 11] n (fun gk v10 v11 wr => RateRel w w1.heap.size (w1.heap.size + 1) r b n gk v10 v11 wr)
  case atStart =>
    refine ⟨0, Lim.new r b, [], [], none, 0, Nat.zero_le _, rfl, rfl, rfl, World.ownsRow_nil _ _ _ _, ?_⟩
    have hp := new_at (B := w.heap.size) r b w1 hs1
    refine ⟨hp.below (bl_alloc (Below.refl _ _) _), new_okk r b h0 h1 (by omega), rfl, rfl, ?_, by simp [Lim.queue, Lim.new], by simp [Lim.queue, Lim.new], by simp, by simp, by simp, ?_⟩
    · have := MapAt.new (fun k : Int => Value.int .i64 k) (w1.alloc (.cells #[.int .u64 r, .int .u64 b, .int .u64 b, .slice none 0 0, .slice none 0 0, .int .i64 0] 84))
      simpa using this
    · exact bl_alloc (bl_alloc Hb1.out _) _
  case round =>
    obtain ⟨i, L, M, ws, Aw, cw, hi, rfl, rfl, rfl, hown, inv⟩ := hrel
    obtain ⟨wo, hwo⟩ : ∃ wo : World, wo = wr := ⟨_, rfl⟩
    subst hwo
    have Hown := hid hown; have Inv := hid inv
    clear hown inv hmm
    by_cases hlt : i < n
    · obtain ⟨ab, o, hl, rfl, lab, k0, k2, k3⟩ := act_at Hr.out Inv.out.below hlt
      have hi0 : (0 : Int) ≤ (i : Int) := Int.natCast_nonneg _
      have hi1 : (i : Int) < (n : Int) := by omega
      have hxp := Hpos.out l[i] (List.getElem_mem hl)
      obtain ⟨⟨kd, whoA, by_, ug⟩, hx⟩ : ∃ x, x = l[i] := ⟨_, rfl⟩
      rw [← hx] at k0 k2 k3 hxp
      dsimp only at k0 k2 k3 hxp
      clear hx
      by_cases hk0 : kd = 0
      · subst hk0
        by_cases hf : L.fits by_ = true
        · have Hask := hid (ask_yes Inv.out.lim Inv.out.ok i by_ ug hf)
          have Hf := hid hf
          clear hf
          go_wp2
          go_region_held3 (fun w' => (blkOf w' ab).bind (cellAt (o + i * 4)) = some (.int .i64 0) ∧ (blkOf w' ab).bind (cellAt (o + i * 4 + 2)) = some (.int .u64 by_) ∧ (blkOf w' ab).bind (cellAt (o + i * 4 + 3)) = some (.bool ug))
            (first | (simp [go_sem, *]; done))
            ((go_at_call 12; refine (Hask.out _ ?_).mono ?_; exact ⟨rfl, rfl, rfl, rfl⟩; rintro e w2 ⟨rfl, hp2, hc2⟩; have e2 : blkOf w2 ab = blkOf wo ab := hc2.block ab (Nat.lt_of_lt_of_le lab Inv.out.below.size) (fun h => by have := h.1; omega); have Hp2 := hid hp2; have Hc2 := hid hc2; clear hp2 hc2))
          have hmap2 := Inv.out.map.of_blk (Hc2.out.block _ Inv.out.map.lt (limF_map Inv.out.map))
          have Hmap2 := hid hmap2
          clear hmap2
          go_wp2_with (at_mapUpdate; refine wpList_mput ikeys Try.underlying30 rfl (.tmp 70) (.tmp 71) (.tmp 76) rfl rfl Hmap2.out (i : Int) rfl (.int .u64 by_) rfl ?_; intro w3 hm3 hc3; have e3 : blkOf w3 ab = blkOf w2 ab := hc3.block ab (Nat.lt_of_lt_of_le (Nat.lt_of_lt_of_le lab Inv.out.below.size) Hc2.out.size) (by omega); have Hm3 := hid hm3; have Hc3 := hid hc3; clear hm3 hc3)
          go_roundg (n - (i + 1))
          case measure => omega
          case rel =>
            have h2 := own_chg Hown.out Hc2.out (fun k hk => limF_row Hown.out (by decide) (by decide) hk)
            exact ⟨i + 1, _, _, ws, Aw, cw, by omega, rfl, by go_num, rfl, own_chg h2 Hc3.out (fun k hk e => own_ne_map Hmap2.out h2 (by rw [hk, e])), Inv.out.asks hxp Hf.out (by omega) Hp2.out Hc2.out Hm3.out Hc3.out⟩
        · have Hask := hid (ask_nay Inv.out.lim Inv.out.ok i by_ ug hf)
          clear hf
          go_wp2
          go_region_held3 (fun w' => (blkOf w' ab).bind (cellAt (o + i * 4)) = some (.int .i64 0) ∧ (blkOf w' ab).bind (cellAt (o + i * 4 + 2)) = some (.int .u64 by_) ∧ (blkOf w' ab).bind (cellAt (o + i * 4 + 3)) = some (.bool ug))
            (first | (simp [go_sem, *]; done))
            ((go_at_call 12; refine (Hask.out _ ?_).mono ?_; exact ⟨rfl, rfl, rfl, rfl⟩; rintro e w2 ⟨rfl, hp2, hc2⟩; have e2 : blkOf w2 ab = blkOf wo ab := hc2.block ab (Nat.lt_of_lt_of_le lab Inv.out.below.size) (fun h => by have := h.1; omega); have Hp2 := hid hp2; have Hc2 := hid hc2; clear hp2 hc2))
          go_wp2
          go_roundg (n - (i + 1))
          case measure => omega
          case rel => exact ⟨i + 1, L, M, ws, Aw, cw, by omega, rfl, by go_num, rfl, own_chg Hown.out Hc2.out (fun k hk => limF_row Hown.out (by decide) (by decide) hk), Inv.out.turn Hp2.out Hc2.out⟩
      · have hne0 : (kd == 0) = false := by simp; exact hk0
        by_cases hk1 : kd = 1
        · subst hk1
          have Hst := hid (step_at Inv.out.lim Inv.out.ok)
          go_wp2
          go_quiet (fail)
          go_wp2_with (go_at_call 13; refine (Hst.out _ ?_).mono ?_; exact ⟨rfl, rfl, rfl, rfl⟩; rintro e w2 ⟨Aq, cq, rfl, hq, hp2, hc2, ok2⟩; have Hq := hid hq; have Hp2 := hid hp2; have Hc2 := hid hc2; have Ok2 := hid ok2; clear hq hp2 hc2 ok2)
          obtain ⟨gs, e1, e2, e3, e4, e5, e6, e7, e8⟩ := step_spec Inv.out.ok
          have hlen : L.step.1.length = gs.length := by rw [e1]; simp
          rw [e1, List.length_map] at Hq
          simp only [hlen]
          have E := hid (show _ ∧ _ ∧ _ ∧ _ ∧ _ from ⟨e2, e3, e4, e6, e7⟩)
          have Hgp := hid e8
          have hmap2 := Inv.out.map.of_blk (Hc2.out.block _ Inv.out.map.lt (limF_map Inv.out.map))
          have Hmap2 := hid hmap2
          have hrw := Hc2.out.size
          have hsm : sumB gs ≤ b := by have := e4; have := e5.left0; have := Inv.out.burst; omega
          have hgl : gs.length ≤ 4096 := by
            have h1 := e2.length_eq
            have h2 := Inv.out.ok.many
            simp only [Lim.queue, List.length_append] at h1
            omega
          clear e1 e2 e3 e4 e5 e6 e7 e8 hlen hmap2
          generalize L.step.2 = L2 at *
          go_loopg [12, 14, 15, 16] gs.length (fun gk v12 v14 v15 v16 wr' => GoneRel (w1.heap.size + 1) gs L2 w2 gk v12 v14 wr')
          case atStart => exact ⟨0, M, Nat.zero_le _, rfl, rfl, rfl, Hmap2.out, Inv.out.same.trans (E.out.1.map _), Chg.refl _ _⟩
          case round =>
            obtain ⟨k, M', hk, rfl, rfl, rfl, hm', hp', hc'⟩ := hrel
            by_cases hlk : k < gs.length
            · have hq' := own_chg Hq.out hc' (fun j hj e => own_ne_map Hmap2.out Hq.out (by rw [hj, e]))
              obtain ⟨bq, hlq, rfl, lbq, kq⟩ := own_at hq' hlk
              simp only [List.getElem_map] at kq
              have hdr : gs.drop k = gs[k] :: gs.drop (k + 1) := List.drop_eq_getElem_cons hlk
              have hp2' := hp'
              rw [hdr, List.cons_append, List.map_cons] at hp2'
              have hx1 := Hgp.out gs[k] (List.getElem_mem hlk)
              have hst := sumB_take hlk
              have hpt := sumB_part (l := gs) (fun a ha => (Hgp.out a ha).1) (k + 1)
              have hpt0 := sumB_part (l := gs) (fun a ha => (Hgp.out a ha).1) k
              obtain ⟨⟨aw, ax, au⟩, hax⟩ : ∃ x, x = gs[k] := ⟨_, rfl⟩
              rw [← hax] at kq hp2' hx1 hst
              dsimp only at kq hp2' hx1 hst
              have hget := pget_perm hp2' hm'.nodup
              have hdel := pdel_perm hp2' hm'.nodup
              have hbb := Inv.out.burst
              have hwr : IntKind.u64.wrap (sumB (gs.take k) + ax) = sumB (gs.take k) + ax := by rw [IntKind.wrap_u64]; omega
              obtain ⟨hx2, hx3⟩ := hx1
              have hx4 : ¬ b < ax := by omega
              have Hget := hid hget; have Hdel := hid hdel; have Hst := hid hst; have Hm' := hid hm'; have Hc' := hid hc'
              clear hget hdel hst hm' hc' hp' hp2' hdr hax hq' hlq hpt hpt0 hbb
              go_wp2_with (first
                | (at_lookup; refine wpList_mlook_some ikeys Try.underlying30 rfl (.tmp 92) (.tmp 96) rfl (zero29 _) rfl Hm'.out aw rfl _ Hget.out ?_)
                | (at_delete; refine wpList_mdel ikeys Try.underlying30 rfl (.tmp 108) (.tmp 112) rfl rfl Hm'.out aw rfl ?_; intro w4 hm4 hc4; have Hm4 := hid hm4; have Hc4 := hid hc4; clear hm4 hc4))
              go_roundg (gs.length - (k + 1))
              case measure => omega
              case rel => exact ⟨k + 1, _, by omega, rfl, by go_num, by rw [Hst.out], Hm4.out, Hdel.out, Hc'.out.trans Hc4.out (fun _ _ h => h) (fun _ _ h => h)⟩
            · obtain rfl : k = gs.length := by omega
              have hq0 : M'.Perm (L2.queue.map pairB) := by simpa using hp'
              rw [List.take_length]
              have Hm' := hid hm'; have Hc' := hid hc'; have Hq0 := hid hq0
              have hs3 := hc'.size
              have how := own_chg Hown.out Hc2.out (fun k hk => limF_row Hown.out (by decide) (by decide) hk)
              have how2 := own_chg how hc' (fun j hj e => own_ne_map Hmap2.out how (by rw [hj, e]))
              have How := hid how2
              clear hm' hc' hq0 hp' how how2 hk hlk
              have hfew := Inv.out.few
              have hsp := sumB_pos (l := gs) (fun a ha => (Hgp.out a ha).1)
              obtain ⟨s, hs⟩ : ∃ s, s = sumB gs := ⟨_, rfl⟩
              have Hs := hid hs
              rw [← hs] at hsp hsm ⊢
              clear hs
              obtain ⟨i29, hi0', hz0, hz1, hz2⟩ := info_parts Try.info29
              go_wp2_with (at_builtin; refine wpList_append_rd _ rfl (.tmp 116) (.tmp 118) _ rfl w.heap.size 29 i29 _ 1 8 Try.underlying31 hi0' hz0 hz1 hz2 rfl (by decide) (.slice Aw ws.length cw) ws.length (u64s ws) rfl ?ho (wr.heap.size + 1) (some ⟨wr.heap.size, 0, none⟩) 1 1 [.int .u64 s] rfl ?hr ?h1 ?h63 ?hb ?hbase ?hk; case' hk => (intro v2 w5 hown5 hg5 hat5; obtain ⟨A5, c5, rfl, _⟩ := own_shape hown5))
              case ho => exact How.out.alloc _
              case hr => exact rd_new wr 29 1 1 [.int .u64 s] rfl
              case h1 => simp [Value.oneCell']
              case h63 => simp only [maxLen]; omega
              case hb => omega
              case hbase => have := Inv.out.below.size; simp; omega
              have hg5m : MapAt (fun k : Int => Value.int .i64 k) w5 (w1.heap.size + 1) M' := (Hm'.out.of_blk (blk_past wr (.cells #[.int .u64 s] 29) _ Hm'.out.lt)).of_blk (gr_at hg5 (by have := Hm'.out.lt; simp; omega) (own_ne_map (Hm'.out) How.out))
              have hp5 : PAt w.heap.size w5 w1.heap.size L2 := by
                have q1 := Hp2.out.later Hc'.out (fun j hj e => by rw [e] at hj; exact limF_map Hmap2.out hj)
                have q2 := q1.below (bl_alloc (Below.refl _ _) (.cells #[.int .u64 s] 29))
                exact q2.later (Chg.grown (F := fun j => (Value.slice Aw ws.length cw).ownBlock = some j) (Chg.refl _ _) hg5 (fun j hj _ => hj)) (fun j hj e => limF_row (How.out.alloc _) (by decide) (by decide) e hj)
              have hb5 : Below w.heap.size w w5 := by
                have q1 := Inv.out.below.trans (Hc2.out.to_below Inv.out.below.size (fun j hj h => by have := h.1; omega))
                have q2 := q1.trans (Hc'.out.to_below q1.size (fun j hj h => by omega))
                exact bl_grown (bl_alloc q2 _) hg5 (fun j hj => (How.out.lt j hj).1)
              have Hm5 := hid hg5m; have Hp5 := hid hp5; have Hb5 := hid hb5; have Hown5 := hid hown5
              clear hg5m hp5 hb5
              have Hbn := hid (bound_next (s := s) (x := L.left) (y := L2.left) Inv.out.bound (by have := E.out.2.1; have := Hs.out; have := Inv.out.rate; omega) (by have := E.out.2.2.1; have := Hs.out; have := Inv.out.burst; omega) h0)
              have Hps := hid (show ∀ x ∈ ws ++ [s], 0 ≤ x from fun x hx => by
                rcases List.mem_append.1 hx with h | h
                · exact Inv.out.pos x h
                · have e1 := Hs.out; have e2 := sumB_pos (l := gs) (fun a ha => (Hgp.out a ha).1)
                  rw [List.mem_singleton] at h
                  omega)
              have Hown6 := hid (show w5.ownsRow w.heap.size 29 1 (.slice A5 (ws.length + 1) c5) (ws.length + 1) (u64s (ws ++ [s])) by simpa [u64s] using Hown5.out)
              have Ok3 := hid Ok2.out.left0
              clear hown5
              go_loopg [17, 18] (ws.length + 1) (fun gk v17 v18 wr => TotRel (ws ++ [s]) w5 gk v17 v18 wr)
              case atStart => exact ⟨by simp, by go_num, by rw [show ws.length + 1 = (ws ++ [s]).length by simp, sumFrom_end], rfl⟩
              case round =>
                obtain ⟨hgk, rfl, rfl, rfl⟩ := hrel
                simp only [List.length_append, List.length_cons, List.length_nil, Nat.zero_add] at hgk
                rcases Nat.eq_zero_or_pos gk with rfl | hgp
                · go_wp2
                  go_roundg (n - (i + 1))
                  case measure => omega
                  case rel =>
                    refine ⟨i + 1, L2, M', ws ++ [s], A5, c5, by omega, rfl, by go_num, by simp, by simpa using Hown6.out, ⟨Hp5.out, Ok2.out, E.out.2.2.2.1.trans Inv.out.rate, E.out.2.2.2.2.trans Inv.out.burst, Hm5.out, Hq0.out, ?_, by simp; omega, Hps.out, Hbn.out, Hb5.out⟩⟩
                    intro a ha
                    have h1 := Inv.out.old a (E.out.1.mem_iff.2 (List.mem_append_right _ ha))
                    omega
                · obtain ⟨k, rfl⟩ : ∃ k, gk = k + 1 := ⟨gk - 1, by omega⟩
                  obtain ⟨b5, hl5, rfl, lb5, k5⟩ := own_at29 Hown6.out (k := k) (by omega)
                  have hsf := sumFrom_step (ws ++ [s]) k hl5
                  obtain ⟨y, hy⟩ : ∃ y, y = (ws ++ [s])[k] := ⟨_, rfl⟩
                  rw [← hy] at k5 hsf
                  have hbk := Hbn.out k hl5
                  have hok := Ok3.out
                  have hp0 := sumFrom_pos (ws ++ [s]) Hps.out k
                  have hp1 := sumFrom_pos (ws ++ [s]) Hps.out (k + 1)
                  have hyp := Hps.out y (by rw [hy]; exact List.getElem_mem _)
                  simp only [List.length_append, List.length_cons, List.length_nil, Nat.zero_add] at hbk
                  clear hy
                  obtain ⟨p, hp⟩ : ∃ p, p = ((ws.length : Int) + 1 - (k : Int)) * r := ⟨_, rfl⟩
                  have hpb : 0 ≤ p ∧ p ≤ 1048577 * 4294967296 := by
                    rw [hp]
                    exact ⟨Int.mul_nonneg (by omega) (by omega), Int.mul_le_mul (by omega) (by omega) (by omega) (by omega)⟩
                  have hbk2 : sumFrom (ws ++ [s]) k + L2.left ≤ b + p := by rw [hp]; exact hbk
                  have hq1 : IntKind.u64.wrap (((ws.length : Int) + 1 - (k : Int)) * r) = p := by rw [← hp, IntKind.wrap_u64]; omega
                  have hq2 : IntKind.u64.wrap (b + p) = b + p := by rw [IntKind.wrap_u64]; omega
                  have hq3 : IntKind.u64.wrap (sumFrom (ws ++ [s]) (k + 1) + y) = sumFrom (ws ++ [s]) (k + 1) + y := by rw [IntKind.wrap_u64]; omega
                  have hcm : ¬ (b + p < sumFrom (ws ++ [s]) (k + 1) + y) := by omega
                  have Hsf := hid hsf
                  clear hsf hp hbk hbk2
                  go_wp2
                  go_roundg k
                  case measure => omega
                  case rel => exact ⟨by simp; omega, by go_num, by rw [Hsf.out, Int.add_comm], rfl⟩
        · have hne1 : (kd != 1) = true := by simp; exact hk1
          go_wp2
          go_quiet (fail)
          go_wp2
          go_roundg (n - (i + 1))
          case measure => omega
          case rel =>
            have hc : Chg (LimF w.heap.size wo) wo (wo.drewN nq) := Chg.drewN (Chg.refl _ _) _
            exact ⟨i + 1, L, M, ws, Aw, cw, by omega, rfl, by go_num, rfl, own_drewN Hown.out _, Inv.out.turn (Inv.out.lim.eqv ⟨rfl, rfl, rfl, rfl⟩) hc⟩
    · obtain rfl : i = n := by omega
      have Hw := hid (waiting_at Inv.out.lim Inv.out.ok)
      have hlen : (M.length : Int) = (L.waiting.length : Int) := by
        have h1 := Inv.out.same.length_eq
        have h2 := waiting_length Inv.out.ok
        simp only [List.length_map] at h1
        omega
      have Hlen := hid hlen
      clear hlen
      go_wp2_with (first
        | (go_at_call 14; refine (Hw.out _ ?_).mono ?_; exact ⟨rfl, rfl, rfl, rfl⟩; rintro e w2 ⟨Aq, cq, rfl, hq, hb2⟩; have Hm2 := hid (Inv.out.map.of_blk (bl_at hb2 _ Inv.out.map.lt)); have Hb2 := hid hb2; clear hq hb2)
        | (at_len; refine wpList_mlen Try.underlying30 rfl (.tmp 149) rfl rfl Hm2.out ?_; rw [Hlen.out]))
      exact HR.out _ _ ⟨rfl, Inv.out.below.trans (Hb2.out.mono Inv.out.below.size)⟩
end Go.Proofs.Ytbiaelaaihieeaa
