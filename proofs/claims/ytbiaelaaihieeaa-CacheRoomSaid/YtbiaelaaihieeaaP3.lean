/- CacheRoom: the walk. -/
import Derived.Test.YtbiaelaaihieeaaP2
import Derived.Test.YtbiaelaaihieeaaLv
set_option linter.unusedVariables false
set_option linter.unusedSimpArgs false
set_option maxRecDepth 100000
namespace Go.Proofs.Ytbiaelaaihieeaa
open Go.RowKit

section
variable {w wr : World} {g n : Nat} {sh room : Int} {st : Bool} {i : Nat} {x : CL} {S : CS} {ps qs : List Int} {A : Option Addr} {c : Nat} {q : Int}
theorem COk.free2 {B : Nat} (ok : COk n S) {k : Int} {b : Nat} (hk : (k, b) ∈ S.pins) (hn : (S.pins.map (·.1)).Nodup) (h1 : (S.it b).pins = 1) {T : Sh} {I : Nat → It} {more q : Int} (hi : sidx n (S.it b).key < n) (hm : Made more q (((S.unpinned k b).waits (sidx n (S.it b).key) b).sh (sidx n (S.it b).key)) (S.unpinned k b).it T I) :
    COk n ((S.unpinned k b).turn (sidx n (S.it b).key) T I) := by
  have ok1 := ok.unpinned hk hn
  have hba : b ∈ (S.sh (sidx n (S.it b).key)).al := ok.pinal _ hk
  have hbw : b ∉ (S.sh (sidx n (S.it b).key)).wt := fun hm => by have := ok.w0 _ hi b hm; omega
  have ok2 := ok1.waits hi hba (by show (upd S.it b _ b).pins = 0; rw [upd_same]; show (S.it b).pins - 1 = 0; omega) hbw
  have := ok2.madeAt hi hm
  unfold CS.waits at this
  rw [turn_turn] at this
  exact this
theorem RoomInv.free (inv : RoomInv w g n sh room st i x S ps (q :: qs) A c wr) (hi : (i : Int) < 4398046511104) (W : World) (hW : Below wr.heap.size wr W) :
    Calls Try.prog 27 #[.pointer (some ⟨g, 0, none⟩), .int .i64 q] W fun e w' => e = .returned (.int .i64 0) ∧ ∃ x' S', RoomInv w g n sh room st i x' S' ps qs A c w' := by
  have inv2 := inv.later hW
  obtain ⟨rfl, rfl⟩ : x.g = g ∧ x.n = n := ⟨inv.hg, inv.hn⟩
  obtain ⟨⟨q0, b⟩, rest, hp⟩ : ∃ p r, S.pins = p :: r := by
    cases hS : S.pins with
    | nil => have := inv.pins; rw [hS] at this; cases this
    | cons p r => exact ⟨p, r, rfl⟩
  have hqs := inv.pins
  rw [hp, List.map_cons] at hqs
  injection hqs with h1 h2
  have h1 : q0 = q := h1
  subst h1
  have hk : (q0, b) ∈ S.pins := by rw [hp]; exact List.mem_cons_self ..
  have hlk : lookP S.pins q0 = some b := by rw [hp]; simp [lookP]
  have hnd := inv.at_.pins_nodup
  have hdrop : (S.pins.filter (fun p => decide (p.1 ≠ q0))).map (·.1) = qs := by
    have hnd' := hnd
    rw [hp, List.map_cons, List.nodup_cons] at hnd'
    rw [hp, List.filter_cons, if_neg (by simp), ← h2]
    congr 1
    rw [List.filter_eq_self]
    intro p hpr
    simp only [decide_eq_true_eq]
    exact fun e => hnd'.1 (by rw [← e]; exact List.mem_map.2 ⟨p, hpr, rfl⟩)
  have hla := inv.last
  refine (cfree_any x S q0 b W inv2.at_ inv2.size inv.ok hlk (by omega)).mono ?_
  rintro e w' ⟨rfl, hc, x', S', hg, hn, _, hC, ho⟩
  refine ⟨rfl, x', S', ?_⟩
  have hsi := sidx_lt inv.at_.n0 (S.it b).key
  rcases ho with ⟨h1, rfl⟩ | ⟨h1, hin, T, I, hm, rfl⟩ | ⟨h1, hin, rfl⟩
  · exact inv2.next hc hg hn hC (inv.ok.unpinned hk hnd) (inv.ci.free1 inv.ok hk h1) rfl rfl hdrop inv.last
  · exact inv2.next hc hg hn hC (inv.ok.free2 (B := 0) hk hnd h1 hsi hm) (inv.ci.free2 inv.ok hk hsi rfl hm) rfl rfl hdrop inv.last
  · have ok1 := inv.ok.unpinned hk hnd
    have hkey : ((S.unpinned q0 b).it b).key = (S.it b).key := (unpinned_it S q0 b b).2.2
    have hp0 : ((S.unpinned q0 b).it b).pins = 0 := by have := (unpinned_it S q0 b b).2.1; rw [if_pos rfl] at this; omega
    exact inv2.next hc hg hn hC (ok1.gone hsi (by rw [hkey]) hp0) (inv.ci.free3 inv.ok hk hsi rfl) rfl rfl hdrop inv.last
end
def CS.start (room : Int) (st : Bool) : CS := ⟨room, st, 0, [], fun _ => Sh.nil, fun _ => ⟨⟨#[]⟩, .bool false, 0, false, 0⟩, []⟩
section
variable {w wr : World} {g n : Nat} {sh room : Int} {st : Bool} {i : Nat} {x : CL} {S : CS} {ps qs : List Int} {A : Option Addr} {c : Nat} {q : Int}
theorem RoomInv.charge (inv : RoomInv w g n sh room st i x S ps qs A c wr) (W : World) (hW : Below wr.heap.size wr W) :
    Calls Try.prog 26 #[.pointer (some ⟨g, 0, none⟩)] W fun e w' => e = .returned (.int .u64 (cap (S.charge n))) ∧ Below wr.heap.size wr w' := by
  obtain ⟨rfl, rfl⟩ : x.g = g ∧ x.n = n := ⟨inv.hg, inv.hn⟩
  exact (charge_any x S W (inv.at_.below hW) inv.ok).mono fun _ _ ⟨h1, h2⟩ => ⟨h1, bl_then hW h2⟩
theorem RoomInv.pinned (inv : RoomInv w g n sh room st i x S ps qs A c wr) (W : World) (hW : Below wr.heap.size wr W) :
    Calls Try.prog 28 #[.pointer (some ⟨g, 0, none⟩)] W fun e w' => e = .returned (.int .u64 (cap (S.pcharge n))) ∧ Below wr.heap.size wr w' := by
  obtain ⟨rfl, rfl⟩ : x.g = g ∧ x.n = n := ⟨inv.hg, inv.hn⟩
  exact (pinned_any x S W (inv.at_.below hW) inv.ok).mono fun _ _ ⟨h1, h2⟩ => ⟨h1, bl_then hW h2⟩
theorem RoomInv.charge_le (inv : RoomInv w g n sh room st i x S ps qs A c wr) (h : ∀ j, j < n → usedOf (S.sh j) S.it ≤ room / n) : cap (S.charge n) ≤ room := by
  have h0 : 0 < n := by have := inv.at_.n0; rw [inv.hn] at this; exact this
  have := charge_room inv.ok h0 (by rw [inv.hroom]; exact h) (C := S.charge n) rfl
  rw [inv.hroom] at this
  exact this
theorem RoomInv.all_free (inv : RoomInv w g n sh room st i x S ps [] A c wr) : cap (S.charge n) ≤ room ∧ S.pcharge n = 0 := by
  have hp : S.pins = [] := by simpa using inv.pins
  obtain ⟨h1, h2⟩ := inv.ci.free_all inv.ok hp
  refine ⟨inv.charge_le (by rw [← inv.hroom]; exact h1), ?_⟩
  have hz : ∀ m, m ≤ n → S.pcharge m = 0 := by
    intro m
    induction m with
    | zero => intro _; simp [CS.pcharge]
    | succ m ih =>
      intro hm
      rw [pcharge_succ, ih (by omega)]
      have : pchs S.it (S.sh m).al = 0 := by
        have hall := h2 m (by omega)
        generalize (S.sh m).al = l at hall
        induction l with
        | nil => rfl
        | cons b l ihl =>
          have h3 := hall b (List.mem_cons_self ..)
          have h4 := ihl (fun y hy => hall y (List.mem_cons_of_mem _ hy))
          simp only [pchs, List.map_cons, List.sum_cons] at *
          have : pch (S.it b) = 0 := by unfold pch; rw [h3]; rfl
          omega
      omega
  exact hz n (Nat.le_refl _)
theorem RoomInv.no_row (inv : RoomInv w g n sh room st i x S ps qs A c wr) : RoomInv w g n sh room st i x S [] qs none 0 wr :=
  ⟨inv.hg, inv.hn, inv.at_, inv.ok, inv.ci, inv.hroom, inv.hst, inv.pins, World.ownsRow_nil _ _ _ _, inv.last, inv.form, inv.below, inv.size⟩
/-- One number of a row. -/
theorem num_at {base : Nat} (h : wr.ownsRow base 3 1 (.slice A ps.length c) ps.length (nums ps)) {k : Nat} (hk : k < ps.length) : ∃ b, A = some ⟨b, 0, none⟩ ∧ b < wr.heap.size ∧ (blkOf wr b).bind (cellAt k) = some (.int .i64 ps[k]) := by
  obtain ⟨b, cap, hv, _, hlt⟩ := h.form (by omega)
  have hA : A = some ⟨b, 0, none⟩ := by injection hv
  subst hA
  exact ⟨b, rfl, hlt, cell_at ((h.cellAt k (by omega)).trans (by simp [nums, hk]))⟩
end
def FreeRel (w : World) (g n : Nat) (sh room : Int) (st : Bool) (i : Nat) (ps : List Int) (A : Option Addr) (c : Nat) (gk : Nat) (v11 : Value) (wr : World) : Prop :=
  ∃ (k : Nat) (x : CL) (S : CS), k ≤ ps.length ∧ gk = ps.length - k ∧ v11 = .int .i64 k ∧ RoomInv w g n sh room st i x S ps (ps.drop k) A c wr
theorem ok0c (n : Nat) (S : CS) (hr : 0 ≤ S.room ∧ S.room ≤ 18446744073709551615) (h1 : S.last = 0) (h2 : S.pins = []) (h3 : ∀ i, S.sh i = Sh.nil) (h4 : S.its = []) : COk n S := by
  refine ⟨hr, by omega, fun i _ => ?_, fun i _ b hb => ?_, fun i _ b hb => ?_, fun i _ p hp => ?_, fun p hp => ?_, fun b hb => ?_, fun i _ => ?_, ?_, fun b hb => ?_, fun b hb => ?_, fun p hp => ?_, fun i _ b hb => ?_⟩
  · rw [h3]; exact ⟨fun y hy => by simp [Sh.nil] at hy, fun y hy => by simp [Sh.nil] at hy⟩
  · rw [h3] at hb; simp [Sh.nil] at hb
  · rw [h3] at hb; simp [Sh.nil] at hb
  · rw [h3] at hp; simp [Sh.nil] at hp
  · rw [h2] at hp; simp at hp
  · rw [h4] at hb; simp at hb
  · rw [h3]; simp [Sh.nil]
  · rw [h4, h1]; simp
  · rw [h4] at hb; simp at hb
  · rw [h4] at hb; simp at hb
  · rw [h2] at hp; simp at hp
  · rw [h3] at hb; simp [Sh.nil] at hb
def RoomRel (w : World) (g n : Nat) (sh room : Int) (st : Bool) (N : Nat) (gk : Nat) (v7 v8 : Value) (wr : World) : Prop :=
  ∃ (i : Nat) (x : CL) (S : CS) (ps : List Int) (A : Option Addr) (c : Nat), i ≤ N ∧ gk = N - i ∧ v8 = .int .i64 i ∧ v7 = .slice A ps.length c ∧ ps.length ≤ i ∧ RoomInv w g n sh room st i x S ps ps A c wr
theorem RoomPut.below {w wx : World} {g n : Nat} {sh room : Int} {st : Bool} {i : Nat} {x : CL} {ps : List Int} {A : Option Addr} {c : Nat} {v9 v10 : Value} (h : RoomPut w g n sh room st i x ps A c v9 v10 wx) : Below w.heap.size w wx := by
  obtain ⟨S', z, a, _, _, _, ⟨_, h⟩ | ⟨_, h⟩⟩ := h
  · exact h.below
  · exact h.below
theorem room_append {w wr w5 : World} {g n : Nat} {sh room : Int} {st : Bool} {i : Nat} {x : CL} {S : CS} {ps qs : List Int} {A : Option Addr} {c : Nat} {y : Int} {A3 : Option Addr} {c3 : Nat} (inv : RoomInv w g n sh room st i x S ps qs A c wr)
    (hown : w5.ownsRow (w.heap.size + 1) 3 1 (.slice A3 (ps.length + 1) c3) (ps.length + 1) (nums ps ++ [.int .i64 y])) (hg : (wr.alloc (.cells #[.int .i64 y] 3)).grownBy w5 (Value.slice A ps.length c).ownBlock) : RoomInv w g n sh room st i x S (ps ++ [y]) qs A3 c3 w5 := by
  have h1 := inv.later (bl_alloc (Below.refl _ _) (.cells #[.int .i64 y] 3))
  refine h1.put_row hg ?_
  have e : (ps ++ [y]).length = ps.length + 1 := by simp
  rw [e]
  simpa [nums] using hown
set_option maxHeartbeats 3200000 in
theorem room_ok (n : Nat) (room : Int) (st : Bool) (A : Option Addr) (N c : Nat) (l : List CActD) (w : World) (h0 : 0 < n) (h1 : n ≤ 64) (hroom : 0 ≤ room ∧ room ≤ 18446744073709551615) (hr : Rd w w.heap.size 5 A N (cactsC l)) (hN : N ≤ 4398046511103)
    (hQ : ∀ a ∈ l, a.2.2.1.size ≤ maxLen ∧ (0 ≤ a.2.2.2.2 ∧ a.2.2.2.2 ≤ 18446744073709551615)) :
    Calls Try.prog 6 #[.agg #[.int .i64 n, .int .u64 room, .bool st], .slice A N c] w fun e w' => e = .returned (.bool true) ∧ Below w.heap.size w w' := by
  refine calls_of fun R HR => ?_
  have HQ := hid hQ; have Hr := hid hr; have HN := hid hN
  clear hQ hr
  go_enter Try.func6, Try.ntmps6
  go_wp2_with fail
  refine (cnew_any n room st _ h0 h1).mono ?_
  rintro e w1 ⟨x, rfl, hxn, c1, hb1⟩
  have C1 := hid c1
  have Hb1 := hid hb1
  have Hxn := hid hxn
  obtain ⟨g, hg⟩ : ∃ g, g = x.g := ⟨_, rfl⟩
  rw [← hg]
  have Hg := hid hg
  clear c1 hb1 hxn hg
  go_wp2
  go_loopg [7, 8, 9, 10, 11] N (fun gk v7 v8 v9 v10 v11 wr => RoomRel w g n n room st N gk v7 v8 wr)
  case atStart =>
    refine ⟨0, x, CS.start room st, [], some ⟨w1.heap.size, 0, none⟩, 0, Nat.zero_le _, rfl, rfl, rfl, Nat.le_refl _, ?_⟩
    have hsz : w.heap.size + 1 ≤ w1.heap.size := by have := Hb1.out.size; simpa using this
    have c1 : CAt (w.heap.size + 1) w1 x (CS.start room st) := by have := C1.out; rw [World.size_alloc] at this; exact this
    have hf : blkOf w1 w.heap.size = some (.cells #[.int .i64 n, .int .u64 room, .bool st] 54 (0, 0)) := (bl_at Hb1.out _ (by simp)).trans (blk_new w _)
    refine ⟨Hg.out.symm, Hxn.out, c1.below (bl_alloc (Below.refl _ _) _), ok0c n _ hroom rfl rfl (fun _ => rfl) rfl, fun j hj => ⟨fun b hb => by simp [CS.start, Sh.nil] at hb, .inl rfl, fun _ => ?_⟩, rfl, rfl, rfl, ?_, Int.le_refl _, (blk_past _ _ _ (by omega)).trans hf, ?_, by simp; omega⟩
    · show cap 0 ≤ room / (n : Int)
      have : (0 : Int) ≤ room / (n : Int) := Int.ediv_nonneg hroom.1 (by omega)
      simpa [cap] using this
    · exact World.ownsRow_made w1 #[] 0 (by omega) (by simp [maxLen]) (by simp)
    · exact bl_alloc (bl_then (bl_alloc (Below.refl _ _) _) Hb1.out) _
  case round =>
    obtain ⟨i, x, S, ps, A2, c2, hi, rfl, rfl, rfl, hpl, inv⟩ := hrel
    obtain ⟨wo, hwo⟩ : ∃ wo : World, wo = wr := ⟨_, rfl⟩
    subst hwo
    have Inv := hid inv
    clear inv C1 Hb1 Hxn Hg
    by_cases hlt : i < N
    · obtain ⟨ab, o, hl, rfl, lab, k0, k1, k2, k3, k4⟩ := cact_at Hr.out Inv.out.below hlt
      have hi0 : (0 : Int) ≤ (i : Int) := Int.natCast_nonneg _
      have hi1 : (i : Int) < (N : Int) := by omega
      have hq := HQ.out l[i] (List.getElem_mem hl)
      obtain ⟨a, ha⟩ : ∃ a, a = l[i] := ⟨_, rfl⟩
      rw [← ha] at k0 k1 k2 k3 k4 hq
      have Ha := hid ha
      clear ha
      by_cases hk1 : 1 < a.1
      · go_wp2
        go_roundg (N - (i + 1))
        case measure => omega
        case rel => exact ⟨i + 1, x, S, ps, A2, c2, by omega, rfl, by go_num, rfl, by omega, Inv.out.turn⟩
      · have Hput := hid (Inv.out.put a.2.2.1 a.2.2.2.1 a.2.2.2.2 hq.1 hq.2 (by have := HN.out; omega))
        go_upto_region 9 with fail
        go_cut [9, 10] (fun v9 v10 wx => RoomPut w g n n room st i x ps A2 c2 v9 v10 wx)
        case first =>
          go_region_held3 (fun w' => (blkOf w' ab).bind (cellAt (o + i * 5 + 2)) = some (.string a.2.2.1) ∧ (blkOf w' ab).bind (cellAt (o + i * 5 + 3)) = some (.int .u64 a.2.2.2.1) ∧ (blkOf w' ab).bind (cellAt (o + i * 5 + 4)) = some (.int .u64 a.2.2.2.2))
            (first | (simp [go_sem, *]; done))
            ((go_at_call 25; refine (Hput.out _ ?_).mono ?_; (repeat (first | exact Below.refl _ _ | apply Below.drew | apply bl_drewN)); rintro e w2 ⟨v9, v10, rfl, hp⟩; have Hp := hid hp; have hbw := RoomPut.below hp; have e2 : blkOf w2 ab = blkOf w ab := bl_at hbw ab lab; have e0 : blkOf wo ab = blkOf w ab := bl_at Inv.out.below ab lab; rw [← e0] at e2; clear hp hbw e0))
          go_wp2_with fail
          go_meet
          exact Hp.out
        case rest =>
          obtain ⟨S', z, y, rfl, rfl, hstr, hor⟩ := hcut
          have Hor := hid hor
          clear hor Hput k0 k1 k2 k3 k4 hstr hq
          go_upto_if 73 with fail
          go_cut [7] (fun v7 wx => ∃ (S2 : CS) (ps2 : List Int) (A3 : Option Addr) (c3 : Nat), v7 = .slice A3 ps2.length c3 ∧ ps2.length ≤ i + 1 ∧ RoomInv w g n n room st (i + 1) x S2 ps2 ps2 A3 c3 wx)
          case first =>
            rcases Hor.out with ⟨rfl, inv2⟩ | ⟨hz, inv2⟩
            · have Inv2 := hid inv2
              obtain ⟨i0, hi0', hz0, hz1, hz2⟩ := info_parts Try.info3c
              clear inv2
              go_wp2_with (at_builtin; refine wpList_append_rd _ rfl (.tmp 74) (.tmp 76) _ rfl (w.heap.size + 1) 3 i0 _ 1 8 Try.underlying35 hi0' hz0 hz1 hz2 rfl (by decide) (.slice A2 ps.length c2) ps.length (nums ps) rfl ?ho (wc.heap.size + 1) (some ⟨wc.heap.size, 0, none⟩) 1 1 [.int .i64 y] rfl ?hr ?h1 ?h63 ?hb ?hbase ?hk; case' hk => (intro v2 w5 hown5 hg5 hat5; obtain ⟨A3, c3, rfl, _⟩ := own_shape hown5; have Hz := hid (room_append Inv2.out hown5 hg5); clear hown5 hg5 hat5))
              case ho => exact Inv2.out.row.alloc _
              case hr => exact rd_new wc 3 1 1 [.int .i64 y] rfl
              case h1 => simp [Value.oneCell']
              case h63 => have := HN.out; simp only [maxLen]; omega
              case hb => have := HN.out; omega
              case hbase => have := Inv2.out.size; simp; omega
              go_meet
              exact ⟨S', ps ++ [y], A3, c3, by simp, by simp; omega, Hz.out⟩
            · have Inv2 := hid inv2
              clear inv2
              go_wp2_with fail
              go_meet
              exact ⟨S', ps, A2, c2, rfl, by omega, Inv2.out⟩
          case rest =>
            obtain ⟨S2, ps2, A3, c3, rfl, hpl2, inv2⟩ := hcut
            have Inv2 := hid inv2
            have hform := inv2.form
            have Hroom := hid hroom
            clear inv2 Hor hroom
            go_upto_region 12 with fail
            obtain ⟨wq, hwq⟩ : ∃ wq : World, wq = wc := ⟨_, rfl⟩
            subst hwq
            go_cut [86] (fun v86 wx => v86 = .bool false ∧ Below wq.heap.size wq wx)
            case first =>
              have Hch := hid Inv2.out.charge
              cases st with
              | true =>
                have hle : cap (S2.charge n) ≤ room := Inv2.out.charge_le (Inv2.out.strict rfl)
                obtain ⟨C, hC⟩ : ∃ C, C = cap (S2.charge n) := ⟨_, rfl⟩
                rw [← hC] at hle Hch
                have hle' : ¬ room < C := by omega
                have lf := Inv2.out.size
                clear hC hle
                go_region_with ((go_at_call 26; refine (Hch.out _ ?_).mono ?_; (repeat (first | exact Below.refl _ _ | apply Below.drew | apply bl_drewN)); rintro e w4 ⟨rfl, hb4⟩; have e4 := (bl_at hb4 _ lf).trans hform; have Hb4 := hid hb4; clear hb4))
                all_goals
                  go_wp2_with fail
                  go_meet
                  exact ⟨by simp [hle'], Hb4.out⟩
              | false =>
                go_quiet (fail)
                go_wp2_with fail
                go_meet
                exact ⟨rfl, bl_drewN (Below.refl _ _) _⟩
            case rest =>
              obtain ⟨rfl, hb3⟩ := hcut
              obtain ⟨wv, hwv⟩ : ∃ wv : World, wv = wc := ⟨_, rfl⟩
              subst hwv
              have Inv3 := hid (Inv2.out.later hb3)
              obtain ⟨_, _, _, e1, _, k0, _, _, _, _⟩ := cact_at Hr.out Inv3.out.below hlt
              injection e1 with e1
              injection e1 with e1 e2
              subst e1; subst e2
              rw [← Ha.out] at k0
              clear hb3 Inv2 hform
              by_cases hk2 : a.1 = 1
              · rw [hk2] at k0
                clear hk2
                go_wp2
                clear k0
                go_loopg [11] ps2.length (fun gk v11 wr' => FreeRel w g n n room st (i + 1) ps2 A3 c3 gk v11 wr')
                case atStart => exact ⟨0, x, S2, Nat.zero_le _, rfl, rfl, Inv3.out⟩
                case round =>
                  clear Inv3
                  obtain ⟨k, x4, S4, hk, rfl, rfl, inv4⟩ := hrel
                  obtain ⟨wk, hwk⟩ : ∃ wk : World, wk = wr := ⟨_, rfl⟩
                  subst hwk
                  have Inv4 := hid inv4
                  clear inv4
                  have hkk0 : (0 : Int) ≤ (k : Int) := Int.natCast_nonneg _
                  have hil : ps2.length ≤ 9223372036854775807 := by have := HN.out; omega
                  by_cases hlk : k < ps2.length
                  · have hkk1 : (k : Int) < (ps2.length : Int) := by omega
                    obtain ⟨bq, rfl, lbq, kq⟩ := num_at Inv4.out.row hlk
                    have hdr : ps2.drop k = ps2[k] :: ps2.drop (k + 1) := List.drop_eq_getElem_cons hlk
                    have i4 := Inv4.out
                    rw [hdr] at i4
                    obtain ⟨q, hq⟩ : ∃ q, q = ps2[k] := ⟨_, rfl⟩
                    rw [← hq] at kq i4
                    have Hf := hid (i4.free (by have := HN.out; omega) _ (Below.refl _ _))
                    clear hdr i4 hq
                    go_wp2_with (go_at_call 27; refine Hf.out.mono ?_; rintro e w5 ⟨rfl, x5, S5, h5⟩; have H5 := hid h5; clear h5)
                    go_roundg (ps2.length - (k + 1))
                    case measure => omega
                    case rel => exact ⟨k + 1, x5, S5, by omega, rfl, by go_num, H5.out⟩
                  · obtain rfl : k = ps2.length := by omega
                    have i4 := Inv4.out
                    rw [List.drop_length] at i4
                    obtain ⟨hle, hpz⟩ := i4.all_free
                    have hform := i4.form
                    have Hch := hid i4.charge
                    have Hpi := hid i4.pinned
                    rw [hpz] at Hpi
                    have I4 := hid i4
                    obtain ⟨C, hC⟩ : ∃ C, C = cap (S4.charge n) := ⟨_, rfl⟩
                    rw [← hC] at hle Hch
                    have hle' : ¬ room < C := by omega
                    have lf := i4.size
                    have hc0 : cap 0 = 0 := by simp [cap]
                    rw [hc0] at Hpi
                    clear hC hle hpz i4 hc0
                    go_wp2
                    go_region_with ((first
                      | (go_at_call 26; have q := Hb5.out; refine (Hch.out _ ?_).mono ?_; (repeat (first | exact q | apply Below.drew | apply bl_drewN)); rintro e w6 ⟨rfl, hb6⟩; have e6 := (bl_at hb6 _ lf).trans hform; have Hb6 := hid hb6; clear hb6 q)
                      | (go_at_call 28; refine (Hpi.out _ ?_).mono ?_; (repeat (first | exact Below.refl _ _ | apply Below.drew | apply bl_drewN)); rintro e w5 ⟨rfl, hb5⟩; have e5 := (bl_at hb5 _ lf).trans hform; have Hb5 := hid hb5; clear hb5)))
                    all_goals
                      go_wp2
                      go_roundg (N - (i + 1))
                      case measure => omega
                      case rel => exact ⟨i + 1, x4, S4, [], none, 0, by omega, rfl, by go_num, rfl, Nat.zero_le _, (I4.out.later Hb6.out).no_row⟩
              · have hk3 : (a.1 == 1) = false := by rw [beq_eq_false_iff_ne]; exact hk2
                clear hk2
                go_wp2
                go_roundg (N - (i + 1))
                case measure => omega
                case rel => exact ⟨i + 1, x, S2, ps2, A3, c3, by omega, rfl, by go_num, rfl, hpl2, Inv3.out⟩
    · obtain rfl : i = N := by omega
      have Hlv := hid (Str.clives_any wo)
      go_wp2_with (go_at_call 24; refine Hlv.out.mono ?_; rintro e w2 ⟨rfl, hb2⟩; have Hb2 := hid hb2; clear hb2)
      exact HR.out _ _ ⟨rfl, Inv.out.below.trans (Hb2.out.mono Inv.out.below.size)⟩
end Go.Proofs.Ytbiaelaaihieeaa
