/- CacheActs, parts E12, E13, E14, E15, E16: what the document's cache does, in one memory with the program's. -/
import Derived.Test.YtbiaelaaihieeaaEB
import Derived.Test.YtbiaelaaihieeaaC14
import Derived.Test.YtbiaelaaihieeaaC15
import Derived.Laws.MakeOwn
import Derived.Test.YtbiaelaaihieeaaC16
set_option linter.unusedVariables false
set_option linter.unusedSimpArgs false
set_option maxRecDepth 100000
/- The document's cache: Drop, Room. -/
namespace Go.Proofs.Ytbiaelaaihieeaa
open Go.RowKit
section
variable {G : Nat → Prop} {B : Nat} {w w' : World} {n g : Nat} {y : DL} {S S' : CS} {ρ : Nat → Nat}
theorem more_drewN (G : Nat → Prop) (w : World) (m : Nat) : more G w (w.drewN m) = more G w w := rfl
theorem DTo.drewN (h : DAt G B w n y S ρ) (m : Nat) : DTo G B n y.g ρ w (w.drewN m) S := by
  obtain ⟨y', e, d, c⟩ := DTo.refl h
  exact ⟨y', e, d.below (bl_drewN (Below.refl _ _) m), c.drewN m⟩
/-- What is done behind some draws. -/
theorem DTo.behind (h : DAt G B w n y S ρ) {m g' : Nat} {ρ' : Nat → Nat} (k : DTo G B n g' ρ' (w.drewN m) w' S') : DTo G B n g' ρ' w w' S' :=
  DTo.trans (G1 := G) h.lt h.base (fun k hk => .inl hk) (Chg.drewN (Chg.refl _ _) m) k
def DDrop (G : Nat → Prop) (B n g : Nat) (ρ : Nat → Nat) (S : CS) (key : ByteArray) (w : World) (e : Ending) (w' : World) : Prop :=
  match look (S.sh (sidx n key)).inm key with
  | none => e = .returned (.bool false) ∧ DTo G B n g ρ w w' S
  | some b => e = .returned (.bool true) ∧ DTo G B n g ρ w w' (S.outAt (sidx n key) b)
theorem eql_nil {w : World} {x : Nat} : (binOp .eql 134 (.pointer (some ⟨x, 0, none⟩)) (.pointer none)).run Try.prog w = .ok (.bool false) w := by kernel_rfl
set_option maxHeartbeats 1600000 in
theorem ddrop_any (key : ByteArray) (h : DAt G B w n y S ρ) (ok : COk n S) (kk : KOk n S) (h0 : 0 < n) (h1 : n ≤ 64) (hk : key.size ≤ maxLen) (hl : S.last < 8796093022000) :
    Calls Try.prog 69 #[.pointer (some ⟨y.g, 0, none⟩), .string key] w (DDrop G B n y.g ρ S key w) := by
  refine calls_of fun R HR => ?_
  have hs := sidx_lt h0 key
  have Hf := hid (dfind_any key h (DOk.of ok kk.aln) h0 h1 hk hl)
  unfold DDrop at HR
  rw [fnd_look ok kk hs] at Hf
  cases hlk : look (S.sh (sidx n key)).inm key with
  | none =>
    rw [hlk] at Hf HR
    have H := hid h
    clear hlk h ok kk hs
    unfold ptrO at Hf
    go_enter Try.func69, Try.ntmps69
    go_wp2_with (go_at_call 87; refine Hf.out.mono ?_; rintro e w1 ⟨rfl, m, rfl⟩)
    exact HR.out _ _ ⟨rfl, DTo.drewN H.out m⟩
  | some b =>
    rw [hlk] at Hf HR
    have hin := ok.inm _ hs _ (look_some hlk)
    have hbi := ok.al _ hs _ hin.1
    have hb := h.blk
    have Hsh : Hid (∀ m, Calls Try.prog 37 #[.pointer (some ⟨y.g, 0, none⟩), .string key] (w.drewN m) fun e w' => e = .returned (.int .i64 (sidx n key : Int)) ∧ w' = w.drewN m) := hid (fun m => dshard_any y.g key n _ (w.drewN m) hb rfl h0 h1 hk)
    have Hout := hid (fun m => dout_any (sidx n key) b (h.below (bl_drewN (Below.refl _ _) m)) (DOk.of ok kk.aln) hs hbi hl)
    have H := hid h
    clear hlk h ok kk hin hbi hb
    unfold ptrO at Hf
    go_enter Try.func69, Try.ntmps69
    go_wp2_with (first
      | (go_at_call 88; refine (Hout.out m).mono ?_; rintro e w3 ⟨rfl, hto⟩; have Hto := hid hto; clear hto)
      | (go_at_call 37; refine (Hsh.out m).mono ?_; rintro e w2 ⟨rfl, rfl⟩)
      | (go_at_call 87; refine Hf.out.mono ?_; rintro e w1 ⟨rfl, m, rfl⟩))
    exact HR.out _ _ ⟨rfl, DTo.behind H.out Hto.out⟩
end
end Go.Proofs.Ytbiaelaaihieeaa
/- The document's cache: Room, Sums. -/
namespace Go.Proofs.Ytbiaelaaihieeaa
open Go.RowKit
theorem Roomed.chain {q : Int} {j : Nat} {S S' : CS} (h : Roomed q j S S') : ∃ f : Nat → CS, f 0 = S ∧ f j = S' ∧ (∀ k, k ≤ j → Roomed q k S (f k)) ∧ ∀ k, k < j → ∃ T I, Made 0 q ((f k).sh k) (f k).it T I ∧ f (k + 1) = (f k).turn k T I := by
  induction h with
  | zero S =>
    refine ⟨fun _ => S, rfl, rfl, fun k hk => ?_, fun k hk => absurd hk (Nat.not_lt_zero k)⟩
    obtain rfl : k = 0 := by omega
    exact .zero S
  | @succ j S S1 T I h hm ih =>
    obtain ⟨f, f0, fj, fr, fs⟩ := ih
    refine ⟨fun k => if k ≤ j then f k else S1.turn j T I, by simp [f0], if_neg (by omega), fun k hk => ?_, fun k hk => ?_⟩
    · show Roomed q k S (if k ≤ j then f k else _)
      split
      · rename_i h1; exact fr k h1
      · obtain rfl : k = j + 1 := by omega
        exact .succ h hm
    · show ∃ T' I', Made 0 q ((if k ≤ j then f k else _).sh k) (if k ≤ j then f k else _).it T' I' ∧ (if k + 1 ≤ j then f (k + 1) else _) = (if k ≤ j then f k else _).turn k T' I'
      rw [if_pos (show k ≤ j by omega)]
      by_cases hkj : k + 1 ≤ j
      · rw [if_pos hkj]; exact fs k (by omega)
      · rw [if_neg hkj]
        obtain rfl : k = j := by omega
        rw [fj]
        exact ⟨T, I, hm, rfl⟩
section
variable {G : Nat → Prop} {B : Nat} {w w' : World} {n g : Nat} {y : DL} {S S' : CS} {ρ : Nat → Nat}
theorem KOk.roomed {q : Int} {j : Nat} {S S' : CS} (h : Roomed q j S S') (hj : j ≤ n) (ok : COk n S) (k : KOk n S) : KOk n S' := by
  induction h with
  | zero => exact k
  | succ h hm ih => exact (ih (by omega) ok k).madeAt (h.ok (by omega) ok) (by omega) hm
theorem DAt.put_room (h : DAt G B w n y S ρ) {room : Int} (v : Value) (hv : v = .int .u64 room) : DAt G B (w.setCell ⟨y.g, 1, none⟩ v) n y { S with room := room } ρ := by
  subst hv
  have hc : Chg (fun k => k = y.g) w (w.setCell ⟨y.g, 1, none⟩ (.int .u64 room)) := chg_cell _ _ _ _
  have hng : ∀ {k : Nat} {t : TypeId} {cs : Array Value}, blkOf w k = some (.cells cs t (0, 0)) → t ≠ 129 → ¬ k = y.g := by
    rintro k t cs hk h1 rfl
    rw [h.blk] at hk; injection hk with hk; injection hk with _ e _; exact h1 e.symm
  have hro : ∀ {m c : Nat} {A : Option Addr} {xs : List Value}, w.ownsRow B 134 1 (.slice A m c) m xs → ∀ k, (Value.slice A m c).ownBlock = some k → ¬ k = y.g := fun ho k hk e => own_ne_blk ho (g := y.g) h.blk (by decide) (by rw [hk, e])
  exact ⟨Blk.set (t := 129) h.blk 1 (.int .u64 room), (hc.block _ (Blk.lt h.lrow) (hng h.lrow (by decide))).trans h.lrow, (hc.block _ (Blk.lt h.wrow) (hng h.wrow (by decide))).trans h.wrow, h.ne,
    fun i hi => own_chg (h.L i hi) hc (hro (h.L i hi)), fun i hi => own_chg (h.W i hi) hc (hro (h.W i hi)), fun b hb => (hc.block _ (Blk.lt (h.its b hb)) (hng (h.its b hb) (by decide))).trans (h.its b hb), h.inj,
    own_chg h.pin hc (hro h.pin), h.pl, h.gb, fun k hk => ⟨(h.lt k hk).1, Nat.lt_of_lt_of_le (h.lt k hk).2 hc.size⟩⟩
def DRoomRel (G : Nat → Prop) (B n g : Nat) (ρ : Nat → Nat) (w : World) (f : Nat → CS) (gk : Nat) (v4 : Value) (wr : World) : Prop :=
  ∃ j : Nat, j ≤ n ∧ gk = n - j ∧ v4 = .int .i64 j ∧ DTo G B n g ρ w wr (f j)
set_option maxHeartbeats 1600000 in
theorem droom_any (room : Int) (h : DAt G B w n y S ρ) (ok : COk n S) (kk : KOk n S) (h0 : 0 < n) (h1 : n ≤ 64) (hr : 0 ≤ room ∧ room ≤ 18446744073709551615) (hl : S.last < 8796093022000) (hro : Roomed (room / n) n { S with room := room } S') :
    Calls Try.prog 70 #[.pointer (some ⟨y.g, 0, none⟩), .int .u64 room] w fun e w' => e = .returned (.tuple #[]) ∧ DTo G B n y.g ρ w w' S' := by
  refine calls_of fun R HR => ?_
  have ok2 : COk n { S with room := room } := ⟨hr, ok.last, ok.ok, ok.al, ok.alk, ok.inm, ok.pins, ok.pn, ok.wtn, ok.itn, ok.cnt, ok.ksz, ok.pinal, ok.w0⟩
  obtain ⟨f, f0, fn, fr, fs⟩ := hro.chain
  have H := hid h; have Hl := hid hl; have Ok2 := hid ok2; have Kk := hid (kk.room room)
  have hb := h.blk
  have lg := Blk.lt hb
  have hc0 : Chg G w (w.setCell ⟨y.g, 1, none⟩ (.int .u64 room)) := (chg_cell w y.g 1 (.int .u64 room)).mono (fun k _ e => by rw [show k = y.g from e]; exact h.gb.1)
  have d0 := h.put_room (room := room) _ rfl
  have H0 : Hid (DRoomRel G B n y.g ρ w f n (.int .i64 0) (w.setCell ⟨y.g, 1, none⟩ (.int .u64 room))) := hid ⟨0, by omega, rfl, rfl, by
    rw [f0]
    exact DTo.trans (G1 := G) h.lt h.base (fun k hk => .inl hk) hc0 (DTo.refl d0)⟩
  have Fr := hid fr; have Fs := hid fs; have Fn := hid fn
  have hn1 : (n : Int) ≤ 64 := by omega
  clear hro h ok kk hl ok2 fr fs fn f0 hc0 d0
  go_enter Try.func70, Try.ntmps70
  go_wp2
  go_loopg [4] n (fun gk v4 wr => DRoomRel G B n y.g ρ w f gk v4 wr)
  case atStart => exact H0.out
  case round =>
    obtain ⟨j, hj, rfl, rfl, hto⟩ := hrel
    obtain ⟨wo, hwo⟩ : ∃ wo : World, wo = wr := ⟨_, rfl⟩
    subst hwo
    clear H0 hb
    obtain ⟨y', hyg, hd, hc⟩ := hto
    have hb := hd.blk
    have lg' := Blk.lt hb
    rw [hyg] at hb lg'
    by_cases hlt : j < n
    · obtain ⟨T, I, hmd, hfj⟩ := Fs.out j hlt
      have hok := (Fr.out j hj).ok (by omega) Ok2.out
      have hkk := KOk.roomed (Fr.out j hj) (by omega) Ok2.out Kk.out
      have hsame := (Fr.out j hj).same
      have hrm : (f j).room = room := hsame.1
      have hls : (f j).last = S.last := hsame.2.2.1
      have Hmk : Hid (Calls Try.prog 84 #[.pointer (some ⟨y.g, 0, none⟩), .int .i64 j, .int .u64 0] wo fun e w' => e = .returned (.tuple #[]) ∧ DTo (more G w wo) B n y.g ρ wo w' (f (j + 1))) := hid (by
        have := dmakes_any j 0 hd hok hkk.aln hlt h1 (by decide) (by rw [hls]; exact Hl.out) (by rw [hrm]; exact hmd)
        rw [hyg, ← hfj] at this
        exact this)
      have Hc := hid hc
      have hj0 : (0 : Int) ≤ (j : Int) := Int.natCast_nonneg _
      have hj1 : (j : Int) < (n : Int) := by omega
      clear hmd hfj hok hkk hsame hrm hls hd hc hyg
      go_wp2_with (go_at_call 84; refine Hmk.out.mono ?_; rintro e w5 ⟨rfl, hto⟩; have Hto := hid hto; clear hto)
      go_roundg (n - (j + 1))
      case measure => omega
      case rel => exact ⟨j + 1, by omega, rfl, by go_num, Hto.out.trans H.out.lt H.out.base (fun k hk => hk) Hc.out⟩
    · obtain rfl : j = n := by omega
      have Hd := hid (show DTo G B j y.g ρ w wo (f j) from ⟨y', hyg, hd, hc⟩)
      clear hd hc hyg
      go_wp2
      go_end0
      refine HR.out _ _ ⟨rfl, ?_⟩
      rw [← Fn.out]; exact Hd.out
end
end Go.Proofs.Ytbiaelaaihieeaa
/- The document's cache: Sums. -/
namespace Go.Proofs.Ytbiaelaaihieeaa
open Go.RowKit
theorem pchs_take (I : Nat → It) {l : List Nat} {j : Nat} (h : j < l.length) : pchs I (l.take (j + 1)) = pchs I (l.take j) + pch (I l[j]) := by
  unfold pchs
  rw [List.take_succ_eq_append_getElem h, List.map_append, List.sum_append]
  simp
def inns (I : Nat → It) (l : List Nat) : Nat := (l.filter fun b => (I b).inn).length
theorem inns_take (I : Nat → It) {l : List Nat} {j : Nat} (h : j < l.length) : inns I (l.take (j + 1)) = inns I (l.take j) + if (I l[j]).inn = true then 1 else 0 := by
  unfold inns
  rw [List.take_succ_eq_append_getElem h, List.filter_append, List.length_append]
  congr 1
  by_cases hb : (I l[j]).inn = true
  · simp [hb]
  · simp [hb]
theorem inns_le (I : Nat → It) (l : List Nat) : inns I l ≤ l.length := List.length_filter_le _ _
def CS.icount (S : CS) (j : Nat) : Nat := ((List.range j).map fun i => inns S.it (S.sh i).al).sum
theorem icount_succ (S : CS) (j : Nat) : S.icount (j + 1) = S.icount j + inns S.it (S.sh j).al := by
  unfold CS.icount; rw [List.range_succ, List.map_append, List.sum_append]; simp
section
variable {G : Nat → Prop} {B : Nat} {w w' : World} {n g : Nat} {y : DL} {S S' : CS} {ρ : Nat → Nat}
theorem icount_le (ok : DOk n S) (hl : S.last < 8796093022000) : ∀ {j : Nat}, j ≤ n → (S.icount j : Int) ≤ j * 8796093022000
  | 0, _ => by simp [CS.icount]
  | j + 1, h => by
    rw [icount_succ]
    have h1 := icount_le ok hl (j := j) (by omega)
    have h2 := inns_le S.it (S.sh j).al
    have h3 := ok.len (i := j) (by omega)
    have : ((j + 1 : Nat) : Int) * 8796093022000 = (j : Int) * 8796093022000 + 8796093022000 := by rw [Int.natCast_succ, Int.add_mul]; omega
    omega
theorem icount_count (ok : COk n S) (kk : KOk n S) : ∀ {j : Nat}, j ≤ n → (S.icount j : Int) = S.count j
  | 0, _ => by simp [CS.icount, CS.count]
  | j + 1, h => by
    rw [icount_succ, count_succ]
    have h1 := icount_count ok kk (j := j) (by omega)
    have h2 := inn_count ok kk (i := j) (by omega)
    have h3 : inns S.it (S.sh j).al = (S.sh j).inm.length := h2
    omega
def SumsRel (w : World) (S : CS) (n : Nat) (gk : Nat) (v5 v6 v7 v8 : Value) (wr : World) : Prop :=
  ∃ s : Nat, s ≤ n ∧ gk = n - s ∧ v5 = .int .u64 (cap (S.charge s)) ∧ v6 = .int .u64 (cap (S.pcharge s)) ∧ v7 = .int .i64 (S.icount s : Nat) ∧ v8 = .int .i64 s ∧ w = wr
def SumsIn (w : World) (S : CS) (al : List Nat) (c p : Int) (i : Nat) (gk : Nat) (v5 v6 v7 v9 : Value) (wr : World) : Prop :=
  ∃ j : Nat, j ≤ al.length ∧ gk = al.length - j ∧ v5 = .int .u64 (cap (c + chs S.it (al.take j))) ∧ v6 = .int .u64 (cap (p + pchs S.it (al.take j))) ∧ v7 = .int .i64 ((i + inns S.it (al.take j) : Nat) : Int) ∧ v9 = .int .i64 j ∧ w = wr
set_option maxHeartbeats 3200000 in
theorem dsums_any (h : DAt G B w n y S ρ) (ok : COk n S) (kk : KOk n S) (h1 : n ≤ 64) (hl : S.last < 8796093022000) :
    Calls Try.prog 71 #[.pointer (some ⟨y.g, 0, none⟩)] w fun e w' => e = .returned (.tuple #[.int .u64 (cap (S.charge n)), .int .u64 (cap (S.pcharge n)), .int .i64 (S.icount n : Nat)]) ∧ w' = w := by
  refine calls_of fun R HR => ?_
  have hb := h.blk
  have lg := Blk.lt hb
  have lr := Blk.lt h.lrow
  have H := hid h; have Ok := hid ok; have Dk := hid (DOk.of ok kk.aln); have Hl := hid hl
  have hn1 : (n : Int) ≤ 64 := by omega
  clear h ok kk hl
  go_enter Try.func71, Try.ntmps71
  go_wp2
  go_loopg [5, 6, 7, 8] n (fun gk v5 v6 v7 v8 wr => SumsRel w S n gk v5 v6 v7 v8 wr)
  case atStart => exact ⟨0, Nat.zero_le _, rfl, rfl, rfl, rfl, rfl, rfl⟩
  case round =>
    obtain ⟨s, hs, rfl, rfl, rfl, rfl, rfl, rfl⟩ := hrel
    by_cases hlt : s < n
    · have k0 := H.out.lcell hlt
      have hrow := H.out.L s hlt
      have hlen := Dk.out.len hlt
      have hai := Ok.out.al s hlt
      have hch := (Ok.out.ok s hlt).ch
      have hic := icount_le Dk.out Hl.out (j := s) (by omega)
      have hc0 := charge_nonneg Ok.out (j := s) (by omega)
      have hp0 := pcharge_nonneg Ok.out (j := s) (by omega)
      obtain ⟨al, hal⟩ : ∃ al, al = (S.sh s).al := ⟨_, rfl⟩
      have hcs : S.charge (s + 1) = S.charge s + chs S.it al := by rw [charge_succ, hal]
      have hps : S.pcharge (s + 1) = S.pcharge s + pchs S.it al := by rw [pcharge_succ, hal]
      have his : S.icount (s + 1) = S.icount s + inns S.it al := by rw [icount_succ, hal]
      rw [← hal] at k0 hrow hlen hai hch
      obtain ⟨c, hce⟩ : ∃ c, c = S.charge s := ⟨_, rfl⟩
      obtain ⟨p, hpe⟩ : ∃ p, p = S.pcharge s := ⟨_, rfl⟩
      obtain ⟨i, hie⟩ : ∃ i, i = S.icount s := ⟨_, rfl⟩
      rw [← hce] at hcs hc0 ⊢
      rw [← hpe] at hps hp0 ⊢
      rw [← hie] at his hic ⊢
      have hsn : ((s : Nat) : Int) * 8796093022000 ≤ 64 * 8796093022000 := by omega
      have hi63 : (i : Int) ≤ 64 * 8796093022000 := by omega
      have hlenN : al.length ≤ 8796093022000 := by have := Hl.out; omega
      have Hcs := hid hcs; have Hps := hid hps; have His := hid his; have Hrow := hid hrow; have Hai := hid hai; have Hch := hid hch; have Hc0 := hid hc0; have Hp0 := hid hp0
      have hs0 : (0 : Int) ≤ (s : Int) := Int.natCast_nonneg _
      have hs1 : (s : Int) < (n : Int) := by omega
      clear hcs hps his hrow hai hch hce hpe hie hal hlen hic hsn hc0 hp0
      go_wp2
      go_loopg [5, 6, 7, 9] al.length (fun gk v5 v6 v7 v9 wr => SumsIn w S al c p i gk v5 v6 v7 v9 wr)
      case atStart => exact ⟨0, Nat.zero_le _, rfl, by simp [chs], by simp [pchs], by simp [inns], rfl, rfl⟩
      case round =>
        obtain ⟨j, hj, rfl, rfl, rfl, rfl, rfl, rfl⟩ := hrel
        by_cases hjl : j < al.length
        · obtain ⟨a, hl2, ea, la, ka⟩ := own_ptr Hrow.out hjl
          rw [List.length_map] at hl2
          rw [List.getElem_map] at ka
          have hx : al[j] ∈ al := List.getElem_mem hl2
          have hit := H.out.its _ (Hai.out _ hx)
          have hcx := Hch.out _ hx
          have t1 := chs_take S.it hl2
          have t2 := pchs_take S.it hl2
          have t3 := inns_take S.it hl2
          have t4 := inns_le S.it (al.take j)
          have t5 : (al.take j).length ≤ j := by rw [List.length_take]; omega
          obtain ⟨x, hxe⟩ : ∃ x, x = al[j] := ⟨_, rfl⟩
          rw [← hxe] at ka hit hcx t1 t2 t3
          have hchT : ChOk S.it (al.take j) := fun b hb => Hch.out b (List.mem_of_mem_take hb)
          have n1 := chs_nonneg hchT
          have n2 := pchs_nonneg hchT
          obtain ⟨u1, hu1⟩ : ∃ u1, u1 = c + chs S.it (al.take j) := ⟨_, rfl⟩
          obtain ⟨u2, hu2⟩ : ∃ u2, u2 = p + pchs S.it (al.take j) := ⟨_, rfl⟩
          obtain ⟨u3, hu3⟩ : ∃ u3, u3 = i + inns S.it (al.take j) := ⟨_, rfl⟩
          rw [← hu1, ← hu2, ← hu3]
          have z1 : 0 ≤ u1 := by have := Hc0.out; omega
          have z2 : 0 ≤ u2 := by have := Hp0.out; omega
          have T1 : Hid (c + chs S.it (al.take (j + 1)) = u1 + (S.it x).ch) := hid (by rw [t1, hu1]; omega)
          have T2 : Hid (p + pchs S.it (al.take (j + 1)) = u2 + pch (S.it x)) := hid (by rw [t2, hu2]; omega)
          have T3 : Hid (i + inns S.it (al.take (j + 1)) = u3 + if (S.it x).inn = true then 1 else 0) := hid (by rw [t3, hu3]; omega)
          have hu3b : u3 ≤ 64 * 8796093022000 + 8796093022000 := by omega
          have hcp1 := cap_range z1
          have hcp2 := cap_range z2
          have Hpl1 := hid (dplus_any (cap u1) (S.it x).ch)
          have Hpl2 := hid (dplus_any (cap u2) (S.it x).ch)
          have Z1 := hid z1; have Z2 := hid z2
          have hj0 : (0 : Int) ≤ (j : Int) := Int.natCast_nonneg _
          have hj1 : (j : Int) < (al.length : Int) := by omega
          unfold DItAt itCells at hit
          have lit := Blk.lt hit
          rw [ea] at k0
          clear hx hxe t1 t2 t3 t4 t5 n1 n2 hu1 hu2 hu3 z1 z2 ea hchT
          by_cases hpp : 0 < (S.it x).pins
          · have Hpp : Hid (pch (S.it x) = (S.it x).ch) := hid (if_pos hpp)
            cases hin : (S.it x).inn with
            | true =>
              rw [hin] at hit
              have Hin := hid hin
              clear hin
              go_wp2_with (first
                | (go_at_call 85; have q := tok; refine (Hpl2.out _ hcp2 hcx).mono ?_; rintro e _ ⟨rfl, rfl⟩)
                | (go_at_call 85; refine (Hpl1.out _ hcp1 hcx).mono ?_; rintro e _ ⟨rfl, rfl⟩; have tok : True := trivial))
              go_roundg (al.length - (j + 1))
              case measure => omega
              case rel =>
                refine ⟨j + 1, by omega, rfl, ?_, ?_, ?_, by go_num, rfl⟩
                · rw [T1.out, cap_add Z1.out hcx.1]
                · rw [T2.out, Hpp.out]; rw [cap_add Z2.out hcx.1]
                · rw [T3.out, Hin.out]; go_num
            | false =>
              rw [hin] at hit
              have Hin := hid hin
              clear hin
              go_wp2_with (first
                | (go_at_call 85; have q := tok; refine (Hpl2.out _ hcp2 hcx).mono ?_; rintro e _ ⟨rfl, rfl⟩)
                | (go_at_call 85; refine (Hpl1.out _ hcp1 hcx).mono ?_; rintro e _ ⟨rfl, rfl⟩; have tok : True := trivial))
              go_roundg (al.length - (j + 1))
              case measure => omega
              case rel =>
                refine ⟨j + 1, by omega, rfl, ?_, ?_, ?_, by go_num, rfl⟩
                · rw [T1.out, cap_add Z1.out hcx.1]
                · rw [T2.out, Hpp.out]; rw [cap_add Z2.out hcx.1]
                · rw [T3.out, Hin.out]; rfl
          · have Hpp : Hid (pch (S.it x) = 0) := hid (if_neg hpp)
            cases hin : (S.it x).inn with
            | true =>
              rw [hin] at hit
              have Hin := hid hin
              clear hin
              go_wp2_with (go_at_call 85; refine (Hpl1.out _ hcp1 hcx).mono ?_; rintro e _ ⟨rfl, rfl⟩)
              go_roundg (al.length - (j + 1))
              case measure => omega
              case rel =>
                refine ⟨j + 1, by omega, rfl, ?_, ?_, ?_, by go_num, rfl⟩
                · rw [T1.out, cap_add Z1.out hcx.1]
                · rw [T2.out, Hpp.out]; rw [Int.add_zero]
                · rw [T3.out, Hin.out]; go_num
            | false =>
              rw [hin] at hit
              have Hin := hid hin
              clear hin
              go_wp2_with (go_at_call 85; refine (Hpl1.out _ hcp1 hcx).mono ?_; rintro e _ ⟨rfl, rfl⟩)
              go_roundg (al.length - (j + 1))
              case measure => omega
              case rel =>
                refine ⟨j + 1, by omega, rfl, ?_, ?_, ?_, by go_num, rfl⟩
                · rw [T1.out, cap_add Z1.out hcx.1]
                · rw [T2.out, Hpp.out]; rw [Int.add_zero]
                · rw [T3.out, Hin.out]; rfl
        · obtain rfl : j = al.length := by omega
          go_wp2
          go_roundg (n - (s + 1))
          case measure => omega
          case rel => exact ⟨s + 1, by omega, rfl, by rw [Hcs.out, List.take_of_length_le (Nat.le_refl _)], by rw [Hps.out, List.take_of_length_le (Nat.le_refl _)], by rw [His.out, List.take_of_length_le (Nat.le_refl _)], by go_num, rfl⟩
    · obtain rfl : s = n := by omega
      go_wp2
      go_ret3
      exact HR.out _ _ ⟨rfl, rfl⟩
end
end Go.Proofs.Ytbiaelaaihieeaa
/- The document's cache: New. -/
namespace Go.Proofs.Ytbiaelaaihieeaa
open Go.RowKit
theorem dnew_no (n : Int) (room : Int) (st : Bool) (w : World) (h : n < 1 ∨ 64 < n) :
    Calls Try.prog 35 #[.int .i64 n, .int .u64 room, .bool st] w fun e w' => e = .returned (.tuple #[.pointer none, .int .i64 1]) ∧ w' = w := by
  refine calls_of fun R HR => ?_
  rcases h with h | h
  · go_enter Try.func35, Try.ntmps35
    go_wp2
    exact HR.out _ _ ⟨rfl, rfl⟩
  · have h' : ¬ n < 1 := by omega
    go_enter Try.func35, Try.ntmps35
    go_wp2
    exact HR.out _ _ ⟨rfl, rfl⟩
theorem Try.info127 : (Try.prog.info? 127).map (fun i => (i.zero, i.size, i.bytes)) = some (some (.slice none 0 0), 1, 24) := by kernel_rfl
theorem made_nils (n : Nat) : madeCells #[Value.slice none 0 0] n = ((List.range n).map fun _ => Value.slice none 0 0).toArray := by
  apply Array.ext
  · rw [size_madeCells]; simp
  · intro i h1 h2
    simp [madeCells, Nat.mod_one]
def CS.new (room : Int) (st : Bool) : CS := ⟨room, st, 0, [], fun _ => Sh.nil, fun _ => ⟨⟨#[]⟩, .bool false, 0, false, 0⟩, []⟩
theorem dnew_at {w W : World} {g lr wr n : Nat} {room : Int} {st : Bool} (hb : Below w.heap.size w W) (h1 : w.heap.size ≤ g) (h2 : w.heap.size ≤ lr) (h3 : w.heap.size ≤ wr) (hne : lr ≠ wr)
    (hg : blkOf W g = some (.cells #[.int .i64 n, .int .u64 room, .bool st, .slice (some ⟨lr, 0, none⟩) n n, .slice (some ⟨wr, 0, none⟩) n n, .slice none 0 0] 129 (0, 0)))
    (hl : blkOf W lr = some (.cells (madeCells #[Value.slice none 0 0] n) 127 (0, 0))) (hw : blkOf W wr = some (.cells (madeCells #[Value.slice none 0 0] n) 127 (0, 0))) :
    ∃ (y : DL) (G : Nat → Prop), y.g = g ∧ ∀ ρ, DAt G w.heap.size W n y (CS.new room st) ρ := by
  have hnil : W.ownsRow w.heap.size 134 1 (.slice none 0 0) 0 (ptrs []) := ⟨rfl, .inl ⟨rfl, rfl⟩⟩
  refine ⟨⟨g, lr, wr, fun _ => none, fun _ => 0, fun _ => none, fun _ => 0, none, 0⟩, fun k => k = g ∨ k = lr ∨ k = wr, rfl, fun ρ => ?_⟩
  refine ⟨hg, ?_, ?_, hne, fun i _ => hnil, fun i _ => hnil, fun b hb => (by cases hb), fun b hb => (by cases hb), hnil, fun i _ k hk => (by cases hk), ⟨.inl rfl, .inr (.inl rfl), .inr (.inr rfl), fun b hb => (by cases hb), fun i _ k hk => (by rcases hk with hk | hk <;> cases hk), fun k hk => (by cases hk)⟩, fun k hk => ?_⟩
  · rw [hl, made_nils]; rfl
  · rw [hw, made_nils]; rfl
  · rcases hk with rfl | rfl | rfl
    · exact ⟨h1, Blk.lt hg⟩
    · exact ⟨h2, Blk.lt hl⟩
    · exact ⟨h3, Blk.lt hw⟩
set_option maxHeartbeats 1600000 in
theorem dnew_any (n : Nat) (room : Int) (st : Bool) (w : World) (h0 : 0 < n) (h1 : n ≤ 64) :
    Calls Try.prog 35 #[.int .i64 n, .int .u64 room, .bool st] w fun e w' => ∃ (y : DL) (G : Nat → Prop), e = .returned (.tuple #[.pointer (some ⟨y.g, 0, none⟩), .int .i64 0]) ∧ (∀ ρ, DAt G w.heap.size w' n y (CS.new room st) ρ) ∧ Below w.heap.size w w' := by
  refine calls_of fun R HR => ?_
  have hn1 : ¬ (n : Int) < 1 := by omega
  have hn2 : ¬ (64 : Int) < (n : Int) := by omega
  have hn3 : (0 : Int) ≤ (n : Int) := by omega
  have hn4 : (n : Int) ≤ 64 := by omega
  obtain ⟨i, hi, hz0, hz1, hz2⟩ := info_parts Try.info127
  obtain ⟨cs, hcs⟩ : ∃ cs, cs = madeCells #[Value.slice none 0 0] n := ⟨_, rfl⟩
  have hmk : ∀ W, (Instr.makeSlice 126 (.int .i64 n) (.int .i64 n)).run Try.prog W = .ok (.slice (some ⟨W.heap.size, 0, none⟩) n n) (W.alloc (.cells cs 127)) := fun W => by
    have := run_make (P := Try.prog) W 126 127 i (.slice none 0 0) Try.underlying126 hi hz0 .i64 .i64 n n hn3 (Int.le_refl _) (by rw [hz2]; omega) (by omega)
    rw [hz1, Nat.mul_one, Int.toNat_natCast] at this
    rw [hcs]; exact this
  have Hcs := hid hcs
  clear hcs
  go_enter Try.func35, Try.ntmps35
  go_wp2
  go_region
  all_goals
    go_wp2
  · obtain ⟨y, G, hyg, hd⟩ := dnew_at (w := w) (W := (((w.alloc (.cells cs 127)).alloc (.cells cs 127)).alloc (.cells #[.int .i64 n, .int .u64 room, .bool st, .slice (some ⟨w.heap.size, 0, none⟩) n n, .slice (some ⟨w.heap.size + 1, 0, none⟩) n n, .slice none 0 0] 129)).drew) (g := w.heap.size + 1 + 1) (lr := w.heap.size) (wr := w.heap.size + 1) (n := n) (room := room) (st := st)
      (Below.drew (bl_alloc (bl_alloc (bl_alloc (Below.refl _ _) _) _) _)) (by omega) (by omega) (by omega) (by omega) (by go_simp) (by rw [← Hcs.out]; go_simp) (by rw [← Hcs.out]; go_simp)
    refine HR.out _ _ ⟨y, G, ?_, hd, Below.drew (bl_alloc (bl_alloc (bl_alloc (Below.refl _ _) _) _) _)⟩
    rw [hyg]; rfl
  · obtain ⟨y, G, hyg, hd⟩ := dnew_at (w := w) (W := (((w.alloc (.cells cs 127)).alloc (.cells cs 127)).alloc (.cells #[.int .i64 n, .int .u64 room, .bool st, .slice (some ⟨w.heap.size + 1, 0, none⟩) n n, .slice (some ⟨w.heap.size, 0, none⟩) n n, .slice none 0 0] 129)).drew) (g := w.heap.size + 1 + 1) (lr := w.heap.size + 1) (wr := w.heap.size) (n := n) (room := room) (st := st)
      (Below.drew (bl_alloc (bl_alloc (bl_alloc (Below.refl _ _) _) _) _)) (by omega) (by omega) (by omega) (by omega) (by go_simp) (by rw [← Hcs.out]; go_simp) (by rw [← Hcs.out]; go_simp)
    refine HR.out _ _ ⟨y, G, ?_, hd, Below.drew (bl_alloc (bl_alloc (bl_alloc (Below.refl _ _) _) _) _)⟩
    rw [hyg]; rfl
end Go.Proofs.Ytbiaelaaihieeaa
/- The document's cache: Get. -/
namespace Go.Proofs.Ytbiaelaaihieeaa
open Go.RowKit
section
variable {G : Nat → Prop} {B : Nat} {w w' : World} {n g : Nat} {y : DL} {S S' : CS} {ρ : Nat → Nat}
def DGet (G : Nat → Prop) (B n g : Nat) (ρ : Nat → Nat) (S : CS) (key : ByteArray) (w : World) (e : Ending) (w' : World) : Prop :=
  match look (S.sh (sidx n key)).inm key with
  | none => e = .returned (.tuple #[.int .i64 0, .int .u64 0, .bool false]) ∧ DTo G B n g ρ w w' S
  | some b => e = .returned (.tuple #[.int .i64 (S.last + 1), (S.it b).v, .bool true]) ∧ DTo G B n g ρ w w' ((S.unwait (sidx n key) b).pinned b)
/-- A row of those that wait has been stored. -/
theorem dput_wt {wb : World} {i : Nat} {wt : List Nat} {A : Option Addr} {m c : Nat} (h : DAt G B w n y S ρ) (hb : Below w.heap.size w wb) (hi : i < n) (hm : m = wt.length) (hown : wb.ownsRow w.heap.size 134 1 (.slice A m c) m (ptrs (wt.map ρ))) :
    DTo G B n y.g ρ w (wb.setCell ⟨y.wr, i, none⟩ (.slice A m c)) (S.turn i { S.sh i with wt := wt } S.it) := by
  subst hm
  have hB := h.base
  have hgrow : ∀ k, more G w wb k → B ≤ k ∧ k < wb.heap.size := by
    rintro k (hk | ⟨hk, hk2⟩)
    · have := h.lt k hk; have := hb.size; omega
    · omega
  have d4 := (h.below hb).grow (G' := more G w wb) (fun k hk => .inl hk) hgrow
  have hc : Chg (fun k => k = y.wr) wb (wb.setCell ⟨y.wr, i, none⟩ (.slice A wt.length c)) := chg_cell _ _ _ _
  have hl := fun k => hown.lt k
  have d5 := d4.put_wt (wt := wt) (A := A) (c := c) hi hc (Blk.set (t := 127) d4.wrow i _) (own_chg (own_base hown hB) hc (fun k hk e => by
      have h1 := (hl k hk).1
      have h2 := (h.lt _ h.gb.2.2.1).2
      have e : k = y.wr := e
      omega)) (fun k hk => by
    have hk' : (Value.slice A wt.length c).ownBlock = some k := by rw [rowOf_eq]; exact hk
    have h1 := hl k hk'
    exact ⟨.inr ⟨h1.1, h1.2⟩, fun e => by have := h.lt k (h.gb.2.2.2.2.2 k e); omega⟩)
  refine ⟨_, ?_, d5.grow (fun k hk => hk.imp (fun e => e) (fun e => by simpa using e)) (fun k hk => ?_), (Chg.of_below hb).setCell (p := ⟨y.wr, i, none⟩) (fun _ => h.gb.2.2.1) _⟩
  · rfl
  · have := hgrow k (hk.imp (fun e => e) (fun e => by simpa using e))
    simpa using this
theorem DTo.start {W : World} {g' : Nat} {ρ' : Nat → Nat} (h : DAt G B w n y S ρ) (hb : Below w.heap.size w W) (k : DTo G B n g' ρ' W w' S') : DTo G B n g' ρ' w w' S' :=
  DTo.trans (G1 := G) h.lt h.base (fun k hk => .inl hk) (Chg.of_below hb) k
theorem DTo.it {b : Nat} (k : DTo G B n g ρ w w' S) (hb : b ∈ S.its) : DItAt w' (ρ b) (S.it b) := by
  obtain ⟨y', _, d, _⟩ := k
  exact d.its b hb
theorem dget_it {b i : Nat} {v : Int} (k : DTo G B n g ρ w w' ((S.unwait i b).pinned b)) (hb : b ∈ S.its) (hv : (S.it b).v = .int .u64 v) : blkOf w' (ρ b) = some (.cells #[.string (S.it b).key, .int .u64 v, .int .u64 (S.it b).ch, .bool (S.it b).inn, .int .i64 ((S.it b).pins + 1)] 133 (0, 0)) := by
  have h := k.it (b := b) hb
  have e : ((S.unwait i b).pinned b).it b = { S.it b with pins := (S.it b).pins + 1 } := upd_same _ _ _
  have h : blkOf w' (ρ b) = some (.cells (itCells (((S.unwait i b).pinned b).it b)) 133 (0, 0)) := h
  rw [h, e]; unfold itCells; rw [← hv]
set_option maxHeartbeats 3200000 in
theorem dget_any (key : ByteArray) (h : DAt G B w n y S ρ) (ok : COk n S) (kk : KOk n S) (h0 : 0 < n) (h1 : n ≤ 64) (hk : key.size ≤ maxLen) (hl : S.last < 8796093022000) (hv : ∀ b ∈ S.its, ∃ v, (S.it b).v = .int .u64 v) :
    Calls Try.prog 66 #[.pointer (some ⟨y.g, 0, none⟩), .string key] w (DGet G B n y.g ρ S key w) := by
  refine calls_of fun R HR => ?_
  have hs := sidx_lt h0 key
  have Hf := hid (dfind_any key h (DOk.of ok kk.aln) h0 h1 hk hl)
  unfold DGet at HR
  rw [fnd_look ok kk hs] at Hf
  cases hlk : look (S.sh (sidx n key)).inm key with
  | none =>
    rw [hlk] at Hf HR
    have H := hid h
    clear hlk h ok kk hs
    unfold ptrO at Hf
    go_enter Try.func66, Try.ntmps66
    go_wp2_with (go_at_call 87; refine Hf.out.mono ?_; rintro e w1 ⟨rfl, m, rfl⟩)
    go_ret3
    exact HR.out _ _ ⟨rfl, DTo.drewN H.out m⟩
  | some b =>
    rw [hlk] at Hf HR
    have hin := ok.inm _ hs _ (look_some hlk)
    have hbi := ok.al _ hs _ hin.1
    obtain ⟨v, hv⟩ := hv b hbi
    have Hsh : Hid (∀ m, Calls Try.prog 37 #[.pointer (some ⟨y.g, 0, none⟩), .string key] (w.drewN m) fun e w' => e = .returned (.int .i64 (sidx n key : Int)) ∧ w' = w.drewN m) := hid (fun m => dshard_any y.g key n _ (w.drewN m) h.blk rfl h0 h1 hk)
    obtain ⟨s, hse⟩ : ∃ s, s = sidx n key := ⟨_, rfl⟩
    rw [← hse] at hs HR Hsh hin
    have H := hid h; have Ok := hid ok; have Kk := hid kk; have Hbi := hid hbi; have Hs := hid hs; have Hl := hid hl; have Hv := hid hv; have Hin := hid hin; have Hse := hid hse
    clear hlk h ok kk hin hbi hl hv hse hk
    unfold ptrO at Hf
    have hs0 : (0 : Int) ≤ (s : Int) := Int.natCast_nonneg _
    have hs1 : (s : Int) < (n : Int) := by omega
    go_enter Try.func66, Try.ntmps66
    go_upto_region 5 with (first
      | (go_at_call 37; refine (Hsh.out m).mono ?_; rintro e w2 ⟨rfl, rfl⟩)
      | (go_at_call 87; refine Hf.out.mono ?_; rintro e w1 ⟨rfl, m, rfl⟩))
    obtain ⟨w1, hw1⟩ : ∃ w1, w1 = w.drewN m := ⟨_, rfl⟩
    rw [← hw1]
    have d1 : DAt G B w1 n y S ρ := by rw [hw1]; exact H.out.below (bl_drewN (Below.refl _ _) m)
    have D1 := hid d1
    have g1 := d1.blk
    have g3 := d1.wrow
    obtain ⟨WC, hWC⟩ : ∃ WC, WC = y.wcells n S := ⟨_, rfl⟩
    rw [← hWC] at g3
    have k3 : WC[s]? = some (.slice (y.wa s) (S.sh s).wt.length (y.wc s)) := by
      have := d1.wcell Hs.out
      rw [d1.wrow, ← hWC] at this; exact this
    have hWs : s < WC.size := (Array.getElem?_eq_some_iff.1 k3).1
    have e1 : WC[s]'hWs = .slice (y.wa s) (S.sh s).wt.length (y.wc s) := by have := k3; rw [Array.getElem?_eq_getElem hWs] at this; exact Option.some.inj this
    have lg1 := Blk.lt g1
    have lw1 := Blk.lt g3
    have hwi : ∀ c ∈ (S.sh s).wt, c ∈ S.its := fun c hc => Ok.out.al s Hs.out c ((Ok.out.ok s Hs.out).sub c hc)
    have HW : Hid (∀ W, Below w1.heap.size w1 W → Calls Try.prog 90 #[.slice (y.wa s) (S.sh s).wt.length (y.wc s), .pointer (some ⟨ρ b, 0, none⟩)] W fun e w' => ∃ A m c, e = .returned (.slice A m c) ∧ (m = (less (S.sh s).wt b).length ∧ w'.ownsRow W.heap.size 134 1 (.slice A m c) m (ptrs ((less (S.sh s).wt b).map ρ))) ∧ Below W.heap.size W w') := hid (fun W hW => by
      have := dwithout_at (d1.W s Hs.out) (by rw [List.length_map]) (fun z hz => by
        obtain ⟨c, hc, rfl⟩ := List.mem_map.1 hz
        exact (d1.its c (hwi c hc)).d) (d1.its b Hbi.out).d (by
          rw [List.length_map]
          have := (DOk.of Ok.out Kk.out.aln).wlen Hs.out
          have := Hl.out
          omega) W hW
      rw [less_map (fun c hc e => d1.inj c (hwi c hc) b Hbi.out e), List.length_map] at this
      exact this)
    obtain ⟨AW, hAW⟩ : ∃ AW, AW = y.wa s := ⟨_, rfl⟩
    obtain ⟨mW, hmW⟩ : ∃ mW, mW = (S.sh s).wt.length := ⟨_, rfl⟩
    obtain ⟨cW, hcW⟩ : ∃ cW, cW = y.wc s := ⟨_, rfl⟩
    rw [← hAW, ← hmW, ← hcW] at e1 HW
    have Hw1 := hid hw1
    clear hWC k3 hwi d1 hAW hmW hcW hw1 Hsh Hf
    refine wp_region_T (fun W => blkOf W y.g = some (.cells #[.int .i64 n, .int .u64 S.room, .bool S.st, .slice (some ⟨y.lr, 0, none⟩) n n, .slice (some ⟨y.wr, 0, none⟩) n n, .slice y.pa S.last.toNat y.pc] 129 (0, 0)) ∧ blkOf W y.wr = some (.cells WC 127 (0, 0))) 15 [] (by kernel_rfl) (by kernel_rfl) ⟨g1, g3⟩ ?_
    have G1 := hid g1; have G3 := hid g3
    clear g1 g3
    refine GoT.take 0 (v := ?va0) rfl (by kernel_rfl) (fun _ _ _ h => h) (Or.inl ⟨by rfl, ?ya0⟩) ?ra0
    case ya0 => (intro W hSw; (try dsimp only at hSw); go_simp; try with_reducible rfl)
    try simp only [Act.put, List.setIfInBounds_toArray, List.set_cons_zero, List.set_cons_succ]
    refine GoT.take 1 (v := ?va1) rfl (by kernel_rfl) (fun _ _ _ h => h) (Or.inl ⟨by rfl, ?ya1⟩) ?ra1
    case ya1 => (intro W hSw; (try dsimp only at hSw); go_simp; try with_reducible rfl)
    try simp only [Act.put, List.setIfInBounds_toArray, List.set_cons_zero, List.set_cons_succ]
    refine GoT.take 2 (v := ?va2) rfl (by kernel_rfl) (fun _ _ _ h => h) (Or.inl ⟨by rfl, ?ya2⟩) ?ra2
    case ya2 => (intro W hSw; (try dsimp only at hSw); go_simp; try with_reducible rfl)
    try simp only [Act.put, List.setIfInBounds_toArray, List.set_cons_zero, List.set_cons_succ]
    refine GoT.take 3 (v := ?va3) rfl (by kernel_rfl) (fun _ _ _ h => h) (Or.inl ⟨by rfl, ?ya3⟩) ?ra3
    case ya3 => (intro W hSw; (try dsimp only at hSw); go_simp; try with_reducible rfl)
    try simp only [Act.put, List.setIfInBounds_toArray, List.set_cons_zero, List.set_cons_succ]
    refine GoT.take 4 (v := ?va4) rfl (by kernel_rfl) (fun _ _ _ h => h) (Or.inl ⟨by rfl, ?ya4⟩) ?ra4
    case ya4 => (intro W hSw; (try dsimp only at hSw); go_simp; try with_reducible rfl)
    try simp only [Act.put, List.setIfInBounds_toArray, List.set_cons_zero, List.set_cons_succ]
    refine GoT.take 5 (v := ?va5) rfl (by kernel_rfl) (fun _ _ _ h => h) (Or.inl ⟨by rfl, ?ya5⟩) ?ra5
    case ya5 => (intro W hSw; (try dsimp only at hSw); go_simp; try with_reducible rfl)
    try simp only [Act.put, List.setIfInBounds_toArray, List.set_cons_zero, List.set_cons_succ]
    refine GoT.take 6 (v := ?va6) rfl (by kernel_rfl) (fun _ _ _ h => h) (Or.inl ⟨by rfl, ?ya6⟩) ?ra6
    case ya6 => (intro W hSw; (try dsimp only at hSw); go_simp; try with_reducible rfl)
    try simp only [Act.put, List.setIfInBounds_toArray, List.set_cons_zero, List.set_cons_succ]
    refine GoT.take 7 (v := ?va7) rfl (by kernel_rfl) (fun _ _ _ h => h) (Or.inl ⟨by rfl, ?ya7⟩) ?ra7
    case ya7 => (intro W hSw; (try dsimp only at hSw); go_simp; try with_reducible rfl)
    try simp only [Act.put, List.setIfInBounds_toArray, List.set_cons_zero, List.set_cons_succ]
    refine GoT.take 8 (v := ?va8) rfl (by kernel_rfl) (fun _ _ _ h => h) (Or.inl ⟨by rfl, ?ya8⟩) ?ra8
    case ya8 => (intro W hSw; (try dsimp only at hSw); go_simp; try with_reducible rfl)
    try simp only [Act.put, List.setIfInBounds_toArray, List.set_cons_zero, List.set_cons_succ]
    refine GoT.take 9 (v := ?va9) rfl (by kernel_rfl) (fun _ _ _ h => h) (Or.inl ⟨by rfl, ?ya9⟩) ?ra9
    case ya9 => (intro W hSw; (try dsimp only at hSw); go_simp; try with_reducible rfl)
    try simp only [Act.put, List.setIfInBounds_toArray, List.set_cons_zero, List.set_cons_succ]
    refine GoT.take 10 (v := ?va10) rfl (by kernel_rfl) (fun _ _ _ h => h) (Or.inl ⟨by rfl, ?ya10⟩) ?ra10
    case ya10 => (intro W hSw; (try dsimp only at hSw); go_simp; try with_reducible rfl)
    try simp only [Act.put, List.setIfInBounds_toArray, List.set_cons_zero, List.set_cons_succ]
    refine GoT.take 11 (v := ?va11) rfl (by kernel_rfl) (fun _ _ _ h => h) (Or.inl ⟨by rfl, ?ya11⟩) ?ra11
    case ya11 => (intro W hSw; (try dsimp only at hSw); go_simp; try with_reducible rfl)
    try simp only [Act.put, List.setIfInBounds_toArray, List.set_cons_zero, List.set_cons_succ]
    refine GoT.take 12 (v := ?va12) rfl (by kernel_rfl) (fun _ _ _ h => h) (Or.inl ⟨by rfl, ?ya12⟩) ?ra12
    case ya12 => (intro W hSw; (try dsimp only at hSw); go_simp; try with_reducible rfl)
    try simp only [Act.put, List.setIfInBounds_toArray, List.set_cons_zero, List.set_cons_succ]
    refine GoT.all [13] (by kernel_rfl) rfl ?_
    refine AllT.cons (i := 13) rfl (fun K hK => ?_) AllT.nil
    go_simp
    go_at_call 90
    have ha : Below w1.heap.size w1 w1.drew := bl_drewN (Below.refl _ _) 1
    refine (HW.out _ ha).mono ?_
    rintro e wb ⟨A2, m2, c2, rfl, oW, bW⟩
    have q2 : Below w1.heap.size w1 wb := bl_then ha bW
    have f1 := (bl_at q2 y.g lg1).trans G1.out
    have f3 := (bl_at q2 y.wr lw1).trans G3.out
    refine hK.out _ _ (fun _ => ⟨f1, f3⟩) ?_
    clear hK K
    try simp only [Act.put, List.setIfInBounds_toArray, List.set_cons_zero, List.set_cons_succ]
    have lc3 : y.wr < wb.heap.size := Blk.lt f3
    have OW := hid oW; have BW := hid bW
    clear oW bW ha q2
    refine GoT.take 14 (v := ?vb14) rfl (by kernel_rfl) (fun _ _ _ h => h) (Or.inl ⟨by rfl, ?yb14⟩) ?rb14
    case yb14 => (intro W hSw; (try dsimp only at hSw); go_simp; try with_reducible rfl)
    try simp only [Act.put, List.setIfInBounds_toArray, List.set_cons_zero, List.set_cons_succ]
    refine GoT.all [15] (by kernel_rfl) rfl ?_
    refine AllT.cons (i := 15) rfl (fun K hK => ?_) AllT.nil
    go_simp
    refine hK.out _ _ (fun h => absurd h (by decide)) ?_
    clear hK K
    try simp only [Act.put, List.setIfInBounds_toArray, List.set_cons_zero, List.set_cons_succ]
    refine GoT.done (by kernel_rfl) ?_ _
    obtain ⟨wz, hwz⟩ : ∃ wz, wz = wb.setCell ⟨y.wr, s, none⟩ (.slice A2 m2 c2) := ⟨_, rfl⟩
    rw [← hwz]
    have hto := dput_wt D1.out (bl_then (bl_drewN (Below.refl _ _) 1) BW.out) Hs.out OW.out.1 OW.out.2
    rw [← hwz] at hto
    have hto : DTo G B n y.g ρ w1 wz (S.unwait s b) := hto
    have Hto := hid hto
    obtain ⟨y', e', d', c'⟩ := hto
    have e2 := d'.its b Hbi.out
    have e2' : blkOf wz (ρ b) = some (.cells #[.string (S.it b).key, .int .u64 v, .int .u64 (S.it b).ch, .bool (S.it b).inn, .int .i64 (S.it b).pins] 133 (0, 0)) := by
      have : blkOf wz (ρ b) = some (.cells (itCells (S.it b)) 133 (0, 0)) := e2
      rw [this]; unfold itCells; rw [Hv.out]
    have lit := Blk.lt e2'
    have Hp : Hid (∀ W, Below wz.heap.size wz W → Calls Try.prog 89 #[.pointer (some ⟨y.g, 0, none⟩), .pointer (some ⟨ρ b, 0, none⟩)] W fun e w' => e = .returned (.int .i64 (S.last + 1)) ∧ DTo G B n y.g ρ w1 w' ((S.unwait s b).pinned b)) := hid (fun W hW => by
      have hpn := Ok.out.pn b Hbi.out
      have := dpins_any b (d'.below hW) Hbi.out (fun p hp => (Ok.out.pins p hp).1) Ok.out.last Hl.out hpn.1 hpn.2
      rw [e'] at this
      refine this.mono ?_
      rintro e w' ⟨h1, h2⟩
      exact ⟨h1, DTo.trans D1.out.lt D1.out.base (fun k hk => hk) c' (DTo.start d' hW h2)⟩)
    clear e2 d' c' hwz Hto e' lc3 f1 f3 lg1 lw1 e1 hWs HW
    go_wp2
    go_region_with ((go_at_call 89; refine (Hp.out _ ?_).mono ?_; (repeat (first | exact Below.refl _ _ | apply Below.drew | apply bl_drewN)); rintro e w3 ⟨rfl, hto3⟩; have e3 : blkOf w3 (ρ b) = some (.cells #[.string (S.it b).key, .int .u64 v, .int .u64 (S.it b).ch, .bool (S.it b).inn, .int .i64 ((S.it b).pins + 1)] 133 (0, 0)) := dget_it hto3 Hbi.out Hv.out; have Hto3 := hid hto3; clear hto3))
    all_goals
      go_wp2
      go_ret3
      refine HR.out _ _ ⟨by rw [Hv.out]; rfl, ?_⟩
      have hh := Hto3.out
      rw [Hw1.out] at hh
      exact DTo.behind H.out hh
end
end Go.Proofs.Ytbiaelaaihieeaa
