/- CacheActs, parts E20: what the document's cache does, in one memory with the program's. -/
import Derived.Test.YtbiaelaaihieeaaED
set_option linter.unusedVariables false
set_option linter.unusedSimpArgs false
set_option maxRecDepth 100000
/- The document's cache: Put. -/
namespace Go.Proofs.Ytbiaelaaihieeaa
open Go.RowKit
section
variable {G : Nat → Prop} {B : Nat} {w w' : World} {n g : Nat} {y : DL} {S S' : CS} {ρ : Nat → Nat}
theorem dput_long (key : ByteArray) (v ch : Int) (w : World) (hk : 1024 < key.size) (hm : key.size ≤ maxLen) :
    Calls Try.prog 65 #[.pointer (some ⟨g, 0, none⟩), .string key, .int .u64 v, .int .u64 ch] w fun e w' => e = .returned (.tuple #[.int .i64 0, .int .i64 2]) ∧ w' = w := by
  refine calls_of fun R HR => ?_
  have hk' : (1024 : Int) < (key.size : Int) := by omega
  simp only [maxLen] at hm
  go_enter Try.func65, Try.ntmps65
  go_wp2
  exact HR.out _ _ ⟨rfl, rfl⟩
theorem more_mono {w1 w2 : World} (h : w1.heap.size ≤ w2.heap.size) (k : Nat) (hk : more G w w1 k) : more G w w2 k := hk.imp (fun e => e) (fun e => ⟨e.1, Nat.lt_of_lt_of_le e.2 h⟩)
theorem clear_same (S : CS) (i : Nat) (key : ByteArray) : (S.clear i key).its = S.its ∧ (S.clear i key).last = S.last ∧ (S.clear i key).pins = S.pins := by
  unfold CS.clear; split <;> exact ⟨rfl, rfl, rfl⟩
set_option maxHeartbeats 6400000 in
theorem dput_full (key : ByteArray) (v ch : Int) (T : Sh) (I : Nat → It) (nb : Nat) (h : DAt G B w n y S ρ) (ok : COk n S) (kk : KOk n S) (h0 : 0 < n) (h1 : n ≤ 64) (hk : key.size ≤ 1024) (hch : 0 ≤ ch ∧ ch ≤ 18446744073709551615) (hl : S.last < 8796093022000)
    (hmd : Made ch (S.room / n) (S.sh (sidx n key)) S.it T I) (hnb : nb ∉ S.its) (hst : S.st = true) (hf : S.room / n < addTop (usedOf T I) ch) :
    Calls Try.prog 65 #[.pointer (some ⟨y.g, 0, none⟩), .string key, .int .u64 v, .int .u64 ch] w fun e w' => e = .returned (.tuple #[.int .i64 0, .int .i64 110]) ∧ DTo G B n y.g ρ w w' (S.turn (sidx n key) T I) := by
  refine calls_of fun R HR => ?_
  have hs := sidx_lt h0 key
  have hkm : key.size ≤ maxLen := by simp only [maxLen]; omega
  have hkN : ¬ (1024 : Int) < (key.size : Int) := by omega
  have Hsh := hid (dshard_any y.g key n _ w h.blk rfl h0 h1 hkm)
  have Hmk := hid (dmakes_any (sidx n key) ch h ok kk.aln hs h1 hch hl hmd)
  have ok1 := ok.madeAt hs hmd
  have kk1 := kk.madeAt ok hs hmd
  obtain ⟨s, hse⟩ : ∃ s, s = sidx n key := ⟨_, rfl⟩
  rw [← hse] at Hsh Hmk ok1 kk1 hs HR
  have hr0 := ok.room
  have H := hid h; have Hl := hid hl; have Hse := hid hse; have Ok1 := hid ok1; have Kk1 := hid kk1; have Hs := hid hs; have Hnb := hid hnb
  have hs0 : (0 : Int) ≤ (s : Int) := Int.natCast_nonneg _
  have hs1 : (s : Int) < (n : Int) := by omega
  have hn0 : (0 : Int) < (n : Int) := by omega
  have hnw : IntKind.u64.wrap (n : Int) = (n : Int) := by unfold IntKind.wrap; simp [IntKind.bits, IntKind.signed]; omega
  have hnz : ((n : Int) == 0) = false := by rw [beq_eq_false_iff_ne]; omega
  have hch0 := chs_nonneg (Ok1.out.ok s hs).ch
  rw [turn_sh] at hch0
  have hcu : 0 ≤ usedOf T I ∧ usedOf T I ≤ 18446744073709551615 := cap_range hch0
  clear h ok kk hl hse ok1 kk1 hnb hmd hch0
  go_enter Try.func65, Try.ntmps65
  go_upto_region 5 with (first
    | (go_at_call 84; refine Hmk.out.mono ?_; rintro e w3 ⟨rfl, hto⟩; have Hto := hid hto; clear hto)
    | (go_at_call 37; refine Hsh.out.mono ?_; rintro e w9 ⟨rfl, hw9⟩; obtain rfl := hw9.symm))
  obtain ⟨y3, e3g, d3, c3⟩ := Hto.out
  have b3 := d3.blk
  rw [e3g] at b3
  have lg3 := Blk.lt b3
  have D3 := hid d3; have E3g := hid e3g; have C3 := hid c3
  have Hf : Hid (∀ m, Calls Try.prog 87 #[.pointer (some ⟨y.g, 0, none⟩), .string key] (w3.drewN m) fun e w' => e = .returned (ptrO ρ (look T.inm key)) ∧ Below w3.heap.size w3 w') := hid (fun m => by
    have := dfind_any key (d3.below (bl_drewN (Below.refl _ _) m)) (DOk.of Ok1.out Kk1.out.aln) h0 h1 hkm Hl.out
    rw [← Hse.out, fnd_look Ok1.out Kk1.out Hs.out, e3g, turn_sh] at this
    refine this.mono ?_
    rintro e w' ⟨h1, m2, rfl⟩
    exact ⟨h1, bl_drewN (bl_drewN (Below.refl _ _) m) m2⟩)
  clear d3 e3g c3
  have Hu : Hid (∀ m, Calls Try.prog 86 #[.pointer (some ⟨y.g, 0, none⟩), .int .i64 s] (w3.drewN m) fun e w' => e = .returned (.int .u64 (usedOf T I)) ∧ w' = w3.drewN m) := hid (fun m => by
    have := dused_any (more G w w3) B n y3 (S.turn s T I) ρ s (w3.drewN m) (D3.out.below (bl_drewN (Below.refl _ _) m)) Ok1.out Hs.out (by omega) (by
      have h1 := (DOk.of Ok1.out Kk1.out.aln).len Hs.out
      have h2 := Hl.out
      have e : (S.turn s T I).last = S.last := rfl
      omega)
    rw [E3g.out, turn_sh] at this
    exact this)
  obtain ⟨u, hu⟩ : ∃ u, u = usedOf T I := ⟨_, rfl⟩
  rw [← hu] at Hu hcu
  have HU := hid hu
  obtain ⟨q, hq⟩ : ∃ q, q = S.room / (n : Int) := ⟨_, rfl⟩
  have HQ := hid hq
  have hst3 : (S.turn s T I).st = true := hst
  obtain ⟨rm, hrm⟩ : ∃ rm, rm = (S.turn s T I).room := ⟨_, rfl⟩
  rw [hst3, ← hrm] at b3
  have hquo : IntKind.u64.wrap (rm.tdiv (n : Int)) = q := by
    have e : rm = S.room := hrm
    have h0 : (0 : Int) ≤ rm / (n : Int) := Int.ediv_nonneg (by omega) (by omega)
    have h1 : rm / (n : Int) ≤ rm := Int.ediv_le_self _ (by omega)
    rw [Int.tdiv_eq_ediv_of_nonneg (by omega), hq, ← e]
    unfold IntKind.wrap
    simp [IntKind.bits, IntKind.signed]
    omega
  have Hp := hid (fun W => dplus_any u ch W hcu hch)
  have hlt : q < addTop u ch := by rw [hu, hq]; exact hf
  have Hst := hid hst
  clear hst3 hrm hu hq hst hf
  go_quiet ((first | (go_at_call 86; exact Calls.quiet_of_same (Hu.out _)) | (go_at_call 85; exact Calls.quiet_of_same (Hp.out _))))
  go_wp2
  refine HR.out _ _ ⟨rfl, ?_⟩
  exact ⟨y3, E3g.out, D3.out.below (bl_drewN (Below.refl _ _) _), C3.out.drewN _⟩
set_option maxHeartbeats 6400000 in
theorem dput_strict (key : ByteArray) (v ch : Int) (T : Sh) (I : Nat → It) (nb : Nat) (h : DAt G B w n y S ρ) (ok : COk n S) (kk : KOk n S) (h0 : 0 < n) (h1 : n ≤ 64) (hk : key.size ≤ 1024) (hch : 0 ≤ ch ∧ ch ≤ 18446744073709551615) (hl : S.last < 8796093022000)
    (hmd : Made ch (S.room / n) (S.sh (sidx n key)) S.it T I) (hnb : nb ∉ S.its) (hst : S.st = true) (hf : ¬ S.room / n < addTop (usedOf T I) ch) :
    Calls Try.prog 65 #[.pointer (some ⟨y.g, 0, none⟩), .string key, .int .u64 v, .int .u64 ch] w fun e w' => e = .returned (.tuple #[.int .i64 (S.last + 1), .int .i64 0]) ∧ ∃ nd, DTo G B n y.g (putAt ρ nb nd) w w' ((((S.turn (sidx n key) T I).clear (sidx n key) key).added (sidx n key) nb ⟨key, .int .u64 v, ch, true, 0⟩).pinned nb) := by
  refine calls_of fun R HR => ?_
  have hs := sidx_lt h0 key
  have hkm : key.size ≤ maxLen := by simp only [maxLen]; omega
  have hkN : ¬ (1024 : Int) < (key.size : Int) := by omega
  have Hsh := hid (dshard_any y.g key n _ w h.blk rfl h0 h1 hkm)
  have Hmk := hid (dmakes_any (sidx n key) ch h ok kk.aln hs h1 hch hl hmd)
  have ok1 := ok.madeAt hs hmd
  have kk1 := kk.madeAt ok hs hmd
  obtain ⟨s, hse⟩ : ∃ s, s = sidx n key := ⟨_, rfl⟩
  rw [← hse] at Hsh Hmk ok1 kk1 hs HR
  have hr0 := ok.room
  have H := hid h; have Hl := hid hl; have Hse := hid hse; have Ok1 := hid ok1; have Kk1 := hid kk1; have Hs := hid hs; have Hnb := hid hnb
  have hs0 : (0 : Int) ≤ (s : Int) := Int.natCast_nonneg _
  have hs1 : (s : Int) < (n : Int) := by omega
  have hn0 : (0 : Int) < (n : Int) := by omega
  have hnw : IntKind.u64.wrap (n : Int) = (n : Int) := by unfold IntKind.wrap; simp [IntKind.bits, IntKind.signed]; omega
  have hnz : ((n : Int) == 0) = false := by rw [beq_eq_false_iff_ne]; omega
  have hch0 := chs_nonneg (Ok1.out.ok s hs).ch
  rw [turn_sh] at hch0
  have hcu : 0 ≤ usedOf T I ∧ usedOf T I ≤ 18446744073709551615 := cap_range hch0
  clear h ok kk hl hse ok1 kk1 hnb hmd hch0
  go_enter Try.func65, Try.ntmps65
  go_upto_region 5 with (first
    | (go_at_call 84; refine Hmk.out.mono ?_; rintro e w3 ⟨rfl, hto⟩; have Hto := hid hto; clear hto)
    | (go_at_call 37; refine Hsh.out.mono ?_; rintro e w9 ⟨rfl, hw9⟩; obtain rfl := hw9.symm))
  obtain ⟨y3, e3g, d3, c3⟩ := Hto.out
  have b3 := d3.blk
  rw [e3g] at b3
  have lg3 := Blk.lt b3
  have D3 := hid d3; have E3g := hid e3g; have C3 := hid c3
  have Hf : Hid (∀ m, Calls Try.prog 87 #[.pointer (some ⟨y.g, 0, none⟩), .string key] (w3.drewN m) fun e w' => e = .returned (ptrO ρ (look T.inm key)) ∧ Below w3.heap.size w3 w') := hid (fun m => by
    have := dfind_any key (d3.below (bl_drewN (Below.refl _ _) m)) (DOk.of Ok1.out Kk1.out.aln) h0 h1 hkm Hl.out
    rw [← Hse.out, fnd_look Ok1.out Kk1.out Hs.out, e3g, turn_sh] at this
    refine this.mono ?_
    rintro e w' ⟨h1, m2, rfl⟩
    exact ⟨h1, bl_drewN (bl_drewN (Below.refl _ _) m) m2⟩)
  clear d3 e3g c3
  have Hu : Hid (∀ m, Calls Try.prog 86 #[.pointer (some ⟨y.g, 0, none⟩), .int .i64 s] (w3.drewN m) fun e w' => e = .returned (.int .u64 (usedOf T I)) ∧ w' = w3.drewN m) := hid (fun m => by
    have := dused_any (more G w w3) B n y3 (S.turn s T I) ρ s (w3.drewN m) (D3.out.below (bl_drewN (Below.refl _ _) m)) Ok1.out Hs.out (by omega) (by
      have h1 := (DOk.of Ok1.out Kk1.out.aln).len Hs.out
      have h2 := Hl.out
      have e : (S.turn s T I).last = S.last := rfl
      omega)
    rw [E3g.out, turn_sh] at this
    exact this)
  obtain ⟨u, hu⟩ : ∃ u, u = usedOf T I := ⟨_, rfl⟩
  rw [← hu] at Hu hcu
  have HU := hid hu
  obtain ⟨q, hq⟩ : ∃ q, q = S.room / (n : Int) := ⟨_, rfl⟩
  have HQ := hid hq
  have hst3 : (S.turn s T I).st = true := hst
  obtain ⟨rm, hrm⟩ : ∃ rm, rm = (S.turn s T I).room := ⟨_, rfl⟩
  rw [hst3, ← hrm] at b3
  have hquo : IntKind.u64.wrap (rm.tdiv (n : Int)) = q := by
    have e : rm = S.room := hrm
    have h0 : (0 : Int) ≤ rm / (n : Int) := Int.ediv_nonneg (by omega) (by omega)
    have h1 : rm / (n : Int) ≤ rm := Int.ediv_le_self _ (by omega)
    rw [Int.tdiv_eq_ediv_of_nonneg (by omega), hq, ← e]
    unfold IntKind.wrap
    simp [IntKind.bits, IntKind.signed]
    omega
  have Hp := hid (fun W => dplus_any u ch W hcu hch)
  have hlt : ¬ q < addTop u ch := by rw [hu, hq]; omega
  have Hst := hid hst
  clear hst3 hrm hu hq hst hf
  go_quiet ((first | (go_at_call 86; exact Calls.quiet_of_same (Hu.out _)) | (go_at_call 85; exact Calls.quiet_of_same (Hp.out _))))
  go_upto_region 7 with fail
  go_wp2_with fail
  refine (Hf.out _).mono ?_
  rintro e w4 ⟨rfl, hb4⟩
  have d4 := D3.out.below hb4
  have C4 : Hid (Chg G w w4) := hid (C3.out.below hb4)
  have D4 := hid d4; have Hs34 := hid hb4.size
  clear d4 hb4
  cases hlk : look T.inm key with
  | none =>
    have hcl : (S.turn s T I).clear s key = S.turn s T I := by unfold CS.clear; rw [turn_sh, hlk]
    obtain ⟨wq, hwq⟩ : ∃ wq, wq = w4 := ⟨_, rfl⟩
    obtain ⟨Sc, hSc⟩ : ∃ Sc, Sc = (S.turn s T I).clear s key := ⟨_, rfl⟩
    have HSc := hid hSc
    rw [hcl] at hSc
    have HQD : Hid (DTo G B n y.g ρ w wq Sc) := hid (by
      rw [hSc, hwq]
      exact DTo.trans H.out.lt H.out.base (more_mono Hs34.out) C4.out (by have := DTo.refl D4.out; rw [E3g.out] at this; exact this))
    have OkS : Hid (COk n Sc) := hid (by rw [hSc]; exact Ok1.out)
    have KkS : Hid (KOk n Sc) := hid (by rw [hSc]; exact Kk1.out)
    have LastS : Hid (Sc.last = S.last) := hid (by rw [hSc]; rfl)
    have NbS : Hid (nb ∉ Sc.its) := hid (by rw [hSc]; exact Hnb.out)
    rw [← hwq]
    unfold ptrO
    clear hcl hSc hlk hwq
    obtain ⟨yq, eyq, dq, cq⟩ := HQD.out
    have Dq := hid dq; have Eyq := hid eyq; have Cq := hid cq
    go_upto_region 11 with fail
    obtain ⟨nd, hnd⟩ : ∃ nd, nd = wq.heap.size := ⟨_, rfl⟩
    obtain ⟨w8, hw8⟩ : ∃ w8, w8 = wq.alloc (.cells #[.string key, .int .u64 v, .int .u64 ch, .bool true, .int .i64 0] 133) := ⟨_, rfl⟩
    rw [← hw8, ← hnd]
    have b8 : Below wq.heap.size wq w8 := by rw [hw8]; exact bl_alloc (Below.refl _ _) _
    have i8 : DItAt w8 nd ⟨key, .int .u64 v, ch, true, 0⟩ := by rw [hw8, hnd]; exact blk_new _ _
    have d8 := dq.below b8
    have Hnd := hid hnd; have B8 := hid b8; have I8 := hid i8
    have g1 := d8.blk
    rw [eyq] at g1
    have g3 := d8.lrow
    obtain ⟨WC, hWC⟩ : ∃ WC, WC = yq.lcells n Sc := ⟨_, rfl⟩
    rw [← hWC] at g3
    have k3 : WC[s]? = some (.slice (yq.la s) (Sc.sh s).al.length (yq.lc s)) := by
      have := d8.lcell Hs.out
      rw [d8.lrow, ← hWC] at this; exact this
    have hWs : s < WC.size := (Array.getElem?_eq_some_iff.1 k3).1
    have e1 : WC[s]'hWs = .slice (yq.la s) (Sc.sh s).al.length (yq.lc s) := by have := k3; rw [Array.getElem?_eq_getElem hWs] at this; exact Option.some.inj this
    have lg1 := Blk.lt g1
    have lw1 := Blk.lt g3
    have hrow := d8.L s Hs.out
    have hmN : (Sc.sh s).al.length ≤ 8796093022000 := by
      have h2 := (DOk.of OkS.out KkS.out.aln).len Hs.out
      rw [LastS.out] at h2
      have := Hl.out
      omega
    obtain ⟨AW, hAW⟩ : ∃ AW, AW = yq.la s := ⟨_, rfl⟩
    obtain ⟨mW, hmW⟩ : ∃ mW, mW = (Sc.sh s).al.length := ⟨_, rfl⟩
    obtain ⟨cW, hcW⟩ : ∃ cW, cW = yq.lc s := ⟨_, rfl⟩
    obtain ⟨XS, hXS⟩ : ∃ XS, XS = ptrs ((Sc.sh s).al.map ρ) := ⟨_, rfl⟩
    have HX1 : Hid (∀ u ∈ XS, u.oneCell' = true) := hid (by rw [hXS]; exact ptrs_one _)
    rw [← hAW, ← hmW, ← hcW, ← hXS] at hrow
    rw [← hAW, ← hmW, ← hcW] at e1
    rw [← hmW] at hmN
    have Hrd := hid (Rd.of_own hrow)
    have HmW := hid hmW; have HXS := hid hXS
    obtain ⟨i0, hi0, hz0, hz1, hz2⟩ := info_parts Try.info134c
    clear hWC k3 hAW hmW hcW hXS hrow hnd hw8 b8 i8 d8 dq eyq cq
    refine wp_region_T (fun W => blkOf W y.g = some (.cells #[.int .i64 n, .int .u64 Sc.room, .bool Sc.st, .slice (some ⟨yq.lr, 0, none⟩) n n, .slice (some ⟨yq.wr, 0, none⟩) n n, .slice yq.pa Sc.last.toNat yq.pc] 129 (0, 0)) ∧ blkOf W yq.lr = some (.cells WC 127 (0, 0))) 18 [] (by kernel_rfl) (by kernel_rfl) ⟨g1, g3⟩ ?_
    refine GoT.take 0 (v := ?vtn0) rfl (by kernel_rfl) (fun _ _ _ h => h) (Or.inl ⟨by rfl, ?ytn0⟩) ?rtn0
    case ytn0 => (intro W hSw; (try dsimp only at hSw); go_simp; try with_reducible rfl)
    try simp only [Act.put, List.setIfInBounds_toArray, List.set_cons_zero, List.set_cons_succ]
    refine GoT.take 1 (v := ?vtn1) rfl (by kernel_rfl) (fun _ _ _ h => h) (Or.inl ⟨by rfl, ?ytn1⟩) ?rtn1
    case ytn1 => (intro W hSw; (try dsimp only at hSw); go_simp; try with_reducible rfl)
    try simp only [Act.put, List.setIfInBounds_toArray, List.set_cons_zero, List.set_cons_succ]
    refine GoT.take 2 (v := ?vtn2) rfl (by kernel_rfl) (fun _ _ _ h => h) (Or.inl ⟨by rfl, ?ytn2⟩) ?rtn2
    case ytn2 => (intro W hSw; (try dsimp only at hSw); go_simp; try with_reducible rfl)
    try simp only [Act.put, List.setIfInBounds_toArray, List.set_cons_zero, List.set_cons_succ]
    refine GoT.take 3 (v := ?vtn3) rfl (by kernel_rfl) (fun _ _ _ h => h) (Or.inl ⟨by rfl, ?ytn3⟩) ?rtn3
    case ytn3 => (intro W hSw; (try dsimp only at hSw); go_simp; try with_reducible rfl)
    try simp only [Act.put, List.setIfInBounds_toArray, List.set_cons_zero, List.set_cons_succ]
    refine GoT.take 4 (v := ?vtn4) rfl (by kernel_rfl) (fun _ _ _ h => h) (Or.inl ⟨by rfl, ?ytn4⟩) ?rtn4
    case ytn4 => (intro W hSw; (try dsimp only at hSw); go_simp; try with_reducible rfl)
    try simp only [Act.put, List.setIfInBounds_toArray, List.set_cons_zero, List.set_cons_succ]
    refine GoT.take 6 (v := ?vtn6) rfl (by kernel_rfl) (fun _ _ _ h => h) (Or.inl ⟨by rfl, ?ytn6⟩) ?rtn6
    case ytn6 => (intro W hSw; (try dsimp only at hSw); go_simp; try with_reducible rfl)
    try simp only [Act.put, List.setIfInBounds_toArray, List.set_cons_zero, List.set_cons_succ]
    refine GoT.take 7 (v := ?vtn7) rfl (by kernel_rfl) (fun _ _ _ h => h) (Or.inl ⟨by rfl, ?ytn7⟩) ?rtn7
    case ytn7 => (intro W hSw; (try dsimp only at hSw); go_simp; try with_reducible rfl)
    try simp only [Act.put, List.setIfInBounds_toArray, List.set_cons_zero, List.set_cons_succ]
    refine GoT.take 8 (v := ?vtn8) rfl (by kernel_rfl) (fun _ _ _ h => h) (Or.inl ⟨by rfl, ?ytn8⟩) ?rtn8
    case ytn8 => (intro W hSw; (try dsimp only at hSw); go_simp; try with_reducible rfl)
    try simp only [Act.put, List.setIfInBounds_toArray, List.set_cons_zero, List.set_cons_succ]
    refine GoT.take 9 (v := ?vtn9) rfl (by kernel_rfl) (fun _ _ _ h => h) (Or.inl ⟨by rfl, ?ytn9⟩) ?rtn9
    case ytn9 => (intro W hSw; (try dsimp only at hSw); go_simp; try with_reducible rfl)
    try simp only [Act.put, List.setIfInBounds_toArray, List.set_cons_zero, List.set_cons_succ]
    refine GoT.take 10 (v := ?vtn10) rfl (by kernel_rfl) (fun _ _ _ h => h) (Or.inl ⟨by rfl, ?ytn10⟩) ?rtn10
    case ytn10 => (intro W hSw; (try dsimp only at hSw); go_simp; try with_reducible rfl)
    try simp only [Act.put, List.setIfInBounds_toArray, List.set_cons_zero, List.set_cons_succ]
    refine GoT.take 11 (v := ?vtn11) rfl (by kernel_rfl) (fun _ _ _ h => h) (Or.inl ⟨by rfl, ?ytn11⟩) ?rtn11
    case ytn11 => (intro W hSw; (try dsimp only at hSw); go_simp; try with_reducible rfl)
    try simp only [Act.put, List.setIfInBounds_toArray, List.set_cons_zero, List.set_cons_succ]
    refine GoT.take 12 (v := ?vtn12) rfl (by kernel_rfl) (fun _ _ _ h => h) (Or.inl ⟨by rfl, ?ytn12⟩) ?rtn12
    case ytn12 => (intro W hSw; (try dsimp only at hSw); go_simp; try with_reducible rfl)
    try simp only [Act.put, List.setIfInBounds_toArray, List.set_cons_zero, List.set_cons_succ]
    refine GoT.take 14 (v := ?vtn14) rfl (by kernel_rfl) (fun _ _ _ h => h) (Or.inl ⟨by rfl, ?ytn14⟩) ?rtn14
    case ytn14 => (intro W hSw; (try dsimp only at hSw); go_simp; try with_reducible rfl)
    try simp only [Act.put, List.setIfInBounds_toArray, List.set_cons_zero, List.set_cons_succ]
    have hE := World.ownsRow_made (e := 134) (size := 1) w8 #[] 0 (base := w8.heap.size) (Nat.le_refl _) (by simp [maxLen]) (by simp)
    have HE := hid hE
    clear hE
    refine GoT.all [5, 15] (by kernel_rfl) rfl ?_
    refine AllT.cons (i := 5) rfl (fun K hK => ?_) (AllT.cons (i := 15) rfl (fun K hK => ?_) AllT.nil)
    · go_simp
      refine hK.out _ _ (fun _ => ⟨by go_simp, by go_simp⟩) ?_
      clear hK K
      try simp only [Act.put, List.setIfInBounds_toArray, List.set_cons_zero, List.set_cons_succ]
      refine GoT.all [13, 15] (by kernel_rfl) rfl ?_
      refine AllT.cons (i := 13) rfl (fun K hK => ?_) (AllT.cons (i := 15) rfl (fun K hK => ?_) AllT.nil)
      · refine step_append_rd _ rfl (.tmp 64) (.tmp 71) _ rfl w8.heap.size 134 i0 _ 1 8 Try.underlying127 hi0 hz0 hz1 hz2 rfl (by decide) (.slice (some ⟨w8.heap.size, 0, none⟩) 0 0) 0 [] rfl (own_drew HE.out) w8.heap.size AW mW cW XS rfl (Hrd.out.alloc (Nat.le_refl _) _) HX1.out (by simp only [maxLen]; omega) (by omega) (by simp; try omega) ?_
        intro v1 w5 hown5 hg5 hat5
        have hbl5 : Below w8.heap.size w8 w5 := bl_grown (Below.drew (bl_alloc (Below.refl _ _) _)) hg5 (fun k hk => Nat.le_of_eq (Option.some.inj hk))
        obtain ⟨A1, c1, rfl, _⟩ := own_shape hown5
        rw [Nat.zero_add, List.nil_append] at hown5
        refine hK.out _ _ (fun _ => ⟨(bl_at hbl5 _ lg1).trans g1, (bl_at hbl5 _ lw1).trans g3⟩) ?_
        clear hK K
        try simp only [Act.put, List.setIfInBounds_toArray, List.set_cons_zero, List.set_cons_succ]
        simp only [Nat.zero_add]
        refine GoT.all [15] (by kernel_rfl) rfl ?_
        refine AllT.cons (i := 15) rfl (fun K hK => ?_) AllT.nil
        go_simp
        refine hK.out _ _ (fun _ => ⟨(bl_at (bl_alloc hbl5 _) _ lg1).trans g1, (bl_at (bl_alloc hbl5 _) _ lw1).trans g3⟩) ?_
        clear hK K
        try simp only [Act.put, List.setIfInBounds_toArray, List.set_cons_zero, List.set_cons_succ]
        refine GoT.all [16] (by kernel_rfl) rfl ?_
        refine AllT.cons (i := 16) rfl (fun K hK => ?_) AllT.nil
        refine step_append_rd _ rfl (.tmp 72) (.tmp 74) _ rfl w8.heap.size 134 i0 _ 1 8 Try.underlying127 hi0 hz0 hz1 hz2 rfl (by decide) (.slice A1 mW c1) mW XS rfl (hown5.alloc _) (w5.heap.size + 1) (some ⟨w5.heap.size, 0, none⟩) 1 1 [.pointer (some ⟨nd, 0, none⟩)] rfl (rd_new w5 134 1 1 [.pointer (some ⟨nd, 0, none⟩)] rfl) (by simp [Value.oneCell']) (by simp only [maxLen]; omega) (by omega) (by have := hbl5.size; simp; try omega) ?_
        intro v2 w6 hown6 hg6 hat6
        have hbl6 : Below w8.heap.size w8 w6 := bl_grown (bl_alloc hbl5 _) hg6 (fun k hk => (hown5.lt k hk).1)
        obtain ⟨A2, c2, rfl, _⟩ := own_shape hown6
        have q1 := (bl_at hbl6 _ lg1).trans g1
        have q3 := (bl_at hbl6 _ lw1).trans g3
        have lw6 := Blk.lt q3
        refine hK.out _ _ (fun _ => ⟨q1, q3⟩) ?_
        clear hK K
        try simp only [Act.put, List.setIfInBounds_toArray, List.set_cons_zero, List.set_cons_succ]
        have OW6 := hid hown6; have BL6 := hid hbl6
        clear hown6 hbl6 hg6 hat6 hg5 hat5 hown5 hbl5
        refine GoT.take 17 (v := ?vtna17) rfl (by kernel_rfl) (fun _ _ _ h => h) (Or.inl ⟨by rfl, ?ytna17⟩) ?rtna17
        case ytna17 => (intro W hSw; (try dsimp only at hSw); go_simp; try with_reducible rfl)
        try simp only [Act.put, List.setIfInBounds_toArray, List.set_cons_zero, List.set_cons_succ]
        refine GoT.all [18] (by kernel_rfl) rfl ?_
        refine AllT.cons (i := 18) rfl (fun K hK => ?_) AllT.nil
        go_simp
        refine hK.out _ _ (fun h => absurd h (by decide)) ?_
        clear hK K
        try simp only [Act.put, List.setIfInBounds_toArray, List.set_cons_zero, List.set_cons_succ]
        refine GoT.done (by kernel_rfl) ?_ _
        obtain ⟨wz, hwz⟩ : ∃ wz, wz = w6.setCell ⟨yq.lr, s, none⟩ (.slice A2 (mW + 1) c2) := ⟨_, rfl⟩
        rw [← hwz]
        have hto : DTo (more G w wq) B n yq.g (putAt ρ nb nd) wq wz (Sc.added s nb ⟨key, .int .u64 v, ch, true, 0⟩) := by
          rw [hwz]
          refine dput_added Dq.out (DOk.of OkS.out KkS.out.aln) (fun p hp => (OkS.out.pins p hp).2) NbS.out Hs.out B8.out (Nat.le_of_eq Hnd.out.symm) I8.out BL6.out (by rw [HmW.out]; simp) ?_
          have ho := OW6.out
          rw [HXS.out] at ho
          exact ho
        obtain ⟨yz, eyz, dz, cz⟩ := hto
        have Hpn : Hid (Calls Try.prog 89 #[.pointer (some ⟨y.g, 0, none⟩), .pointer (some ⟨nd, 0, none⟩)] wz fun e w' => e = .returned (.int .i64 (S.last + 1)) ∧ DTo G B n y.g (putAt ρ nb nd) w w' ((Sc.added s nb ⟨key, .int .u64 v, ch, true, 0⟩).pinned nb)) := hid (by
          have hit : (Sc.added s nb ⟨key, .int .u64 v, ch, true, 0⟩).it nb = ⟨key, .int .u64 v, ch, true, 0⟩ := upd_same _ _ _
          have := dpins_any nb dz (List.mem_append_right _ (List.mem_singleton.2 rfl)) (fun p hp => (OkS.out.pins p hp).1) OkS.out.last (by show Sc.last < _; rw [LastS.out]; exact Hl.out) (by rw [hit]; exact Int.le_refl 0) (by rw [hit]; exact OkS.out.last)
          rw [eyz, Eyq.out] at this
          rw [putAt_same] at this
          have e2 : (Sc.added s nb ⟨key, .int .u64 v, ch, true, 0⟩).last = S.last := LastS.out
          rw [e2] at this
          refine this.mono ?_
          rintro e w' ⟨k1, k2⟩
          exact ⟨k1, DTo.trans H.out.lt H.out.base (fun k hk => hk) Cq.out (DTo.trans Dq.out.lt Dq.out.base (fun k hk => hk) cz k2)⟩)
        clear hwz dz cz eyz q1 q3 lw6 g1 g3 lg1 lw1 e1 hWs
        go_wp2_with (go_at_call 89; refine Hpn.out.mono ?_; rintro e w9 ⟨rfl, hto9⟩; have Hto9 := hid hto9; clear hto9)
        refine HR.out _ _ ?_
        refine ⟨rfl, nd, ?_⟩
        rw [← HSc.out]
        exact Hto9.out
      · go_simp
        refine hK.out _ _ (fun _ => ⟨by go_simp, by go_simp⟩) ?_
        clear hK K
        try simp only [Act.put, List.setIfInBounds_toArray, List.set_cons_zero, List.set_cons_succ]
        refine GoT.all [13] (by kernel_rfl) rfl ?_
        refine AllT.cons (i := 13) rfl (fun K hK => ?_) AllT.nil
        refine step_append_rd _ rfl (.tmp 64) (.tmp 71) _ rfl w8.heap.size 134 i0 _ 1 8 Try.underlying127 hi0 hz0 hz1 hz2 rfl (by decide) (.slice (some ⟨w8.heap.size, 0, none⟩) 0 0) 0 [] rfl (own_drew (HE.out.alloc _)) w8.heap.size AW mW cW XS rfl ((Hrd.out.alloc (Nat.le_refl _) _).alloc (by simp) _) HX1.out (by simp only [maxLen]; omega) (by omega) (by simp; try omega) ?_
        intro v1 w5 hown5 hg5 hat5
        have hbl5 : Below w8.heap.size w8 w5 := bl_grown (Below.drew (bl_alloc (bl_alloc (Below.refl _ _) _) _)) hg5 (fun k hk => Nat.le_of_eq (Option.some.inj hk))
        obtain ⟨A1, c1, rfl, _⟩ := own_shape hown5
        rw [Nat.zero_add, List.nil_append] at hown5
        refine hK.out _ _ (fun _ => ⟨(bl_at hbl5 _ lg1).trans g1, (bl_at hbl5 _ lw1).trans g3⟩) ?_
        clear hK K
        try simp only [Act.put, List.setIfInBounds_toArray, List.set_cons_zero, List.set_cons_succ]
        simp only [Nat.zero_add]
        refine GoT.all [16] (by kernel_rfl) rfl ?_
        refine AllT.cons (i := 16) rfl (fun K hK => ?_) AllT.nil
        have hx5 : blkOf w5 (w8.heap.size + 1) = some (.cells #[.pointer (some ⟨nd, 0, none⟩)] 134 (0, 0)) := (gr_at hg5 (by first | (simp; done) | (simp; omega)) (fun e => by have e' : w8.heap.size = w8.heap.size + 1 := Option.some.inj e; omega)).trans (by go_simp)
        refine step_append_rd _ rfl (.tmp 72) (.tmp 74) _ rfl w8.heap.size 134 i0 _ 1 8 Try.underlying127 hi0 hz0 hz1 hz2 rfl (by decide) (.slice A1 mW c1) mW XS rfl hown5 (w8.heap.size + 1 + 1) (some ⟨w8.heap.size + 1, 0, none⟩) 1 1 [.pointer (some ⟨nd, 0, none⟩)] rfl (rd_blkc (xs := [.pointer (some ⟨nd, 0, none⟩)]) hx5 rfl) (by simp [Value.oneCell']) (by simp only [maxLen]; omega) (by omega) (by have := hbl5.size; simp; try omega) ?_
        intro v2 w6 hown6 hg6 hat6
        have hbl6 : Below w8.heap.size w8 w6 := bl_grown hbl5 hg6 (fun k hk => (hown5.lt k hk).1)
        obtain ⟨A2, c2, rfl, _⟩ := own_shape hown6
        have q1 := (bl_at hbl6 _ lg1).trans g1
        have q3 := (bl_at hbl6 _ lw1).trans g3
        have lw6 := Blk.lt q3
        refine hK.out _ _ (fun _ => ⟨q1, q3⟩) ?_
        clear hK K
        try simp only [Act.put, List.setIfInBounds_toArray, List.set_cons_zero, List.set_cons_succ]
        have OW6 := hid hown6; have BL6 := hid hbl6
        clear hown6 hbl6 hg6 hat6 hg5 hat5 hown5 hbl5
        refine GoT.take 17 (v := ?vtnb17) rfl (by kernel_rfl) (fun _ _ _ h => h) (Or.inl ⟨by rfl, ?ytnb17⟩) ?rtnb17
        case ytnb17 => (intro W hSw; (try dsimp only at hSw); go_simp; try with_reducible rfl)
        try simp only [Act.put, List.setIfInBounds_toArray, List.set_cons_zero, List.set_cons_succ]
        refine GoT.all [18] (by kernel_rfl) rfl ?_
        refine AllT.cons (i := 18) rfl (fun K hK => ?_) AllT.nil
        go_simp
        refine hK.out _ _ (fun h => absurd h (by decide)) ?_
        clear hK K
        try simp only [Act.put, List.setIfInBounds_toArray, List.set_cons_zero, List.set_cons_succ]
        refine GoT.done (by kernel_rfl) ?_ _
        obtain ⟨wz, hwz⟩ : ∃ wz, wz = w6.setCell ⟨yq.lr, s, none⟩ (.slice A2 (mW + 1) c2) := ⟨_, rfl⟩
        rw [← hwz]
        have hto : DTo (more G w wq) B n yq.g (putAt ρ nb nd) wq wz (Sc.added s nb ⟨key, .int .u64 v, ch, true, 0⟩) := by
          rw [hwz]
          refine dput_added Dq.out (DOk.of OkS.out KkS.out.aln) (fun p hp => (OkS.out.pins p hp).2) NbS.out Hs.out B8.out (Nat.le_of_eq Hnd.out.symm) I8.out BL6.out (by rw [HmW.out]; simp) ?_
          have ho := OW6.out
          rw [HXS.out] at ho
          exact ho
        obtain ⟨yz, eyz, dz, cz⟩ := hto
        have Hpn : Hid (Calls Try.prog 89 #[.pointer (some ⟨y.g, 0, none⟩), .pointer (some ⟨nd, 0, none⟩)] wz fun e w' => e = .returned (.int .i64 (S.last + 1)) ∧ DTo G B n y.g (putAt ρ nb nd) w w' ((Sc.added s nb ⟨key, .int .u64 v, ch, true, 0⟩).pinned nb)) := hid (by
          have hit : (Sc.added s nb ⟨key, .int .u64 v, ch, true, 0⟩).it nb = ⟨key, .int .u64 v, ch, true, 0⟩ := upd_same _ _ _
          have := dpins_any nb dz (List.mem_append_right _ (List.mem_singleton.2 rfl)) (fun p hp => (OkS.out.pins p hp).1) OkS.out.last (by show Sc.last < _; rw [LastS.out]; exact Hl.out) (by rw [hit]; exact Int.le_refl 0) (by rw [hit]; exact OkS.out.last)
          rw [eyz, Eyq.out] at this
          rw [putAt_same] at this
          have e2 : (Sc.added s nb ⟨key, .int .u64 v, ch, true, 0⟩).last = S.last := LastS.out
          rw [e2] at this
          refine this.mono ?_
          rintro e w' ⟨k1, k2⟩
          exact ⟨k1, DTo.trans H.out.lt H.out.base (fun k hk => hk) Cq.out (DTo.trans Dq.out.lt Dq.out.base (fun k hk => hk) cz k2)⟩)
        clear hwz dz cz eyz q1 q3 lw6 g1 g3 lg1 lw1 e1 hWs
        go_wp2_with (go_at_call 89; refine Hpn.out.mono ?_; rintro e w9 ⟨rfl, hto9⟩; have Hto9 := hid hto9; clear hto9)
        refine HR.out _ _ ?_
        refine ⟨rfl, nd, ?_⟩
        rw [← HSc.out]
        exact Hto9.out
    · go_simp
      refine hK.out _ _ (fun _ => ⟨by go_simp, by go_simp⟩) ?_
      clear hK K
      try simp only [Act.put, List.setIfInBounds_toArray, List.set_cons_zero, List.set_cons_succ]
      refine GoT.all [5] (by kernel_rfl) rfl ?_
      refine AllT.cons (i := 5) rfl (fun K hK => ?_) AllT.nil
      go_simp
      refine hK.out _ _ (fun _ => ⟨by go_simp, by go_simp⟩) ?_
      clear hK K
      try simp only [Act.put, List.setIfInBounds_toArray, List.set_cons_zero, List.set_cons_succ]
      refine GoT.all [13] (by kernel_rfl) rfl ?_
      refine AllT.cons (i := 13) rfl (fun K hK => ?_) AllT.nil
      have hE2 := World.ownsRow_made (e := 134) (size := 1) (w8.alloc (.cells #[.pointer (some ⟨nd, 0, none⟩)] 134)) #[] 0 (base := w8.heap.size) (by simp) (by simp [maxLen]) (by simp)
      rw [World.size_alloc] at hE2
      refine step_append_rd _ rfl (.tmp 64) (.tmp 71) _ rfl w8.heap.size 134 i0 _ 1 8 Try.underlying127 hi0 hz0 hz1 hz2 rfl (by decide) (.slice (some ⟨w8.heap.size + 1, 0, none⟩) 0 0) 0 [] rfl (own_drew hE2) w8.heap.size AW mW cW XS rfl ((Hrd.out.alloc (Nat.le_refl _) _).alloc (by simp) _) HX1.out (by simp only [maxLen]; omega) (by omega) (by simp; try omega) ?_
      intro v1 w5 hown5 hg5 hat5
      have hbl5 : Below w8.heap.size w8 w5 := bl_grown (Below.drew (bl_alloc (bl_alloc (Below.refl _ _) _) _)) hg5 (fun k hk => (by have e : w8.heap.size + 1 = k := Option.some.inj hk; omega))
      obtain ⟨A1, c1, rfl, _⟩ := own_shape hown5
      rw [Nat.zero_add, List.nil_append] at hown5
      refine hK.out _ _ (fun _ => ⟨(bl_at hbl5 _ lg1).trans g1, (bl_at hbl5 _ lw1).trans g3⟩) ?_
      clear hK K
      try simp only [Act.put, List.setIfInBounds_toArray, List.set_cons_zero, List.set_cons_succ]
      simp only [Nat.zero_add]
      refine GoT.all [16] (by kernel_rfl) rfl ?_
      refine AllT.cons (i := 16) rfl (fun K hK => ?_) AllT.nil
      have hx5 : blkOf w5 (w8.heap.size) = some (.cells #[.pointer (some ⟨nd, 0, none⟩)] 134 (0, 0)) := (gr_at hg5 (by first | (simp; done) | (simp; omega)) (fun e => by have e' : w8.heap.size + 1 = w8.heap.size := Option.some.inj e; omega)).trans (by go_simp)
      refine step_append_rd _ rfl (.tmp 72) (.tmp 74) _ rfl w8.heap.size 134 i0 _ 1 8 Try.underlying127 hi0 hz0 hz1 hz2 rfl (by decide) (.slice A1 mW c1) mW XS rfl hown5 (w8.heap.size + 1) (some ⟨w8.heap.size, 0, none⟩) 1 1 [.pointer (some ⟨nd, 0, none⟩)] rfl (rd_blkc (xs := [.pointer (some ⟨nd, 0, none⟩)]) hx5 rfl) (by simp [Value.oneCell']) (by simp only [maxLen]; omega) (by omega) (by have := hbl5.size; simp; try omega) ?_
      intro v2 w6 hown6 hg6 hat6
      have hbl6 : Below w8.heap.size w8 w6 := bl_grown hbl5 hg6 (fun k hk => (hown5.lt k hk).1)
      obtain ⟨A2, c2, rfl, _⟩ := own_shape hown6
      have q1 := (bl_at hbl6 _ lg1).trans g1
      have q3 := (bl_at hbl6 _ lw1).trans g3
      have lw6 := Blk.lt q3
      refine hK.out _ _ (fun _ => ⟨q1, q3⟩) ?_
      clear hK K
      try simp only [Act.put, List.setIfInBounds_toArray, List.set_cons_zero, List.set_cons_succ]
      have OW6 := hid hown6; have BL6 := hid hbl6
      clear hown6 hbl6 hg6 hat6 hg5 hat5 hown5 hbl5
      refine GoT.take 17 (v := ?vtnc17) rfl (by kernel_rfl) (fun _ _ _ h => h) (Or.inl ⟨by rfl, ?ytnc17⟩) ?rtnc17
      case ytnc17 => (intro W hSw; (try dsimp only at hSw); go_simp; try with_reducible rfl)
      try simp only [Act.put, List.setIfInBounds_toArray, List.set_cons_zero, List.set_cons_succ]
      refine GoT.all [18] (by kernel_rfl) rfl ?_
      refine AllT.cons (i := 18) rfl (fun K hK => ?_) AllT.nil
      go_simp
      refine hK.out _ _ (fun h => absurd h (by decide)) ?_
      clear hK K
      try simp only [Act.put, List.setIfInBounds_toArray, List.set_cons_zero, List.set_cons_succ]
      refine GoT.done (by kernel_rfl) ?_ _
      obtain ⟨wz, hwz⟩ : ∃ wz, wz = w6.setCell ⟨yq.lr, s, none⟩ (.slice A2 (mW + 1) c2) := ⟨_, rfl⟩
      rw [← hwz]
      have hto : DTo (more G w wq) B n yq.g (putAt ρ nb nd) wq wz (Sc.added s nb ⟨key, .int .u64 v, ch, true, 0⟩) := by
        rw [hwz]
        refine dput_added Dq.out (DOk.of OkS.out KkS.out.aln) (fun p hp => (OkS.out.pins p hp).2) NbS.out Hs.out B8.out (Nat.le_of_eq Hnd.out.symm) I8.out BL6.out (by rw [HmW.out]; simp) ?_
        have ho := OW6.out
        rw [HXS.out] at ho
        exact ho
      obtain ⟨yz, eyz, dz, cz⟩ := hto
      have Hpn : Hid (Calls Try.prog 89 #[.pointer (some ⟨y.g, 0, none⟩), .pointer (some ⟨nd, 0, none⟩)] wz fun e w' => e = .returned (.int .i64 (S.last + 1)) ∧ DTo G B n y.g (putAt ρ nb nd) w w' ((Sc.added s nb ⟨key, .int .u64 v, ch, true, 0⟩).pinned nb)) := hid (by
        have hit : (Sc.added s nb ⟨key, .int .u64 v, ch, true, 0⟩).it nb = ⟨key, .int .u64 v, ch, true, 0⟩ := upd_same _ _ _
        have := dpins_any nb dz (List.mem_append_right _ (List.mem_singleton.2 rfl)) (fun p hp => (OkS.out.pins p hp).1) OkS.out.last (by show Sc.last < _; rw [LastS.out]; exact Hl.out) (by rw [hit]; exact Int.le_refl 0) (by rw [hit]; exact OkS.out.last)
        rw [eyz, Eyq.out] at this
        rw [putAt_same] at this
        have e2 : (Sc.added s nb ⟨key, .int .u64 v, ch, true, 0⟩).last = S.last := LastS.out
        rw [e2] at this
        refine this.mono ?_
        rintro e w' ⟨k1, k2⟩
        exact ⟨k1, DTo.trans H.out.lt H.out.base (fun k hk => hk) Cq.out (DTo.trans Dq.out.lt Dq.out.base (fun k hk => hk) cz k2)⟩)
      clear hwz dz cz eyz q1 q3 lw6 g1 g3 lg1 lw1 e1 hWs
      go_wp2_with (go_at_call 89; refine Hpn.out.mono ?_; rintro e w9 ⟨rfl, hto9⟩; have Hto9 := hid hto9; clear hto9)
      refine HR.out _ _ ?_
      refine ⟨rfl, nd, ?_⟩
      rw [← HSc.out]
      exact Hto9.out
  | some bo =>
    have hin := Ok1.out.inm s Hs.out (key, bo) (by rw [turn_sh]; exact look_some hlk)
    have hbi := Ok1.out.al s Hs.out bo hin.1
    have hkey : ((S.turn s T I).it bo).key = key := hin.2.1
    have hcl : (S.turn s T I).clear s key = (S.turn s T I).outAt s bo := by unfold CS.clear; rw [turn_sh, hlk]
    obtain ⟨Sc, hSc⟩ : ∃ Sc, Sc = (S.turn s T I).clear s key := ⟨_, rfl⟩
    have HSc := hid hSc
    rw [hcl] at hSc
    have Hout : Hid (Calls Try.prog 88 #[.pointer (some ⟨y.g, 0, none⟩), .int .i64 s, .pointer (some ⟨ρ bo, 0, none⟩)] w4 fun e w' => e = .returned (.tuple #[]) ∧ DTo G B n y.g ρ w w' Sc) := hid (by
      have := dout_any s bo D4.out (DOk.of Ok1.out Kk1.out.aln) Hs.out hbi Hl.out
      rw [E3g.out] at this
      refine this.mono ?_
      rintro e w' ⟨k1, k2⟩
      refine ⟨k1, DTo.trans H.out.lt H.out.base (more_mono Hs34.out) C4.out ?_⟩
      rw [hSc]; exact k2)
    have OkS : Hid (COk n Sc) := hid (by rw [hSc]; exact Ok1.out.out Hs.out (by rw [hkey]; exact Hse.out.symm))
    have KkS : Hid (KOk n Sc) := hid (by rw [hSc]; exact Kk1.out.out Hs.out (by rw [hkey, turn_sh]; exact look_some hlk))
    have LastS : Hid (Sc.last = S.last) := hid (by rw [hSc]; rfl)
    have NbS : Hid (nb ∉ Sc.its) := hid (by rw [hSc]; exact Hnb.out)
    unfold ptrO
    clear hcl hSc hlk hin hbi hkey
    go_upto_region 10 with (go_at_call 88; refine Hout.out.mono ?_; rintro e wq ⟨rfl, hto⟩; have HQD := hid hto; clear hto)
    obtain ⟨yq, eyq, dq, cq⟩ := HQD.out
    have Dq := hid dq; have Eyq := hid eyq; have Cq := hid cq
    go_upto_region 11 with fail
    obtain ⟨nd, hnd⟩ : ∃ nd, nd = wq.heap.size := ⟨_, rfl⟩
    obtain ⟨w8, hw8⟩ : ∃ w8, w8 = wq.alloc (.cells #[.string key, .int .u64 v, .int .u64 ch, .bool true, .int .i64 0] 133) := ⟨_, rfl⟩
    rw [← hw8, ← hnd]
    have b8 : Below wq.heap.size wq w8 := by rw [hw8]; exact bl_alloc (Below.refl _ _) _
    have i8 : DItAt w8 nd ⟨key, .int .u64 v, ch, true, 0⟩ := by rw [hw8, hnd]; exact blk_new _ _
    have d8 := dq.below b8
    have Hnd := hid hnd; have B8 := hid b8; have I8 := hid i8
    have g1 := d8.blk
    rw [eyq] at g1
    have g3 := d8.lrow
    obtain ⟨WC, hWC⟩ : ∃ WC, WC = yq.lcells n Sc := ⟨_, rfl⟩
    rw [← hWC] at g3
    have k3 : WC[s]? = some (.slice (yq.la s) (Sc.sh s).al.length (yq.lc s)) := by
      have := d8.lcell Hs.out
      rw [d8.lrow, ← hWC] at this; exact this
    have hWs : s < WC.size := (Array.getElem?_eq_some_iff.1 k3).1
    have e1 : WC[s]'hWs = .slice (yq.la s) (Sc.sh s).al.length (yq.lc s) := by have := k3; rw [Array.getElem?_eq_getElem hWs] at this; exact Option.some.inj this
    have lg1 := Blk.lt g1
    have lw1 := Blk.lt g3
    have hrow := d8.L s Hs.out
    have hmN : (Sc.sh s).al.length ≤ 8796093022000 := by
      have h2 := (DOk.of OkS.out KkS.out.aln).len Hs.out
      rw [LastS.out] at h2
      have := Hl.out
      omega
    obtain ⟨AW, hAW⟩ : ∃ AW, AW = yq.la s := ⟨_, rfl⟩
    obtain ⟨mW, hmW⟩ : ∃ mW, mW = (Sc.sh s).al.length := ⟨_, rfl⟩
    obtain ⟨cW, hcW⟩ : ∃ cW, cW = yq.lc s := ⟨_, rfl⟩
    obtain ⟨XS, hXS⟩ : ∃ XS, XS = ptrs ((Sc.sh s).al.map ρ) := ⟨_, rfl⟩
    have HX1 : Hid (∀ u ∈ XS, u.oneCell' = true) := hid (by rw [hXS]; exact ptrs_one _)
    rw [← hAW, ← hmW, ← hcW, ← hXS] at hrow
    rw [← hAW, ← hmW, ← hcW] at e1
    rw [← hmW] at hmN
    have Hrd := hid (Rd.of_own hrow)
    have HmW := hid hmW; have HXS := hid hXS
    obtain ⟨i0, hi0, hz0, hz1, hz2⟩ := info_parts Try.info134c
    clear hWC k3 hAW hmW hcW hXS hrow hnd hw8 b8 i8 d8 dq eyq cq
    refine wp_region_T (fun W => blkOf W y.g = some (.cells #[.int .i64 n, .int .u64 Sc.room, .bool Sc.st, .slice (some ⟨yq.lr, 0, none⟩) n n, .slice (some ⟨yq.wr, 0, none⟩) n n, .slice yq.pa Sc.last.toNat yq.pc] 129 (0, 0)) ∧ blkOf W yq.lr = some (.cells WC 127 (0, 0))) 18 [] (by kernel_rfl) (by kernel_rfl) ⟨g1, g3⟩ ?_
    refine GoT.take 0 (v := ?vts0) rfl (by kernel_rfl) (fun _ _ _ h => h) (Or.inl ⟨by rfl, ?yts0⟩) ?rts0
    case yts0 => (intro W hSw; (try dsimp only at hSw); go_simp; try with_reducible rfl)
    try simp only [Act.put, List.setIfInBounds_toArray, List.set_cons_zero, List.set_cons_succ]
    refine GoT.take 1 (v := ?vts1) rfl (by kernel_rfl) (fun _ _ _ h => h) (Or.inl ⟨by rfl, ?yts1⟩) ?rts1
    case yts1 => (intro W hSw; (try dsimp only at hSw); go_simp; try with_reducible rfl)
    try simp only [Act.put, List.setIfInBounds_toArray, List.set_cons_zero, List.set_cons_succ]
    refine GoT.take 2 (v := ?vts2) rfl (by kernel_rfl) (fun _ _ _ h => h) (Or.inl ⟨by rfl, ?yts2⟩) ?rts2
    case yts2 => (intro W hSw; (try dsimp only at hSw); go_simp; try with_reducible rfl)
    try simp only [Act.put, List.setIfInBounds_toArray, List.set_cons_zero, List.set_cons_succ]
    refine GoT.take 3 (v := ?vts3) rfl (by kernel_rfl) (fun _ _ _ h => h) (Or.inl ⟨by rfl, ?yts3⟩) ?rts3
    case yts3 => (intro W hSw; (try dsimp only at hSw); go_simp; try with_reducible rfl)
    try simp only [Act.put, List.setIfInBounds_toArray, List.set_cons_zero, List.set_cons_succ]
    refine GoT.take 4 (v := ?vts4) rfl (by kernel_rfl) (fun _ _ _ h => h) (Or.inl ⟨by rfl, ?yts4⟩) ?rts4
    case yts4 => (intro W hSw; (try dsimp only at hSw); go_simp; try with_reducible rfl)
    try simp only [Act.put, List.setIfInBounds_toArray, List.set_cons_zero, List.set_cons_succ]
    refine GoT.take 6 (v := ?vts6) rfl (by kernel_rfl) (fun _ _ _ h => h) (Or.inl ⟨by rfl, ?yts6⟩) ?rts6
    case yts6 => (intro W hSw; (try dsimp only at hSw); go_simp; try with_reducible rfl)
    try simp only [Act.put, List.setIfInBounds_toArray, List.set_cons_zero, List.set_cons_succ]
    refine GoT.take 7 (v := ?vts7) rfl (by kernel_rfl) (fun _ _ _ h => h) (Or.inl ⟨by rfl, ?yts7⟩) ?rts7
    case yts7 => (intro W hSw; (try dsimp only at hSw); go_simp; try with_reducible rfl)
    try simp only [Act.put, List.setIfInBounds_toArray, List.set_cons_zero, List.set_cons_succ]
    refine GoT.take 8 (v := ?vts8) rfl (by kernel_rfl) (fun _ _ _ h => h) (Or.inl ⟨by rfl, ?yts8⟩) ?rts8
    case yts8 => (intro W hSw; (try dsimp only at hSw); go_simp; try with_reducible rfl)
    try simp only [Act.put, List.setIfInBounds_toArray, List.set_cons_zero, List.set_cons_succ]
    refine GoT.take 9 (v := ?vts9) rfl (by kernel_rfl) (fun _ _ _ h => h) (Or.inl ⟨by rfl, ?yts9⟩) ?rts9
    case yts9 => (intro W hSw; (try dsimp only at hSw); go_simp; try with_reducible rfl)
    try simp only [Act.put, List.setIfInBounds_toArray, List.set_cons_zero, List.set_cons_succ]
    refine GoT.take 10 (v := ?vts10) rfl (by kernel_rfl) (fun _ _ _ h => h) (Or.inl ⟨by rfl, ?yts10⟩) ?rts10
    case yts10 => (intro W hSw; (try dsimp only at hSw); go_simp; try with_reducible rfl)
    try simp only [Act.put, List.setIfInBounds_toArray, List.set_cons_zero, List.set_cons_succ]
    refine GoT.take 11 (v := ?vts11) rfl (by kernel_rfl) (fun _ _ _ h => h) (Or.inl ⟨by rfl, ?yts11⟩) ?rts11
    case yts11 => (intro W hSw; (try dsimp only at hSw); go_simp; try with_reducible rfl)
    try simp only [Act.put, List.setIfInBounds_toArray, List.set_cons_zero, List.set_cons_succ]
    refine GoT.take 12 (v := ?vts12) rfl (by kernel_rfl) (fun _ _ _ h => h) (Or.inl ⟨by rfl, ?yts12⟩) ?rts12
    case yts12 => (intro W hSw; (try dsimp only at hSw); go_simp; try with_reducible rfl)
    try simp only [Act.put, List.setIfInBounds_toArray, List.set_cons_zero, List.set_cons_succ]
    refine GoT.take 14 (v := ?vts14) rfl (by kernel_rfl) (fun _ _ _ h => h) (Or.inl ⟨by rfl, ?yts14⟩) ?rts14
    case yts14 => (intro W hSw; (try dsimp only at hSw); go_simp; try with_reducible rfl)
    try simp only [Act.put, List.setIfInBounds_toArray, List.set_cons_zero, List.set_cons_succ]
    have hE := World.ownsRow_made (e := 134) (size := 1) w8 #[] 0 (base := w8.heap.size) (Nat.le_refl _) (by simp [maxLen]) (by simp)
    have HE := hid hE
    clear hE
    refine GoT.all [5, 15] (by kernel_rfl) rfl ?_
    refine AllT.cons (i := 5) rfl (fun K hK => ?_) (AllT.cons (i := 15) rfl (fun K hK => ?_) AllT.nil)
    · go_simp
      refine hK.out _ _ (fun _ => ⟨by go_simp, by go_simp⟩) ?_
      clear hK K
      try simp only [Act.put, List.setIfInBounds_toArray, List.set_cons_zero, List.set_cons_succ]
      refine GoT.all [13, 15] (by kernel_rfl) rfl ?_
      refine AllT.cons (i := 13) rfl (fun K hK => ?_) (AllT.cons (i := 15) rfl (fun K hK => ?_) AllT.nil)
      · refine step_append_rd _ rfl (.tmp 64) (.tmp 71) _ rfl w8.heap.size 134 i0 _ 1 8 Try.underlying127 hi0 hz0 hz1 hz2 rfl (by decide) (.slice (some ⟨w8.heap.size, 0, none⟩) 0 0) 0 [] rfl (own_drew HE.out) w8.heap.size AW mW cW XS rfl (Hrd.out.alloc (Nat.le_refl _) _) HX1.out (by simp only [maxLen]; omega) (by omega) (by simp; try omega) ?_
        intro v1 w5 hown5 hg5 hat5
        have hbl5 : Below w8.heap.size w8 w5 := bl_grown (Below.drew (bl_alloc (Below.refl _ _) _)) hg5 (fun k hk => Nat.le_of_eq (Option.some.inj hk))
        obtain ⟨A1, c1, rfl, _⟩ := own_shape hown5
        rw [Nat.zero_add, List.nil_append] at hown5
        refine hK.out _ _ (fun _ => ⟨(bl_at hbl5 _ lg1).trans g1, (bl_at hbl5 _ lw1).trans g3⟩) ?_
        clear hK K
        try simp only [Act.put, List.setIfInBounds_toArray, List.set_cons_zero, List.set_cons_succ]
        simp only [Nat.zero_add]
        refine GoT.all [15] (by kernel_rfl) rfl ?_
        refine AllT.cons (i := 15) rfl (fun K hK => ?_) AllT.nil
        go_simp
        refine hK.out _ _ (fun _ => ⟨(bl_at (bl_alloc hbl5 _) _ lg1).trans g1, (bl_at (bl_alloc hbl5 _) _ lw1).trans g3⟩) ?_
        clear hK K
        try simp only [Act.put, List.setIfInBounds_toArray, List.set_cons_zero, List.set_cons_succ]
        refine GoT.all [16] (by kernel_rfl) rfl ?_
        refine AllT.cons (i := 16) rfl (fun K hK => ?_) AllT.nil
        refine step_append_rd _ rfl (.tmp 72) (.tmp 74) _ rfl w8.heap.size 134 i0 _ 1 8 Try.underlying127 hi0 hz0 hz1 hz2 rfl (by decide) (.slice A1 mW c1) mW XS rfl (hown5.alloc _) (w5.heap.size + 1) (some ⟨w5.heap.size, 0, none⟩) 1 1 [.pointer (some ⟨nd, 0, none⟩)] rfl (rd_new w5 134 1 1 [.pointer (some ⟨nd, 0, none⟩)] rfl) (by simp [Value.oneCell']) (by simp only [maxLen]; omega) (by omega) (by have := hbl5.size; simp; try omega) ?_
        intro v2 w6 hown6 hg6 hat6
        have hbl6 : Below w8.heap.size w8 w6 := bl_grown (bl_alloc hbl5 _) hg6 (fun k hk => (hown5.lt k hk).1)
        obtain ⟨A2, c2, rfl, _⟩ := own_shape hown6
        have q1 := (bl_at hbl6 _ lg1).trans g1
        have q3 := (bl_at hbl6 _ lw1).trans g3
        have lw6 := Blk.lt q3
        refine hK.out _ _ (fun _ => ⟨q1, q3⟩) ?_
        clear hK K
        try simp only [Act.put, List.setIfInBounds_toArray, List.set_cons_zero, List.set_cons_succ]
        have OW6 := hid hown6; have BL6 := hid hbl6
        clear hown6 hbl6 hg6 hat6 hg5 hat5 hown5 hbl5
        refine GoT.take 17 (v := ?vtsa17) rfl (by kernel_rfl) (fun _ _ _ h => h) (Or.inl ⟨by rfl, ?ytsa17⟩) ?rtsa17
        case ytsa17 => (intro W hSw; (try dsimp only at hSw); go_simp; try with_reducible rfl)
        try simp only [Act.put, List.setIfInBounds_toArray, List.set_cons_zero, List.set_cons_succ]
        refine GoT.all [18] (by kernel_rfl) rfl ?_
        refine AllT.cons (i := 18) rfl (fun K hK => ?_) AllT.nil
        go_simp
        refine hK.out _ _ (fun h => absurd h (by decide)) ?_
        clear hK K
        try simp only [Act.put, List.setIfInBounds_toArray, List.set_cons_zero, List.set_cons_succ]
        refine GoT.done (by kernel_rfl) ?_ _
        obtain ⟨wz, hwz⟩ : ∃ wz, wz = w6.setCell ⟨yq.lr, s, none⟩ (.slice A2 (mW + 1) c2) := ⟨_, rfl⟩
        rw [← hwz]
        have hto : DTo (more G w wq) B n yq.g (putAt ρ nb nd) wq wz (Sc.added s nb ⟨key, .int .u64 v, ch, true, 0⟩) := by
          rw [hwz]
          refine dput_added Dq.out (DOk.of OkS.out KkS.out.aln) (fun p hp => (OkS.out.pins p hp).2) NbS.out Hs.out B8.out (Nat.le_of_eq Hnd.out.symm) I8.out BL6.out (by rw [HmW.out]; simp) ?_
          have ho := OW6.out
          rw [HXS.out] at ho
          exact ho
        obtain ⟨yz, eyz, dz, cz⟩ := hto
        have Hpn : Hid (Calls Try.prog 89 #[.pointer (some ⟨y.g, 0, none⟩), .pointer (some ⟨nd, 0, none⟩)] wz fun e w' => e = .returned (.int .i64 (S.last + 1)) ∧ DTo G B n y.g (putAt ρ nb nd) w w' ((Sc.added s nb ⟨key, .int .u64 v, ch, true, 0⟩).pinned nb)) := hid (by
          have hit : (Sc.added s nb ⟨key, .int .u64 v, ch, true, 0⟩).it nb = ⟨key, .int .u64 v, ch, true, 0⟩ := upd_same _ _ _
          have := dpins_any nb dz (List.mem_append_right _ (List.mem_singleton.2 rfl)) (fun p hp => (OkS.out.pins p hp).1) OkS.out.last (by show Sc.last < _; rw [LastS.out]; exact Hl.out) (by rw [hit]; exact Int.le_refl 0) (by rw [hit]; exact OkS.out.last)
          rw [eyz, Eyq.out] at this
          rw [putAt_same] at this
          have e2 : (Sc.added s nb ⟨key, .int .u64 v, ch, true, 0⟩).last = S.last := LastS.out
          rw [e2] at this
          refine this.mono ?_
          rintro e w' ⟨k1, k2⟩
          exact ⟨k1, DTo.trans H.out.lt H.out.base (fun k hk => hk) Cq.out (DTo.trans Dq.out.lt Dq.out.base (fun k hk => hk) cz k2)⟩)
        clear hwz dz cz eyz q1 q3 lw6 g1 g3 lg1 lw1 e1 hWs
        go_wp2_with (go_at_call 89; refine Hpn.out.mono ?_; rintro e w9 ⟨rfl, hto9⟩; have Hto9 := hid hto9; clear hto9)
        refine HR.out _ _ ?_
        refine ⟨rfl, nd, ?_⟩
        rw [← HSc.out]
        exact Hto9.out
      · go_simp
        refine hK.out _ _ (fun _ => ⟨by go_simp, by go_simp⟩) ?_
        clear hK K
        try simp only [Act.put, List.setIfInBounds_toArray, List.set_cons_zero, List.set_cons_succ]
        refine GoT.all [13] (by kernel_rfl) rfl ?_
        refine AllT.cons (i := 13) rfl (fun K hK => ?_) AllT.nil
        refine step_append_rd _ rfl (.tmp 64) (.tmp 71) _ rfl w8.heap.size 134 i0 _ 1 8 Try.underlying127 hi0 hz0 hz1 hz2 rfl (by decide) (.slice (some ⟨w8.heap.size, 0, none⟩) 0 0) 0 [] rfl (own_drew (HE.out.alloc _)) w8.heap.size AW mW cW XS rfl ((Hrd.out.alloc (Nat.le_refl _) _).alloc (by simp) _) HX1.out (by simp only [maxLen]; omega) (by omega) (by simp; try omega) ?_
        intro v1 w5 hown5 hg5 hat5
        have hbl5 : Below w8.heap.size w8 w5 := bl_grown (Below.drew (bl_alloc (bl_alloc (Below.refl _ _) _) _)) hg5 (fun k hk => Nat.le_of_eq (Option.some.inj hk))
        obtain ⟨A1, c1, rfl, _⟩ := own_shape hown5
        rw [Nat.zero_add, List.nil_append] at hown5
        refine hK.out _ _ (fun _ => ⟨(bl_at hbl5 _ lg1).trans g1, (bl_at hbl5 _ lw1).trans g3⟩) ?_
        clear hK K
        try simp only [Act.put, List.setIfInBounds_toArray, List.set_cons_zero, List.set_cons_succ]
        simp only [Nat.zero_add]
        refine GoT.all [16] (by kernel_rfl) rfl ?_
        refine AllT.cons (i := 16) rfl (fun K hK => ?_) AllT.nil
        have hx5 : blkOf w5 (w8.heap.size + 1) = some (.cells #[.pointer (some ⟨nd, 0, none⟩)] 134 (0, 0)) := (gr_at hg5 (by first | (simp; done) | (simp; omega)) (fun e => by have e' : w8.heap.size = w8.heap.size + 1 := Option.some.inj e; omega)).trans (by go_simp)
        refine step_append_rd _ rfl (.tmp 72) (.tmp 74) _ rfl w8.heap.size 134 i0 _ 1 8 Try.underlying127 hi0 hz0 hz1 hz2 rfl (by decide) (.slice A1 mW c1) mW XS rfl hown5 (w8.heap.size + 1 + 1) (some ⟨w8.heap.size + 1, 0, none⟩) 1 1 [.pointer (some ⟨nd, 0, none⟩)] rfl (rd_blkc (xs := [.pointer (some ⟨nd, 0, none⟩)]) hx5 rfl) (by simp [Value.oneCell']) (by simp only [maxLen]; omega) (by omega) (by have := hbl5.size; simp; try omega) ?_
        intro v2 w6 hown6 hg6 hat6
        have hbl6 : Below w8.heap.size w8 w6 := bl_grown hbl5 hg6 (fun k hk => (hown5.lt k hk).1)
        obtain ⟨A2, c2, rfl, _⟩ := own_shape hown6
        have q1 := (bl_at hbl6 _ lg1).trans g1
        have q3 := (bl_at hbl6 _ lw1).trans g3
        have lw6 := Blk.lt q3
        refine hK.out _ _ (fun _ => ⟨q1, q3⟩) ?_
        clear hK K
        try simp only [Act.put, List.setIfInBounds_toArray, List.set_cons_zero, List.set_cons_succ]
        have OW6 := hid hown6; have BL6 := hid hbl6
        clear hown6 hbl6 hg6 hat6 hg5 hat5 hown5 hbl5
        refine GoT.take 17 (v := ?vtsb17) rfl (by kernel_rfl) (fun _ _ _ h => h) (Or.inl ⟨by rfl, ?ytsb17⟩) ?rtsb17
        case ytsb17 => (intro W hSw; (try dsimp only at hSw); go_simp; try with_reducible rfl)
        try simp only [Act.put, List.setIfInBounds_toArray, List.set_cons_zero, List.set_cons_succ]
        refine GoT.all [18] (by kernel_rfl) rfl ?_
        refine AllT.cons (i := 18) rfl (fun K hK => ?_) AllT.nil
        go_simp
        refine hK.out _ _ (fun h => absurd h (by decide)) ?_
        clear hK K
        try simp only [Act.put, List.setIfInBounds_toArray, List.set_cons_zero, List.set_cons_succ]
        refine GoT.done (by kernel_rfl) ?_ _
        obtain ⟨wz, hwz⟩ : ∃ wz, wz = w6.setCell ⟨yq.lr, s, none⟩ (.slice A2 (mW + 1) c2) := ⟨_, rfl⟩
        rw [← hwz]
        have hto : DTo (more G w wq) B n yq.g (putAt ρ nb nd) wq wz (Sc.added s nb ⟨key, .int .u64 v, ch, true, 0⟩) := by
          rw [hwz]
          refine dput_added Dq.out (DOk.of OkS.out KkS.out.aln) (fun p hp => (OkS.out.pins p hp).2) NbS.out Hs.out B8.out (Nat.le_of_eq Hnd.out.symm) I8.out BL6.out (by rw [HmW.out]; simp) ?_
          have ho := OW6.out
          rw [HXS.out] at ho
          exact ho
        obtain ⟨yz, eyz, dz, cz⟩ := hto
        have Hpn : Hid (Calls Try.prog 89 #[.pointer (some ⟨y.g, 0, none⟩), .pointer (some ⟨nd, 0, none⟩)] wz fun e w' => e = .returned (.int .i64 (S.last + 1)) ∧ DTo G B n y.g (putAt ρ nb nd) w w' ((Sc.added s nb ⟨key, .int .u64 v, ch, true, 0⟩).pinned nb)) := hid (by
          have hit : (Sc.added s nb ⟨key, .int .u64 v, ch, true, 0⟩).it nb = ⟨key, .int .u64 v, ch, true, 0⟩ := upd_same _ _ _
          have := dpins_any nb dz (List.mem_append_right _ (List.mem_singleton.2 rfl)) (fun p hp => (OkS.out.pins p hp).1) OkS.out.last (by show Sc.last < _; rw [LastS.out]; exact Hl.out) (by rw [hit]; exact Int.le_refl 0) (by rw [hit]; exact OkS.out.last)
          rw [eyz, Eyq.out] at this
          rw [putAt_same] at this
          have e2 : (Sc.added s nb ⟨key, .int .u64 v, ch, true, 0⟩).last = S.last := LastS.out
          rw [e2] at this
          refine this.mono ?_
          rintro e w' ⟨k1, k2⟩
          exact ⟨k1, DTo.trans H.out.lt H.out.base (fun k hk => hk) Cq.out (DTo.trans Dq.out.lt Dq.out.base (fun k hk => hk) cz k2)⟩)
        clear hwz dz cz eyz q1 q3 lw6 g1 g3 lg1 lw1 e1 hWs
        go_wp2_with (go_at_call 89; refine Hpn.out.mono ?_; rintro e w9 ⟨rfl, hto9⟩; have Hto9 := hid hto9; clear hto9)
        refine HR.out _ _ ?_
        refine ⟨rfl, nd, ?_⟩
        rw [← HSc.out]
        exact Hto9.out
    · go_simp
      refine hK.out _ _ (fun _ => ⟨by go_simp, by go_simp⟩) ?_
      clear hK K
      try simp only [Act.put, List.setIfInBounds_toArray, List.set_cons_zero, List.set_cons_succ]
      refine GoT.all [5] (by kernel_rfl) rfl ?_
      refine AllT.cons (i := 5) rfl (fun K hK => ?_) AllT.nil
      go_simp
      refine hK.out _ _ (fun _ => ⟨by go_simp, by go_simp⟩) ?_
      clear hK K
      try simp only [Act.put, List.setIfInBounds_toArray, List.set_cons_zero, List.set_cons_succ]
      refine GoT.all [13] (by kernel_rfl) rfl ?_
      refine AllT.cons (i := 13) rfl (fun K hK => ?_) AllT.nil
      have hE2 := World.ownsRow_made (e := 134) (size := 1) (w8.alloc (.cells #[.pointer (some ⟨nd, 0, none⟩)] 134)) #[] 0 (base := w8.heap.size) (by simp) (by simp [maxLen]) (by simp)
      rw [World.size_alloc] at hE2
      refine step_append_rd _ rfl (.tmp 64) (.tmp 71) _ rfl w8.heap.size 134 i0 _ 1 8 Try.underlying127 hi0 hz0 hz1 hz2 rfl (by decide) (.slice (some ⟨w8.heap.size + 1, 0, none⟩) 0 0) 0 [] rfl (own_drew hE2) w8.heap.size AW mW cW XS rfl ((Hrd.out.alloc (Nat.le_refl _) _).alloc (by simp) _) HX1.out (by simp only [maxLen]; omega) (by omega) (by simp; try omega) ?_
      intro v1 w5 hown5 hg5 hat5
      have hbl5 : Below w8.heap.size w8 w5 := bl_grown (Below.drew (bl_alloc (bl_alloc (Below.refl _ _) _) _)) hg5 (fun k hk => (by have e : w8.heap.size + 1 = k := Option.some.inj hk; omega))
      obtain ⟨A1, c1, rfl, _⟩ := own_shape hown5
      rw [Nat.zero_add, List.nil_append] at hown5
      refine hK.out _ _ (fun _ => ⟨(bl_at hbl5 _ lg1).trans g1, (bl_at hbl5 _ lw1).trans g3⟩) ?_
      clear hK K
      try simp only [Act.put, List.setIfInBounds_toArray, List.set_cons_zero, List.set_cons_succ]
      simp only [Nat.zero_add]
      refine GoT.all [16] (by kernel_rfl) rfl ?_
      refine AllT.cons (i := 16) rfl (fun K hK => ?_) AllT.nil
      have hx5 : blkOf w5 (w8.heap.size) = some (.cells #[.pointer (some ⟨nd, 0, none⟩)] 134 (0, 0)) := (gr_at hg5 (by first | (simp; done) | (simp; omega)) (fun e => by have e' : w8.heap.size + 1 = w8.heap.size := Option.some.inj e; omega)).trans (by go_simp)
      refine step_append_rd _ rfl (.tmp 72) (.tmp 74) _ rfl w8.heap.size 134 i0 _ 1 8 Try.underlying127 hi0 hz0 hz1 hz2 rfl (by decide) (.slice A1 mW c1) mW XS rfl hown5 (w8.heap.size + 1) (some ⟨w8.heap.size, 0, none⟩) 1 1 [.pointer (some ⟨nd, 0, none⟩)] rfl (rd_blkc (xs := [.pointer (some ⟨nd, 0, none⟩)]) hx5 rfl) (by simp [Value.oneCell']) (by simp only [maxLen]; omega) (by omega) (by have := hbl5.size; simp; try omega) ?_
      intro v2 w6 hown6 hg6 hat6
      have hbl6 : Below w8.heap.size w8 w6 := bl_grown hbl5 hg6 (fun k hk => (hown5.lt k hk).1)
      obtain ⟨A2, c2, rfl, _⟩ := own_shape hown6
      have q1 := (bl_at hbl6 _ lg1).trans g1
      have q3 := (bl_at hbl6 _ lw1).trans g3
      have lw6 := Blk.lt q3
      refine hK.out _ _ (fun _ => ⟨q1, q3⟩) ?_
      clear hK K
      try simp only [Act.put, List.setIfInBounds_toArray, List.set_cons_zero, List.set_cons_succ]
      have OW6 := hid hown6; have BL6 := hid hbl6
      clear hown6 hbl6 hg6 hat6 hg5 hat5 hown5 hbl5
      refine GoT.take 17 (v := ?vtsc17) rfl (by kernel_rfl) (fun _ _ _ h => h) (Or.inl ⟨by rfl, ?ytsc17⟩) ?rtsc17
      case ytsc17 => (intro W hSw; (try dsimp only at hSw); go_simp; try with_reducible rfl)
      try simp only [Act.put, List.setIfInBounds_toArray, List.set_cons_zero, List.set_cons_succ]
      refine GoT.all [18] (by kernel_rfl) rfl ?_
      refine AllT.cons (i := 18) rfl (fun K hK => ?_) AllT.nil
      go_simp
      refine hK.out _ _ (fun h => absurd h (by decide)) ?_
      clear hK K
      try simp only [Act.put, List.setIfInBounds_toArray, List.set_cons_zero, List.set_cons_succ]
      refine GoT.done (by kernel_rfl) ?_ _
      obtain ⟨wz, hwz⟩ : ∃ wz, wz = w6.setCell ⟨yq.lr, s, none⟩ (.slice A2 (mW + 1) c2) := ⟨_, rfl⟩
      rw [← hwz]
      have hto : DTo (more G w wq) B n yq.g (putAt ρ nb nd) wq wz (Sc.added s nb ⟨key, .int .u64 v, ch, true, 0⟩) := by
        rw [hwz]
        refine dput_added Dq.out (DOk.of OkS.out KkS.out.aln) (fun p hp => (OkS.out.pins p hp).2) NbS.out Hs.out B8.out (Nat.le_of_eq Hnd.out.symm) I8.out BL6.out (by rw [HmW.out]; simp) ?_
        have ho := OW6.out
        rw [HXS.out] at ho
        exact ho
      obtain ⟨yz, eyz, dz, cz⟩ := hto
      have Hpn : Hid (Calls Try.prog 89 #[.pointer (some ⟨y.g, 0, none⟩), .pointer (some ⟨nd, 0, none⟩)] wz fun e w' => e = .returned (.int .i64 (S.last + 1)) ∧ DTo G B n y.g (putAt ρ nb nd) w w' ((Sc.added s nb ⟨key, .int .u64 v, ch, true, 0⟩).pinned nb)) := hid (by
        have hit : (Sc.added s nb ⟨key, .int .u64 v, ch, true, 0⟩).it nb = ⟨key, .int .u64 v, ch, true, 0⟩ := upd_same _ _ _
        have := dpins_any nb dz (List.mem_append_right _ (List.mem_singleton.2 rfl)) (fun p hp => (OkS.out.pins p hp).1) OkS.out.last (by show Sc.last < _; rw [LastS.out]; exact Hl.out) (by rw [hit]; exact Int.le_refl 0) (by rw [hit]; exact OkS.out.last)
        rw [eyz, Eyq.out] at this
        rw [putAt_same] at this
        have e2 : (Sc.added s nb ⟨key, .int .u64 v, ch, true, 0⟩).last = S.last := LastS.out
        rw [e2] at this
        refine this.mono ?_
        rintro e w' ⟨k1, k2⟩
        exact ⟨k1, DTo.trans H.out.lt H.out.base (fun k hk => hk) Cq.out (DTo.trans Dq.out.lt Dq.out.base (fun k hk => hk) cz k2)⟩)
      clear hwz dz cz eyz q1 q3 lw6 g1 g3 lg1 lw1 e1 hWs
      go_wp2_with (go_at_call 89; refine Hpn.out.mono ?_; rintro e w9 ⟨rfl, hto9⟩; have Hto9 := hid hto9; clear hto9)
      refine HR.out _ _ ?_
      refine ⟨rfl, nd, ?_⟩
      rw [← HSc.out]
      exact Hto9.out
set_option maxHeartbeats 6400000 in
theorem dput_free (key : ByteArray) (v ch : Int) (T : Sh) (I : Nat → It) (nb : Nat) (h : DAt G B w n y S ρ) (ok : COk n S) (kk : KOk n S) (h0 : 0 < n) (h1 : n ≤ 64) (hk : key.size ≤ 1024) (hch : 0 ≤ ch ∧ ch ≤ 18446744073709551615) (hl : S.last < 8796093022000)
    (hmd : Made ch (S.room / n) (S.sh (sidx n key)) S.it T I) (hnb : nb ∉ S.its) (hst : S.st = false) :
    Calls Try.prog 65 #[.pointer (some ⟨y.g, 0, none⟩), .string key, .int .u64 v, .int .u64 ch] w fun e w' => e = .returned (.tuple #[.int .i64 (S.last + 1), .int .i64 0]) ∧ ∃ nd, DTo G B n y.g (putAt ρ nb nd) w w' ((((S.turn (sidx n key) T I).clear (sidx n key) key).added (sidx n key) nb ⟨key, .int .u64 v, ch, true, 0⟩).pinned nb) := by
  refine calls_of fun R HR => ?_
  have hs := sidx_lt h0 key
  have hkm : key.size ≤ maxLen := by simp only [maxLen]; omega
  have hkN : ¬ (1024 : Int) < (key.size : Int) := by omega
  have Hsh := hid (dshard_any y.g key n _ w h.blk rfl h0 h1 hkm)
  have Hmk := hid (dmakes_any (sidx n key) ch h ok kk.aln hs h1 hch hl hmd)
  have ok1 := ok.madeAt hs hmd
  have kk1 := kk.madeAt ok hs hmd
  obtain ⟨s, hse⟩ : ∃ s, s = sidx n key := ⟨_, rfl⟩
  rw [← hse] at Hsh Hmk ok1 kk1 hs HR
  have hr0 := ok.room
  have H := hid h; have Hl := hid hl; have Hse := hid hse; have Ok1 := hid ok1; have Kk1 := hid kk1; have Hs := hid hs; have Hnb := hid hnb
  have hs0 : (0 : Int) ≤ (s : Int) := Int.natCast_nonneg _
  have hs1 : (s : Int) < (n : Int) := by omega
  have hn0 : (0 : Int) < (n : Int) := by omega
  have hnw : IntKind.u64.wrap (n : Int) = (n : Int) := by unfold IntKind.wrap; simp [IntKind.bits, IntKind.signed]; omega
  have hnz : ((n : Int) == 0) = false := by rw [beq_eq_false_iff_ne]; omega
  have hch0 := chs_nonneg (Ok1.out.ok s hs).ch
  rw [turn_sh] at hch0
  have hcu : 0 ≤ usedOf T I ∧ usedOf T I ≤ 18446744073709551615 := cap_range hch0
  clear h ok kk hl hse ok1 kk1 hnb hmd hch0
  go_enter Try.func65, Try.ntmps65
  go_upto_region 5 with (first
    | (go_at_call 84; refine Hmk.out.mono ?_; rintro e w3 ⟨rfl, hto⟩; have Hto := hid hto; clear hto)
    | (go_at_call 37; refine Hsh.out.mono ?_; rintro e w9 ⟨rfl, hw9⟩; obtain rfl := hw9.symm))
  obtain ⟨y3, e3g, d3, c3⟩ := Hto.out
  have b3 := d3.blk
  rw [e3g] at b3
  have lg3 := Blk.lt b3
  have D3 := hid d3; have E3g := hid e3g; have C3 := hid c3
  have Hf : Hid (∀ m, Calls Try.prog 87 #[.pointer (some ⟨y.g, 0, none⟩), .string key] (w3.drewN m) fun e w' => e = .returned (ptrO ρ (look T.inm key)) ∧ Below w3.heap.size w3 w') := hid (fun m => by
    have := dfind_any key (d3.below (bl_drewN (Below.refl _ _) m)) (DOk.of Ok1.out Kk1.out.aln) h0 h1 hkm Hl.out
    rw [← Hse.out, fnd_look Ok1.out Kk1.out Hs.out, e3g, turn_sh] at this
    refine this.mono ?_
    rintro e w' ⟨h1, m2, rfl⟩
    exact ⟨h1, bl_drewN (bl_drewN (Below.refl _ _) m) m2⟩)
  clear d3 e3g c3
  have hst3 : (S.turn s T I).st = false := hst
  rw [hst3] at b3
  have Hst := hid hst
  clear hst3 hst
  go_quiet (fail)
  go_upto_region 7 with fail
  go_wp2_with fail
  refine (Hf.out _).mono ?_
  rintro e w4 ⟨rfl, hb4⟩
  have d4 := D3.out.below hb4
  have C4 : Hid (Chg G w w4) := hid (C3.out.below hb4)
  have D4 := hid d4; have Hs34 := hid hb4.size
  clear d4 hb4
  cases hlk : look T.inm key with
  | none =>
    have hcl : (S.turn s T I).clear s key = S.turn s T I := by unfold CS.clear; rw [turn_sh, hlk]
    obtain ⟨wq, hwq⟩ : ∃ wq, wq = w4 := ⟨_, rfl⟩
    obtain ⟨Sc, hSc⟩ : ∃ Sc, Sc = (S.turn s T I).clear s key := ⟨_, rfl⟩
    have HSc := hid hSc
    rw [hcl] at hSc
    have HQD : Hid (DTo G B n y.g ρ w wq Sc) := hid (by
      rw [hSc, hwq]
      exact DTo.trans H.out.lt H.out.base (more_mono Hs34.out) C4.out (by have := DTo.refl D4.out; rw [E3g.out] at this; exact this))
    have OkS : Hid (COk n Sc) := hid (by rw [hSc]; exact Ok1.out)
    have KkS : Hid (KOk n Sc) := hid (by rw [hSc]; exact Kk1.out)
    have LastS : Hid (Sc.last = S.last) := hid (by rw [hSc]; rfl)
    have NbS : Hid (nb ∉ Sc.its) := hid (by rw [hSc]; exact Hnb.out)
    rw [← hwq]
    unfold ptrO
    clear hcl hSc hlk hwq
    obtain ⟨yq, eyq, dq, cq⟩ := HQD.out
    have Dq := hid dq; have Eyq := hid eyq; have Cq := hid cq
    go_upto_region 11 with fail
    obtain ⟨nd, hnd⟩ : ∃ nd, nd = wq.heap.size := ⟨_, rfl⟩
    obtain ⟨w8, hw8⟩ : ∃ w8, w8 = wq.alloc (.cells #[.string key, .int .u64 v, .int .u64 ch, .bool true, .int .i64 0] 133) := ⟨_, rfl⟩
    rw [← hw8, ← hnd]
    have b8 : Below wq.heap.size wq w8 := by rw [hw8]; exact bl_alloc (Below.refl _ _) _
    have i8 : DItAt w8 nd ⟨key, .int .u64 v, ch, true, 0⟩ := by rw [hw8, hnd]; exact blk_new _ _
    have d8 := dq.below b8
    have Hnd := hid hnd; have B8 := hid b8; have I8 := hid i8
    have g1 := d8.blk
    rw [eyq] at g1
    have g3 := d8.lrow
    obtain ⟨WC, hWC⟩ : ∃ WC, WC = yq.lcells n Sc := ⟨_, rfl⟩
    rw [← hWC] at g3
    have k3 : WC[s]? = some (.slice (yq.la s) (Sc.sh s).al.length (yq.lc s)) := by
      have := d8.lcell Hs.out
      rw [d8.lrow, ← hWC] at this; exact this
    have hWs : s < WC.size := (Array.getElem?_eq_some_iff.1 k3).1
    have e1 : WC[s]'hWs = .slice (yq.la s) (Sc.sh s).al.length (yq.lc s) := by have := k3; rw [Array.getElem?_eq_getElem hWs] at this; exact Option.some.inj this
    have lg1 := Blk.lt g1
    have lw1 := Blk.lt g3
    have hrow := d8.L s Hs.out
    have hmN : (Sc.sh s).al.length ≤ 8796093022000 := by
      have h2 := (DOk.of OkS.out KkS.out.aln).len Hs.out
      rw [LastS.out] at h2
      have := Hl.out
      omega
    obtain ⟨AW, hAW⟩ : ∃ AW, AW = yq.la s := ⟨_, rfl⟩
    obtain ⟨mW, hmW⟩ : ∃ mW, mW = (Sc.sh s).al.length := ⟨_, rfl⟩
    obtain ⟨cW, hcW⟩ : ∃ cW, cW = yq.lc s := ⟨_, rfl⟩
    obtain ⟨XS, hXS⟩ : ∃ XS, XS = ptrs ((Sc.sh s).al.map ρ) := ⟨_, rfl⟩
    have HX1 : Hid (∀ u ∈ XS, u.oneCell' = true) := hid (by rw [hXS]; exact ptrs_one _)
    rw [← hAW, ← hmW, ← hcW, ← hXS] at hrow
    rw [← hAW, ← hmW, ← hcW] at e1
    rw [← hmW] at hmN
    have Hrd := hid (Rd.of_own hrow)
    have HmW := hid hmW; have HXS := hid hXS
    obtain ⟨i0, hi0, hz0, hz1, hz2⟩ := info_parts Try.info134c
    clear hWC k3 hAW hmW hcW hXS hrow hnd hw8 b8 i8 d8 dq eyq cq
    refine wp_region_T (fun W => blkOf W y.g = some (.cells #[.int .i64 n, .int .u64 Sc.room, .bool Sc.st, .slice (some ⟨yq.lr, 0, none⟩) n n, .slice (some ⟨yq.wr, 0, none⟩) n n, .slice yq.pa Sc.last.toNat yq.pc] 129 (0, 0)) ∧ blkOf W yq.lr = some (.cells WC 127 (0, 0))) 18 [] (by kernel_rfl) (by kernel_rfl) ⟨g1, g3⟩ ?_
    refine GoT.take 0 (v := ?vfn0) rfl (by kernel_rfl) (fun _ _ _ h => h) (Or.inl ⟨by rfl, ?yfn0⟩) ?rfn0
    case yfn0 => (intro W hSw; (try dsimp only at hSw); go_simp; try with_reducible rfl)
    try simp only [Act.put, List.setIfInBounds_toArray, List.set_cons_zero, List.set_cons_succ]
    refine GoT.take 1 (v := ?vfn1) rfl (by kernel_rfl) (fun _ _ _ h => h) (Or.inl ⟨by rfl, ?yfn1⟩) ?rfn1
    case yfn1 => (intro W hSw; (try dsimp only at hSw); go_simp; try with_reducible rfl)
    try simp only [Act.put, List.setIfInBounds_toArray, List.set_cons_zero, List.set_cons_succ]
    refine GoT.take 2 (v := ?vfn2) rfl (by kernel_rfl) (fun _ _ _ h => h) (Or.inl ⟨by rfl, ?yfn2⟩) ?rfn2
    case yfn2 => (intro W hSw; (try dsimp only at hSw); go_simp; try with_reducible rfl)
    try simp only [Act.put, List.setIfInBounds_toArray, List.set_cons_zero, List.set_cons_succ]
    refine GoT.take 3 (v := ?vfn3) rfl (by kernel_rfl) (fun _ _ _ h => h) (Or.inl ⟨by rfl, ?yfn3⟩) ?rfn3
    case yfn3 => (intro W hSw; (try dsimp only at hSw); go_simp; try with_reducible rfl)
    try simp only [Act.put, List.setIfInBounds_toArray, List.set_cons_zero, List.set_cons_succ]
    refine GoT.take 4 (v := ?vfn4) rfl (by kernel_rfl) (fun _ _ _ h => h) (Or.inl ⟨by rfl, ?yfn4⟩) ?rfn4
    case yfn4 => (intro W hSw; (try dsimp only at hSw); go_simp; try with_reducible rfl)
    try simp only [Act.put, List.setIfInBounds_toArray, List.set_cons_zero, List.set_cons_succ]
    refine GoT.take 6 (v := ?vfn6) rfl (by kernel_rfl) (fun _ _ _ h => h) (Or.inl ⟨by rfl, ?yfn6⟩) ?rfn6
    case yfn6 => (intro W hSw; (try dsimp only at hSw); go_simp; try with_reducible rfl)
    try simp only [Act.put, List.setIfInBounds_toArray, List.set_cons_zero, List.set_cons_succ]
    refine GoT.take 7 (v := ?vfn7) rfl (by kernel_rfl) (fun _ _ _ h => h) (Or.inl ⟨by rfl, ?yfn7⟩) ?rfn7
    case yfn7 => (intro W hSw; (try dsimp only at hSw); go_simp; try with_reducible rfl)
    try simp only [Act.put, List.setIfInBounds_toArray, List.set_cons_zero, List.set_cons_succ]
    refine GoT.take 8 (v := ?vfn8) rfl (by kernel_rfl) (fun _ _ _ h => h) (Or.inl ⟨by rfl, ?yfn8⟩) ?rfn8
    case yfn8 => (intro W hSw; (try dsimp only at hSw); go_simp; try with_reducible rfl)
    try simp only [Act.put, List.setIfInBounds_toArray, List.set_cons_zero, List.set_cons_succ]
    refine GoT.take 9 (v := ?vfn9) rfl (by kernel_rfl) (fun _ _ _ h => h) (Or.inl ⟨by rfl, ?yfn9⟩) ?rfn9
    case yfn9 => (intro W hSw; (try dsimp only at hSw); go_simp; try with_reducible rfl)
    try simp only [Act.put, List.setIfInBounds_toArray, List.set_cons_zero, List.set_cons_succ]
    refine GoT.take 10 (v := ?vfn10) rfl (by kernel_rfl) (fun _ _ _ h => h) (Or.inl ⟨by rfl, ?yfn10⟩) ?rfn10
    case yfn10 => (intro W hSw; (try dsimp only at hSw); go_simp; try with_reducible rfl)
    try simp only [Act.put, List.setIfInBounds_toArray, List.set_cons_zero, List.set_cons_succ]
    refine GoT.take 11 (v := ?vfn11) rfl (by kernel_rfl) (fun _ _ _ h => h) (Or.inl ⟨by rfl, ?yfn11⟩) ?rfn11
    case yfn11 => (intro W hSw; (try dsimp only at hSw); go_simp; try with_reducible rfl)
    try simp only [Act.put, List.setIfInBounds_toArray, List.set_cons_zero, List.set_cons_succ]
    refine GoT.take 12 (v := ?vfn12) rfl (by kernel_rfl) (fun _ _ _ h => h) (Or.inl ⟨by rfl, ?yfn12⟩) ?rfn12
    case yfn12 => (intro W hSw; (try dsimp only at hSw); go_simp; try with_reducible rfl)
    try simp only [Act.put, List.setIfInBounds_toArray, List.set_cons_zero, List.set_cons_succ]
    refine GoT.take 14 (v := ?vfn14) rfl (by kernel_rfl) (fun _ _ _ h => h) (Or.inl ⟨by rfl, ?yfn14⟩) ?rfn14
    case yfn14 => (intro W hSw; (try dsimp only at hSw); go_simp; try with_reducible rfl)
    try simp only [Act.put, List.setIfInBounds_toArray, List.set_cons_zero, List.set_cons_succ]
    have hE := World.ownsRow_made (e := 134) (size := 1) w8 #[] 0 (base := w8.heap.size) (Nat.le_refl _) (by simp [maxLen]) (by simp)
    have HE := hid hE
    clear hE
    refine GoT.all [5, 15] (by kernel_rfl) rfl ?_
    refine AllT.cons (i := 5) rfl (fun K hK => ?_) (AllT.cons (i := 15) rfl (fun K hK => ?_) AllT.nil)
    · go_simp
      refine hK.out _ _ (fun _ => ⟨by go_simp, by go_simp⟩) ?_
      clear hK K
      try simp only [Act.put, List.setIfInBounds_toArray, List.set_cons_zero, List.set_cons_succ]
      refine GoT.all [13, 15] (by kernel_rfl) rfl ?_
      refine AllT.cons (i := 13) rfl (fun K hK => ?_) (AllT.cons (i := 15) rfl (fun K hK => ?_) AllT.nil)
      · refine step_append_rd _ rfl (.tmp 64) (.tmp 71) _ rfl w8.heap.size 134 i0 _ 1 8 Try.underlying127 hi0 hz0 hz1 hz2 rfl (by decide) (.slice (some ⟨w8.heap.size, 0, none⟩) 0 0) 0 [] rfl (own_drew HE.out) w8.heap.size AW mW cW XS rfl (Hrd.out.alloc (Nat.le_refl _) _) HX1.out (by simp only [maxLen]; omega) (by omega) (by simp; try omega) ?_
        intro v1 w5 hown5 hg5 hat5
        have hbl5 : Below w8.heap.size w8 w5 := bl_grown (Below.drew (bl_alloc (Below.refl _ _) _)) hg5 (fun k hk => Nat.le_of_eq (Option.some.inj hk))
        obtain ⟨A1, c1, rfl, _⟩ := own_shape hown5
        rw [Nat.zero_add, List.nil_append] at hown5
        refine hK.out _ _ (fun _ => ⟨(bl_at hbl5 _ lg1).trans g1, (bl_at hbl5 _ lw1).trans g3⟩) ?_
        clear hK K
        try simp only [Act.put, List.setIfInBounds_toArray, List.set_cons_zero, List.set_cons_succ]
        simp only [Nat.zero_add]
        refine GoT.all [15] (by kernel_rfl) rfl ?_
        refine AllT.cons (i := 15) rfl (fun K hK => ?_) AllT.nil
        go_simp
        refine hK.out _ _ (fun _ => ⟨(bl_at (bl_alloc hbl5 _) _ lg1).trans g1, (bl_at (bl_alloc hbl5 _) _ lw1).trans g3⟩) ?_
        clear hK K
        try simp only [Act.put, List.setIfInBounds_toArray, List.set_cons_zero, List.set_cons_succ]
        refine GoT.all [16] (by kernel_rfl) rfl ?_
        refine AllT.cons (i := 16) rfl (fun K hK => ?_) AllT.nil
        refine step_append_rd _ rfl (.tmp 72) (.tmp 74) _ rfl w8.heap.size 134 i0 _ 1 8 Try.underlying127 hi0 hz0 hz1 hz2 rfl (by decide) (.slice A1 mW c1) mW XS rfl (hown5.alloc _) (w5.heap.size + 1) (some ⟨w5.heap.size, 0, none⟩) 1 1 [.pointer (some ⟨nd, 0, none⟩)] rfl (rd_new w5 134 1 1 [.pointer (some ⟨nd, 0, none⟩)] rfl) (by simp [Value.oneCell']) (by simp only [maxLen]; omega) (by omega) (by have := hbl5.size; simp; try omega) ?_
        intro v2 w6 hown6 hg6 hat6
        have hbl6 : Below w8.heap.size w8 w6 := bl_grown (bl_alloc hbl5 _) hg6 (fun k hk => (hown5.lt k hk).1)
        obtain ⟨A2, c2, rfl, _⟩ := own_shape hown6
        have q1 := (bl_at hbl6 _ lg1).trans g1
        have q3 := (bl_at hbl6 _ lw1).trans g3
        have lw6 := Blk.lt q3
        refine hK.out _ _ (fun _ => ⟨q1, q3⟩) ?_
        clear hK K
        try simp only [Act.put, List.setIfInBounds_toArray, List.set_cons_zero, List.set_cons_succ]
        have OW6 := hid hown6; have BL6 := hid hbl6
        clear hown6 hbl6 hg6 hat6 hg5 hat5 hown5 hbl5
        refine GoT.take 17 (v := ?vfna17) rfl (by kernel_rfl) (fun _ _ _ h => h) (Or.inl ⟨by rfl, ?yfna17⟩) ?rfna17
        case yfna17 => (intro W hSw; (try dsimp only at hSw); go_simp; try with_reducible rfl)
        try simp only [Act.put, List.setIfInBounds_toArray, List.set_cons_zero, List.set_cons_succ]
        refine GoT.all [18] (by kernel_rfl) rfl ?_
        refine AllT.cons (i := 18) rfl (fun K hK => ?_) AllT.nil
        go_simp
        refine hK.out _ _ (fun h => absurd h (by decide)) ?_
        clear hK K
        try simp only [Act.put, List.setIfInBounds_toArray, List.set_cons_zero, List.set_cons_succ]
        refine GoT.done (by kernel_rfl) ?_ _
        obtain ⟨wz, hwz⟩ : ∃ wz, wz = w6.setCell ⟨yq.lr, s, none⟩ (.slice A2 (mW + 1) c2) := ⟨_, rfl⟩
        rw [← hwz]
        have hto : DTo (more G w wq) B n yq.g (putAt ρ nb nd) wq wz (Sc.added s nb ⟨key, .int .u64 v, ch, true, 0⟩) := by
          rw [hwz]
          refine dput_added Dq.out (DOk.of OkS.out KkS.out.aln) (fun p hp => (OkS.out.pins p hp).2) NbS.out Hs.out B8.out (Nat.le_of_eq Hnd.out.symm) I8.out BL6.out (by rw [HmW.out]; simp) ?_
          have ho := OW6.out
          rw [HXS.out] at ho
          exact ho
        obtain ⟨yz, eyz, dz, cz⟩ := hto
        have Hpn : Hid (Calls Try.prog 89 #[.pointer (some ⟨y.g, 0, none⟩), .pointer (some ⟨nd, 0, none⟩)] wz fun e w' => e = .returned (.int .i64 (S.last + 1)) ∧ DTo G B n y.g (putAt ρ nb nd) w w' ((Sc.added s nb ⟨key, .int .u64 v, ch, true, 0⟩).pinned nb)) := hid (by
          have hit : (Sc.added s nb ⟨key, .int .u64 v, ch, true, 0⟩).it nb = ⟨key, .int .u64 v, ch, true, 0⟩ := upd_same _ _ _
          have := dpins_any nb dz (List.mem_append_right _ (List.mem_singleton.2 rfl)) (fun p hp => (OkS.out.pins p hp).1) OkS.out.last (by show Sc.last < _; rw [LastS.out]; exact Hl.out) (by rw [hit]; exact Int.le_refl 0) (by rw [hit]; exact OkS.out.last)
          rw [eyz, Eyq.out] at this
          rw [putAt_same] at this
          have e2 : (Sc.added s nb ⟨key, .int .u64 v, ch, true, 0⟩).last = S.last := LastS.out
          rw [e2] at this
          refine this.mono ?_
          rintro e w' ⟨k1, k2⟩
          exact ⟨k1, DTo.trans H.out.lt H.out.base (fun k hk => hk) Cq.out (DTo.trans Dq.out.lt Dq.out.base (fun k hk => hk) cz k2)⟩)
        clear hwz dz cz eyz q1 q3 lw6 g1 g3 lg1 lw1 e1 hWs
        go_wp2_with (go_at_call 89; refine Hpn.out.mono ?_; rintro e w9 ⟨rfl, hto9⟩; have Hto9 := hid hto9; clear hto9)
        refine HR.out _ _ ?_
        refine ⟨rfl, nd, ?_⟩
        rw [← HSc.out]
        exact Hto9.out
      · go_simp
        refine hK.out _ _ (fun _ => ⟨by go_simp, by go_simp⟩) ?_
        clear hK K
        try simp only [Act.put, List.setIfInBounds_toArray, List.set_cons_zero, List.set_cons_succ]
        refine GoT.all [13] (by kernel_rfl) rfl ?_
        refine AllT.cons (i := 13) rfl (fun K hK => ?_) AllT.nil
        refine step_append_rd _ rfl (.tmp 64) (.tmp 71) _ rfl w8.heap.size 134 i0 _ 1 8 Try.underlying127 hi0 hz0 hz1 hz2 rfl (by decide) (.slice (some ⟨w8.heap.size, 0, none⟩) 0 0) 0 [] rfl (own_drew (HE.out.alloc _)) w8.heap.size AW mW cW XS rfl ((Hrd.out.alloc (Nat.le_refl _) _).alloc (by simp) _) HX1.out (by simp only [maxLen]; omega) (by omega) (by simp; try omega) ?_
        intro v1 w5 hown5 hg5 hat5
        have hbl5 : Below w8.heap.size w8 w5 := bl_grown (Below.drew (bl_alloc (bl_alloc (Below.refl _ _) _) _)) hg5 (fun k hk => Nat.le_of_eq (Option.some.inj hk))
        obtain ⟨A1, c1, rfl, _⟩ := own_shape hown5
        rw [Nat.zero_add, List.nil_append] at hown5
        refine hK.out _ _ (fun _ => ⟨(bl_at hbl5 _ lg1).trans g1, (bl_at hbl5 _ lw1).trans g3⟩) ?_
        clear hK K
        try simp only [Act.put, List.setIfInBounds_toArray, List.set_cons_zero, List.set_cons_succ]
        simp only [Nat.zero_add]
        refine GoT.all [16] (by kernel_rfl) rfl ?_
        refine AllT.cons (i := 16) rfl (fun K hK => ?_) AllT.nil
        have hx5 : blkOf w5 (w8.heap.size + 1) = some (.cells #[.pointer (some ⟨nd, 0, none⟩)] 134 (0, 0)) := (gr_at hg5 (by first | (simp; done) | (simp; omega)) (fun e => by have e' : w8.heap.size = w8.heap.size + 1 := Option.some.inj e; omega)).trans (by go_simp)
        refine step_append_rd _ rfl (.tmp 72) (.tmp 74) _ rfl w8.heap.size 134 i0 _ 1 8 Try.underlying127 hi0 hz0 hz1 hz2 rfl (by decide) (.slice A1 mW c1) mW XS rfl hown5 (w8.heap.size + 1 + 1) (some ⟨w8.heap.size + 1, 0, none⟩) 1 1 [.pointer (some ⟨nd, 0, none⟩)] rfl (rd_blkc (xs := [.pointer (some ⟨nd, 0, none⟩)]) hx5 rfl) (by simp [Value.oneCell']) (by simp only [maxLen]; omega) (by omega) (by have := hbl5.size; simp; try omega) ?_
        intro v2 w6 hown6 hg6 hat6
        have hbl6 : Below w8.heap.size w8 w6 := bl_grown hbl5 hg6 (fun k hk => (hown5.lt k hk).1)
        obtain ⟨A2, c2, rfl, _⟩ := own_shape hown6
        have q1 := (bl_at hbl6 _ lg1).trans g1
        have q3 := (bl_at hbl6 _ lw1).trans g3
        have lw6 := Blk.lt q3
        refine hK.out _ _ (fun _ => ⟨q1, q3⟩) ?_
        clear hK K
        try simp only [Act.put, List.setIfInBounds_toArray, List.set_cons_zero, List.set_cons_succ]
        have OW6 := hid hown6; have BL6 := hid hbl6
        clear hown6 hbl6 hg6 hat6 hg5 hat5 hown5 hbl5
        refine GoT.take 17 (v := ?vfnb17) rfl (by kernel_rfl) (fun _ _ _ h => h) (Or.inl ⟨by rfl, ?yfnb17⟩) ?rfnb17
        case yfnb17 => (intro W hSw; (try dsimp only at hSw); go_simp; try with_reducible rfl)
        try simp only [Act.put, List.setIfInBounds_toArray, List.set_cons_zero, List.set_cons_succ]
        refine GoT.all [18] (by kernel_rfl) rfl ?_
        refine AllT.cons (i := 18) rfl (fun K hK => ?_) AllT.nil
        go_simp
        refine hK.out _ _ (fun h => absurd h (by decide)) ?_
        clear hK K
        try simp only [Act.put, List.setIfInBounds_toArray, List.set_cons_zero, List.set_cons_succ]
        refine GoT.done (by kernel_rfl) ?_ _
        obtain ⟨wz, hwz⟩ : ∃ wz, wz = w6.setCell ⟨yq.lr, s, none⟩ (.slice A2 (mW + 1) c2) := ⟨_, rfl⟩
        rw [← hwz]
        have hto : DTo (more G w wq) B n yq.g (putAt ρ nb nd) wq wz (Sc.added s nb ⟨key, .int .u64 v, ch, true, 0⟩) := by
          rw [hwz]
          refine dput_added Dq.out (DOk.of OkS.out KkS.out.aln) (fun p hp => (OkS.out.pins p hp).2) NbS.out Hs.out B8.out (Nat.le_of_eq Hnd.out.symm) I8.out BL6.out (by rw [HmW.out]; simp) ?_
          have ho := OW6.out
          rw [HXS.out] at ho
          exact ho
        obtain ⟨yz, eyz, dz, cz⟩ := hto
        have Hpn : Hid (Calls Try.prog 89 #[.pointer (some ⟨y.g, 0, none⟩), .pointer (some ⟨nd, 0, none⟩)] wz fun e w' => e = .returned (.int .i64 (S.last + 1)) ∧ DTo G B n y.g (putAt ρ nb nd) w w' ((Sc.added s nb ⟨key, .int .u64 v, ch, true, 0⟩).pinned nb)) := hid (by
          have hit : (Sc.added s nb ⟨key, .int .u64 v, ch, true, 0⟩).it nb = ⟨key, .int .u64 v, ch, true, 0⟩ := upd_same _ _ _
          have := dpins_any nb dz (List.mem_append_right _ (List.mem_singleton.2 rfl)) (fun p hp => (OkS.out.pins p hp).1) OkS.out.last (by show Sc.last < _; rw [LastS.out]; exact Hl.out) (by rw [hit]; exact Int.le_refl 0) (by rw [hit]; exact OkS.out.last)
          rw [eyz, Eyq.out] at this
          rw [putAt_same] at this
          have e2 : (Sc.added s nb ⟨key, .int .u64 v, ch, true, 0⟩).last = S.last := LastS.out
          rw [e2] at this
          refine this.mono ?_
          rintro e w' ⟨k1, k2⟩
          exact ⟨k1, DTo.trans H.out.lt H.out.base (fun k hk => hk) Cq.out (DTo.trans Dq.out.lt Dq.out.base (fun k hk => hk) cz k2)⟩)
        clear hwz dz cz eyz q1 q3 lw6 g1 g3 lg1 lw1 e1 hWs
        go_wp2_with (go_at_call 89; refine Hpn.out.mono ?_; rintro e w9 ⟨rfl, hto9⟩; have Hto9 := hid hto9; clear hto9)
        refine HR.out _ _ ?_
        refine ⟨rfl, nd, ?_⟩
        rw [← HSc.out]
        exact Hto9.out
    · go_simp
      refine hK.out _ _ (fun _ => ⟨by go_simp, by go_simp⟩) ?_
      clear hK K
      try simp only [Act.put, List.setIfInBounds_toArray, List.set_cons_zero, List.set_cons_succ]
      refine GoT.all [5] (by kernel_rfl) rfl ?_
      refine AllT.cons (i := 5) rfl (fun K hK => ?_) AllT.nil
      go_simp
      refine hK.out _ _ (fun _ => ⟨by go_simp, by go_simp⟩) ?_
      clear hK K
      try simp only [Act.put, List.setIfInBounds_toArray, List.set_cons_zero, List.set_cons_succ]
      refine GoT.all [13] (by kernel_rfl) rfl ?_
      refine AllT.cons (i := 13) rfl (fun K hK => ?_) AllT.nil
      have hE2 := World.ownsRow_made (e := 134) (size := 1) (w8.alloc (.cells #[.pointer (some ⟨nd, 0, none⟩)] 134)) #[] 0 (base := w8.heap.size) (by simp) (by simp [maxLen]) (by simp)
      rw [World.size_alloc] at hE2
      refine step_append_rd _ rfl (.tmp 64) (.tmp 71) _ rfl w8.heap.size 134 i0 _ 1 8 Try.underlying127 hi0 hz0 hz1 hz2 rfl (by decide) (.slice (some ⟨w8.heap.size + 1, 0, none⟩) 0 0) 0 [] rfl (own_drew hE2) w8.heap.size AW mW cW XS rfl ((Hrd.out.alloc (Nat.le_refl _) _).alloc (by simp) _) HX1.out (by simp only [maxLen]; omega) (by omega) (by simp; try omega) ?_
      intro v1 w5 hown5 hg5 hat5
      have hbl5 : Below w8.heap.size w8 w5 := bl_grown (Below.drew (bl_alloc (bl_alloc (Below.refl _ _) _) _)) hg5 (fun k hk => (by have e : w8.heap.size + 1 = k := Option.some.inj hk; omega))
      obtain ⟨A1, c1, rfl, _⟩ := own_shape hown5
      rw [Nat.zero_add, List.nil_append] at hown5
      refine hK.out _ _ (fun _ => ⟨(bl_at hbl5 _ lg1).trans g1, (bl_at hbl5 _ lw1).trans g3⟩) ?_
      clear hK K
      try simp only [Act.put, List.setIfInBounds_toArray, List.set_cons_zero, List.set_cons_succ]
      simp only [Nat.zero_add]
      refine GoT.all [16] (by kernel_rfl) rfl ?_
      refine AllT.cons (i := 16) rfl (fun K hK => ?_) AllT.nil
      have hx5 : blkOf w5 (w8.heap.size) = some (.cells #[.pointer (some ⟨nd, 0, none⟩)] 134 (0, 0)) := (gr_at hg5 (by first | (simp; done) | (simp; omega)) (fun e => by have e' : w8.heap.size + 1 = w8.heap.size := Option.some.inj e; omega)).trans (by go_simp)
      refine step_append_rd _ rfl (.tmp 72) (.tmp 74) _ rfl w8.heap.size 134 i0 _ 1 8 Try.underlying127 hi0 hz0 hz1 hz2 rfl (by decide) (.slice A1 mW c1) mW XS rfl hown5 (w8.heap.size + 1) (some ⟨w8.heap.size, 0, none⟩) 1 1 [.pointer (some ⟨nd, 0, none⟩)] rfl (rd_blkc (xs := [.pointer (some ⟨nd, 0, none⟩)]) hx5 rfl) (by simp [Value.oneCell']) (by simp only [maxLen]; omega) (by omega) (by have := hbl5.size; simp; try omega) ?_
      intro v2 w6 hown6 hg6 hat6
      have hbl6 : Below w8.heap.size w8 w6 := bl_grown hbl5 hg6 (fun k hk => (hown5.lt k hk).1)
      obtain ⟨A2, c2, rfl, _⟩ := own_shape hown6
      have q1 := (bl_at hbl6 _ lg1).trans g1
      have q3 := (bl_at hbl6 _ lw1).trans g3
      have lw6 := Blk.lt q3
      refine hK.out _ _ (fun _ => ⟨q1, q3⟩) ?_
      clear hK K
      try simp only [Act.put, List.setIfInBounds_toArray, List.set_cons_zero, List.set_cons_succ]
      have OW6 := hid hown6; have BL6 := hid hbl6
      clear hown6 hbl6 hg6 hat6 hg5 hat5 hown5 hbl5
      refine GoT.take 17 (v := ?vfnc17) rfl (by kernel_rfl) (fun _ _ _ h => h) (Or.inl ⟨by rfl, ?yfnc17⟩) ?rfnc17
      case yfnc17 => (intro W hSw; (try dsimp only at hSw); go_simp; try with_reducible rfl)
      try simp only [Act.put, List.setIfInBounds_toArray, List.set_cons_zero, List.set_cons_succ]
      refine GoT.all [18] (by kernel_rfl) rfl ?_
      refine AllT.cons (i := 18) rfl (fun K hK => ?_) AllT.nil
      go_simp
      refine hK.out _ _ (fun h => absurd h (by decide)) ?_
      clear hK K
      try simp only [Act.put, List.setIfInBounds_toArray, List.set_cons_zero, List.set_cons_succ]
      refine GoT.done (by kernel_rfl) ?_ _
      obtain ⟨wz, hwz⟩ : ∃ wz, wz = w6.setCell ⟨yq.lr, s, none⟩ (.slice A2 (mW + 1) c2) := ⟨_, rfl⟩
      rw [← hwz]
      have hto : DTo (more G w wq) B n yq.g (putAt ρ nb nd) wq wz (Sc.added s nb ⟨key, .int .u64 v, ch, true, 0⟩) := by
        rw [hwz]
        refine dput_added Dq.out (DOk.of OkS.out KkS.out.aln) (fun p hp => (OkS.out.pins p hp).2) NbS.out Hs.out B8.out (Nat.le_of_eq Hnd.out.symm) I8.out BL6.out (by rw [HmW.out]; simp) ?_
        have ho := OW6.out
        rw [HXS.out] at ho
        exact ho
      obtain ⟨yz, eyz, dz, cz⟩ := hto
      have Hpn : Hid (Calls Try.prog 89 #[.pointer (some ⟨y.g, 0, none⟩), .pointer (some ⟨nd, 0, none⟩)] wz fun e w' => e = .returned (.int .i64 (S.last + 1)) ∧ DTo G B n y.g (putAt ρ nb nd) w w' ((Sc.added s nb ⟨key, .int .u64 v, ch, true, 0⟩).pinned nb)) := hid (by
        have hit : (Sc.added s nb ⟨key, .int .u64 v, ch, true, 0⟩).it nb = ⟨key, .int .u64 v, ch, true, 0⟩ := upd_same _ _ _
        have := dpins_any nb dz (List.mem_append_right _ (List.mem_singleton.2 rfl)) (fun p hp => (OkS.out.pins p hp).1) OkS.out.last (by show Sc.last < _; rw [LastS.out]; exact Hl.out) (by rw [hit]; exact Int.le_refl 0) (by rw [hit]; exact OkS.out.last)
        rw [eyz, Eyq.out] at this
        rw [putAt_same] at this
        have e2 : (Sc.added s nb ⟨key, .int .u64 v, ch, true, 0⟩).last = S.last := LastS.out
        rw [e2] at this
        refine this.mono ?_
        rintro e w' ⟨k1, k2⟩
        exact ⟨k1, DTo.trans H.out.lt H.out.base (fun k hk => hk) Cq.out (DTo.trans Dq.out.lt Dq.out.base (fun k hk => hk) cz k2)⟩)
      clear hwz dz cz eyz q1 q3 lw6 g1 g3 lg1 lw1 e1 hWs
      go_wp2_with (go_at_call 89; refine Hpn.out.mono ?_; rintro e w9 ⟨rfl, hto9⟩; have Hto9 := hid hto9; clear hto9)
      refine HR.out _ _ ?_
      refine ⟨rfl, nd, ?_⟩
      rw [← HSc.out]
      exact Hto9.out
  | some bo =>
    have hin := Ok1.out.inm s Hs.out (key, bo) (by rw [turn_sh]; exact look_some hlk)
    have hbi := Ok1.out.al s Hs.out bo hin.1
    have hkey : ((S.turn s T I).it bo).key = key := hin.2.1
    have hcl : (S.turn s T I).clear s key = (S.turn s T I).outAt s bo := by unfold CS.clear; rw [turn_sh, hlk]
    obtain ⟨Sc, hSc⟩ : ∃ Sc, Sc = (S.turn s T I).clear s key := ⟨_, rfl⟩
    have HSc := hid hSc
    rw [hcl] at hSc
    have Hout : Hid (Calls Try.prog 88 #[.pointer (some ⟨y.g, 0, none⟩), .int .i64 s, .pointer (some ⟨ρ bo, 0, none⟩)] w4 fun e w' => e = .returned (.tuple #[]) ∧ DTo G B n y.g ρ w w' Sc) := hid (by
      have := dout_any s bo D4.out (DOk.of Ok1.out Kk1.out.aln) Hs.out hbi Hl.out
      rw [E3g.out] at this
      refine this.mono ?_
      rintro e w' ⟨k1, k2⟩
      refine ⟨k1, DTo.trans H.out.lt H.out.base (more_mono Hs34.out) C4.out ?_⟩
      rw [hSc]; exact k2)
    have OkS : Hid (COk n Sc) := hid (by rw [hSc]; exact Ok1.out.out Hs.out (by rw [hkey]; exact Hse.out.symm))
    have KkS : Hid (KOk n Sc) := hid (by rw [hSc]; exact Kk1.out.out Hs.out (by rw [hkey, turn_sh]; exact look_some hlk))
    have LastS : Hid (Sc.last = S.last) := hid (by rw [hSc]; rfl)
    have NbS : Hid (nb ∉ Sc.its) := hid (by rw [hSc]; exact Hnb.out)
    unfold ptrO
    clear hcl hSc hlk hin hbi hkey
    go_upto_region 10 with (go_at_call 88; refine Hout.out.mono ?_; rintro e wq ⟨rfl, hto⟩; have HQD := hid hto; clear hto)
    obtain ⟨yq, eyq, dq, cq⟩ := HQD.out
    have Dq := hid dq; have Eyq := hid eyq; have Cq := hid cq
    go_upto_region 11 with fail
    obtain ⟨nd, hnd⟩ : ∃ nd, nd = wq.heap.size := ⟨_, rfl⟩
    obtain ⟨w8, hw8⟩ : ∃ w8, w8 = wq.alloc (.cells #[.string key, .int .u64 v, .int .u64 ch, .bool true, .int .i64 0] 133) := ⟨_, rfl⟩
    rw [← hw8, ← hnd]
    have b8 : Below wq.heap.size wq w8 := by rw [hw8]; exact bl_alloc (Below.refl _ _) _
    have i8 : DItAt w8 nd ⟨key, .int .u64 v, ch, true, 0⟩ := by rw [hw8, hnd]; exact blk_new _ _
    have d8 := dq.below b8
    have Hnd := hid hnd; have B8 := hid b8; have I8 := hid i8
    have g1 := d8.blk
    rw [eyq] at g1
    have g3 := d8.lrow
    obtain ⟨WC, hWC⟩ : ∃ WC, WC = yq.lcells n Sc := ⟨_, rfl⟩
    rw [← hWC] at g3
    have k3 : WC[s]? = some (.slice (yq.la s) (Sc.sh s).al.length (yq.lc s)) := by
      have := d8.lcell Hs.out
      rw [d8.lrow, ← hWC] at this; exact this
    have hWs : s < WC.size := (Array.getElem?_eq_some_iff.1 k3).1
    have e1 : WC[s]'hWs = .slice (yq.la s) (Sc.sh s).al.length (yq.lc s) := by have := k3; rw [Array.getElem?_eq_getElem hWs] at this; exact Option.some.inj this
    have lg1 := Blk.lt g1
    have lw1 := Blk.lt g3
    have hrow := d8.L s Hs.out
    have hmN : (Sc.sh s).al.length ≤ 8796093022000 := by
      have h2 := (DOk.of OkS.out KkS.out.aln).len Hs.out
      rw [LastS.out] at h2
      have := Hl.out
      omega
    obtain ⟨AW, hAW⟩ : ∃ AW, AW = yq.la s := ⟨_, rfl⟩
    obtain ⟨mW, hmW⟩ : ∃ mW, mW = (Sc.sh s).al.length := ⟨_, rfl⟩
    obtain ⟨cW, hcW⟩ : ∃ cW, cW = yq.lc s := ⟨_, rfl⟩
    obtain ⟨XS, hXS⟩ : ∃ XS, XS = ptrs ((Sc.sh s).al.map ρ) := ⟨_, rfl⟩
    have HX1 : Hid (∀ u ∈ XS, u.oneCell' = true) := hid (by rw [hXS]; exact ptrs_one _)
    rw [← hAW, ← hmW, ← hcW, ← hXS] at hrow
    rw [← hAW, ← hmW, ← hcW] at e1
    rw [← hmW] at hmN
    have Hrd := hid (Rd.of_own hrow)
    have HmW := hid hmW; have HXS := hid hXS
    obtain ⟨i0, hi0, hz0, hz1, hz2⟩ := info_parts Try.info134c
    clear hWC k3 hAW hmW hcW hXS hrow hnd hw8 b8 i8 d8 dq eyq cq
    refine wp_region_T (fun W => blkOf W y.g = some (.cells #[.int .i64 n, .int .u64 Sc.room, .bool Sc.st, .slice (some ⟨yq.lr, 0, none⟩) n n, .slice (some ⟨yq.wr, 0, none⟩) n n, .slice yq.pa Sc.last.toNat yq.pc] 129 (0, 0)) ∧ blkOf W yq.lr = some (.cells WC 127 (0, 0))) 18 [] (by kernel_rfl) (by kernel_rfl) ⟨g1, g3⟩ ?_
    refine GoT.take 0 (v := ?vfs0) rfl (by kernel_rfl) (fun _ _ _ h => h) (Or.inl ⟨by rfl, ?yfs0⟩) ?rfs0
    case yfs0 => (intro W hSw; (try dsimp only at hSw); go_simp; try with_reducible rfl)
    try simp only [Act.put, List.setIfInBounds_toArray, List.set_cons_zero, List.set_cons_succ]
    refine GoT.take 1 (v := ?vfs1) rfl (by kernel_rfl) (fun _ _ _ h => h) (Or.inl ⟨by rfl, ?yfs1⟩) ?rfs1
    case yfs1 => (intro W hSw; (try dsimp only at hSw); go_simp; try with_reducible rfl)
    try simp only [Act.put, List.setIfInBounds_toArray, List.set_cons_zero, List.set_cons_succ]
    refine GoT.take 2 (v := ?vfs2) rfl (by kernel_rfl) (fun _ _ _ h => h) (Or.inl ⟨by rfl, ?yfs2⟩) ?rfs2
    case yfs2 => (intro W hSw; (try dsimp only at hSw); go_simp; try with_reducible rfl)
    try simp only [Act.put, List.setIfInBounds_toArray, List.set_cons_zero, List.set_cons_succ]
    refine GoT.take 3 (v := ?vfs3) rfl (by kernel_rfl) (fun _ _ _ h => h) (Or.inl ⟨by rfl, ?yfs3⟩) ?rfs3
    case yfs3 => (intro W hSw; (try dsimp only at hSw); go_simp; try with_reducible rfl)
    try simp only [Act.put, List.setIfInBounds_toArray, List.set_cons_zero, List.set_cons_succ]
    refine GoT.take 4 (v := ?vfs4) rfl (by kernel_rfl) (fun _ _ _ h => h) (Or.inl ⟨by rfl, ?yfs4⟩) ?rfs4
    case yfs4 => (intro W hSw; (try dsimp only at hSw); go_simp; try with_reducible rfl)
    try simp only [Act.put, List.setIfInBounds_toArray, List.set_cons_zero, List.set_cons_succ]
    refine GoT.take 6 (v := ?vfs6) rfl (by kernel_rfl) (fun _ _ _ h => h) (Or.inl ⟨by rfl, ?yfs6⟩) ?rfs6
    case yfs6 => (intro W hSw; (try dsimp only at hSw); go_simp; try with_reducible rfl)
    try simp only [Act.put, List.setIfInBounds_toArray, List.set_cons_zero, List.set_cons_succ]
    refine GoT.take 7 (v := ?vfs7) rfl (by kernel_rfl) (fun _ _ _ h => h) (Or.inl ⟨by rfl, ?yfs7⟩) ?rfs7
    case yfs7 => (intro W hSw; (try dsimp only at hSw); go_simp; try with_reducible rfl)
    try simp only [Act.put, List.setIfInBounds_toArray, List.set_cons_zero, List.set_cons_succ]
    refine GoT.take 8 (v := ?vfs8) rfl (by kernel_rfl) (fun _ _ _ h => h) (Or.inl ⟨by rfl, ?yfs8⟩) ?rfs8
    case yfs8 => (intro W hSw; (try dsimp only at hSw); go_simp; try with_reducible rfl)
    try simp only [Act.put, List.setIfInBounds_toArray, List.set_cons_zero, List.set_cons_succ]
    refine GoT.take 9 (v := ?vfs9) rfl (by kernel_rfl) (fun _ _ _ h => h) (Or.inl ⟨by rfl, ?yfs9⟩) ?rfs9
    case yfs9 => (intro W hSw; (try dsimp only at hSw); go_simp; try with_reducible rfl)
    try simp only [Act.put, List.setIfInBounds_toArray, List.set_cons_zero, List.set_cons_succ]
    refine GoT.take 10 (v := ?vfs10) rfl (by kernel_rfl) (fun _ _ _ h => h) (Or.inl ⟨by rfl, ?yfs10⟩) ?rfs10
    case yfs10 => (intro W hSw; (try dsimp only at hSw); go_simp; try with_reducible rfl)
    try simp only [Act.put, List.setIfInBounds_toArray, List.set_cons_zero, List.set_cons_succ]
    refine GoT.take 11 (v := ?vfs11) rfl (by kernel_rfl) (fun _ _ _ h => h) (Or.inl ⟨by rfl, ?yfs11⟩) ?rfs11
    case yfs11 => (intro W hSw; (try dsimp only at hSw); go_simp; try with_reducible rfl)
    try simp only [Act.put, List.setIfInBounds_toArray, List.set_cons_zero, List.set_cons_succ]
    refine GoT.take 12 (v := ?vfs12) rfl (by kernel_rfl) (fun _ _ _ h => h) (Or.inl ⟨by rfl, ?yfs12⟩) ?rfs12
    case yfs12 => (intro W hSw; (try dsimp only at hSw); go_simp; try with_reducible rfl)
    try simp only [Act.put, List.setIfInBounds_toArray, List.set_cons_zero, List.set_cons_succ]
    refine GoT.take 14 (v := ?vfs14) rfl (by kernel_rfl) (fun _ _ _ h => h) (Or.inl ⟨by rfl, ?yfs14⟩) ?rfs14
    case yfs14 => (intro W hSw; (try dsimp only at hSw); go_simp; try with_reducible rfl)
    try simp only [Act.put, List.setIfInBounds_toArray, List.set_cons_zero, List.set_cons_succ]
    have hE := World.ownsRow_made (e := 134) (size := 1) w8 #[] 0 (base := w8.heap.size) (Nat.le_refl _) (by simp [maxLen]) (by simp)
    have HE := hid hE
    clear hE
    refine GoT.all [5, 15] (by kernel_rfl) rfl ?_
    refine AllT.cons (i := 5) rfl (fun K hK => ?_) (AllT.cons (i := 15) rfl (fun K hK => ?_) AllT.nil)
    · go_simp
      refine hK.out _ _ (fun _ => ⟨by go_simp, by go_simp⟩) ?_
      clear hK K
      try simp only [Act.put, List.setIfInBounds_toArray, List.set_cons_zero, List.set_cons_succ]
      refine GoT.all [13, 15] (by kernel_rfl) rfl ?_
      refine AllT.cons (i := 13) rfl (fun K hK => ?_) (AllT.cons (i := 15) rfl (fun K hK => ?_) AllT.nil)
      · refine step_append_rd _ rfl (.tmp 64) (.tmp 71) _ rfl w8.heap.size 134 i0 _ 1 8 Try.underlying127 hi0 hz0 hz1 hz2 rfl (by decide) (.slice (some ⟨w8.heap.size, 0, none⟩) 0 0) 0 [] rfl (own_drew HE.out) w8.heap.size AW mW cW XS rfl (Hrd.out.alloc (Nat.le_refl _) _) HX1.out (by simp only [maxLen]; omega) (by omega) (by simp; try omega) ?_
        intro v1 w5 hown5 hg5 hat5
        have hbl5 : Below w8.heap.size w8 w5 := bl_grown (Below.drew (bl_alloc (Below.refl _ _) _)) hg5 (fun k hk => Nat.le_of_eq (Option.some.inj hk))
        obtain ⟨A1, c1, rfl, _⟩ := own_shape hown5
        rw [Nat.zero_add, List.nil_append] at hown5
        refine hK.out _ _ (fun _ => ⟨(bl_at hbl5 _ lg1).trans g1, (bl_at hbl5 _ lw1).trans g3⟩) ?_
        clear hK K
        try simp only [Act.put, List.setIfInBounds_toArray, List.set_cons_zero, List.set_cons_succ]
        simp only [Nat.zero_add]
        refine GoT.all [15] (by kernel_rfl) rfl ?_
        refine AllT.cons (i := 15) rfl (fun K hK => ?_) AllT.nil
        go_simp
        refine hK.out _ _ (fun _ => ⟨(bl_at (bl_alloc hbl5 _) _ lg1).trans g1, (bl_at (bl_alloc hbl5 _) _ lw1).trans g3⟩) ?_
        clear hK K
        try simp only [Act.put, List.setIfInBounds_toArray, List.set_cons_zero, List.set_cons_succ]
        refine GoT.all [16] (by kernel_rfl) rfl ?_
        refine AllT.cons (i := 16) rfl (fun K hK => ?_) AllT.nil
        refine step_append_rd _ rfl (.tmp 72) (.tmp 74) _ rfl w8.heap.size 134 i0 _ 1 8 Try.underlying127 hi0 hz0 hz1 hz2 rfl (by decide) (.slice A1 mW c1) mW XS rfl (hown5.alloc _) (w5.heap.size + 1) (some ⟨w5.heap.size, 0, none⟩) 1 1 [.pointer (some ⟨nd, 0, none⟩)] rfl (rd_new w5 134 1 1 [.pointer (some ⟨nd, 0, none⟩)] rfl) (by simp [Value.oneCell']) (by simp only [maxLen]; omega) (by omega) (by have := hbl5.size; simp; try omega) ?_
        intro v2 w6 hown6 hg6 hat6
        have hbl6 : Below w8.heap.size w8 w6 := bl_grown (bl_alloc hbl5 _) hg6 (fun k hk => (hown5.lt k hk).1)
        obtain ⟨A2, c2, rfl, _⟩ := own_shape hown6
        have q1 := (bl_at hbl6 _ lg1).trans g1
        have q3 := (bl_at hbl6 _ lw1).trans g3
        have lw6 := Blk.lt q3
        refine hK.out _ _ (fun _ => ⟨q1, q3⟩) ?_
        clear hK K
        try simp only [Act.put, List.setIfInBounds_toArray, List.set_cons_zero, List.set_cons_succ]
        have OW6 := hid hown6; have BL6 := hid hbl6
        clear hown6 hbl6 hg6 hat6 hg5 hat5 hown5 hbl5
        refine GoT.take 17 (v := ?vfsa17) rfl (by kernel_rfl) (fun _ _ _ h => h) (Or.inl ⟨by rfl, ?yfsa17⟩) ?rfsa17
        case yfsa17 => (intro W hSw; (try dsimp only at hSw); go_simp; try with_reducible rfl)
        try simp only [Act.put, List.setIfInBounds_toArray, List.set_cons_zero, List.set_cons_succ]
        refine GoT.all [18] (by kernel_rfl) rfl ?_
        refine AllT.cons (i := 18) rfl (fun K hK => ?_) AllT.nil
        go_simp
        refine hK.out _ _ (fun h => absurd h (by decide)) ?_
        clear hK K
        try simp only [Act.put, List.setIfInBounds_toArray, List.set_cons_zero, List.set_cons_succ]
        refine GoT.done (by kernel_rfl) ?_ _
        obtain ⟨wz, hwz⟩ : ∃ wz, wz = w6.setCell ⟨yq.lr, s, none⟩ (.slice A2 (mW + 1) c2) := ⟨_, rfl⟩
        rw [← hwz]
        have hto : DTo (more G w wq) B n yq.g (putAt ρ nb nd) wq wz (Sc.added s nb ⟨key, .int .u64 v, ch, true, 0⟩) := by
          rw [hwz]
          refine dput_added Dq.out (DOk.of OkS.out KkS.out.aln) (fun p hp => (OkS.out.pins p hp).2) NbS.out Hs.out B8.out (Nat.le_of_eq Hnd.out.symm) I8.out BL6.out (by rw [HmW.out]; simp) ?_
          have ho := OW6.out
          rw [HXS.out] at ho
          exact ho
        obtain ⟨yz, eyz, dz, cz⟩ := hto
        have Hpn : Hid (Calls Try.prog 89 #[.pointer (some ⟨y.g, 0, none⟩), .pointer (some ⟨nd, 0, none⟩)] wz fun e w' => e = .returned (.int .i64 (S.last + 1)) ∧ DTo G B n y.g (putAt ρ nb nd) w w' ((Sc.added s nb ⟨key, .int .u64 v, ch, true, 0⟩).pinned nb)) := hid (by
          have hit : (Sc.added s nb ⟨key, .int .u64 v, ch, true, 0⟩).it nb = ⟨key, .int .u64 v, ch, true, 0⟩ := upd_same _ _ _
          have := dpins_any nb dz (List.mem_append_right _ (List.mem_singleton.2 rfl)) (fun p hp => (OkS.out.pins p hp).1) OkS.out.last (by show Sc.last < _; rw [LastS.out]; exact Hl.out) (by rw [hit]; exact Int.le_refl 0) (by rw [hit]; exact OkS.out.last)
          rw [eyz, Eyq.out] at this
          rw [putAt_same] at this
          have e2 : (Sc.added s nb ⟨key, .int .u64 v, ch, true, 0⟩).last = S.last := LastS.out
          rw [e2] at this
          refine this.mono ?_
          rintro e w' ⟨k1, k2⟩
          exact ⟨k1, DTo.trans H.out.lt H.out.base (fun k hk => hk) Cq.out (DTo.trans Dq.out.lt Dq.out.base (fun k hk => hk) cz k2)⟩)
        clear hwz dz cz eyz q1 q3 lw6 g1 g3 lg1 lw1 e1 hWs
        go_wp2_with (go_at_call 89; refine Hpn.out.mono ?_; rintro e w9 ⟨rfl, hto9⟩; have Hto9 := hid hto9; clear hto9)
        refine HR.out _ _ ?_
        refine ⟨rfl, nd, ?_⟩
        rw [← HSc.out]
        exact Hto9.out
      · go_simp
        refine hK.out _ _ (fun _ => ⟨by go_simp, by go_simp⟩) ?_
        clear hK K
        try simp only [Act.put, List.setIfInBounds_toArray, List.set_cons_zero, List.set_cons_succ]
        refine GoT.all [13] (by kernel_rfl) rfl ?_
        refine AllT.cons (i := 13) rfl (fun K hK => ?_) AllT.nil
        refine step_append_rd _ rfl (.tmp 64) (.tmp 71) _ rfl w8.heap.size 134 i0 _ 1 8 Try.underlying127 hi0 hz0 hz1 hz2 rfl (by decide) (.slice (some ⟨w8.heap.size, 0, none⟩) 0 0) 0 [] rfl (own_drew (HE.out.alloc _)) w8.heap.size AW mW cW XS rfl ((Hrd.out.alloc (Nat.le_refl _) _).alloc (by simp) _) HX1.out (by simp only [maxLen]; omega) (by omega) (by simp; try omega) ?_
        intro v1 w5 hown5 hg5 hat5
        have hbl5 : Below w8.heap.size w8 w5 := bl_grown (Below.drew (bl_alloc (bl_alloc (Below.refl _ _) _) _)) hg5 (fun k hk => Nat.le_of_eq (Option.some.inj hk))
        obtain ⟨A1, c1, rfl, _⟩ := own_shape hown5
        rw [Nat.zero_add, List.nil_append] at hown5
        refine hK.out _ _ (fun _ => ⟨(bl_at hbl5 _ lg1).trans g1, (bl_at hbl5 _ lw1).trans g3⟩) ?_
        clear hK K
        try simp only [Act.put, List.setIfInBounds_toArray, List.set_cons_zero, List.set_cons_succ]
        simp only [Nat.zero_add]
        refine GoT.all [16] (by kernel_rfl) rfl ?_
        refine AllT.cons (i := 16) rfl (fun K hK => ?_) AllT.nil
        have hx5 : blkOf w5 (w8.heap.size + 1) = some (.cells #[.pointer (some ⟨nd, 0, none⟩)] 134 (0, 0)) := (gr_at hg5 (by first | (simp; done) | (simp; omega)) (fun e => by have e' : w8.heap.size = w8.heap.size + 1 := Option.some.inj e; omega)).trans (by go_simp)
        refine step_append_rd _ rfl (.tmp 72) (.tmp 74) _ rfl w8.heap.size 134 i0 _ 1 8 Try.underlying127 hi0 hz0 hz1 hz2 rfl (by decide) (.slice A1 mW c1) mW XS rfl hown5 (w8.heap.size + 1 + 1) (some ⟨w8.heap.size + 1, 0, none⟩) 1 1 [.pointer (some ⟨nd, 0, none⟩)] rfl (rd_blkc (xs := [.pointer (some ⟨nd, 0, none⟩)]) hx5 rfl) (by simp [Value.oneCell']) (by simp only [maxLen]; omega) (by omega) (by have := hbl5.size; simp; try omega) ?_
        intro v2 w6 hown6 hg6 hat6
        have hbl6 : Below w8.heap.size w8 w6 := bl_grown hbl5 hg6 (fun k hk => (hown5.lt k hk).1)
        obtain ⟨A2, c2, rfl, _⟩ := own_shape hown6
        have q1 := (bl_at hbl6 _ lg1).trans g1
        have q3 := (bl_at hbl6 _ lw1).trans g3
        have lw6 := Blk.lt q3
        refine hK.out _ _ (fun _ => ⟨q1, q3⟩) ?_
        clear hK K
        try simp only [Act.put, List.setIfInBounds_toArray, List.set_cons_zero, List.set_cons_succ]
        have OW6 := hid hown6; have BL6 := hid hbl6
        clear hown6 hbl6 hg6 hat6 hg5 hat5 hown5 hbl5
        refine GoT.take 17 (v := ?vfsb17) rfl (by kernel_rfl) (fun _ _ _ h => h) (Or.inl ⟨by rfl, ?yfsb17⟩) ?rfsb17
        case yfsb17 => (intro W hSw; (try dsimp only at hSw); go_simp; try with_reducible rfl)
        try simp only [Act.put, List.setIfInBounds_toArray, List.set_cons_zero, List.set_cons_succ]
        refine GoT.all [18] (by kernel_rfl) rfl ?_
        refine AllT.cons (i := 18) rfl (fun K hK => ?_) AllT.nil
        go_simp
        refine hK.out _ _ (fun h => absurd h (by decide)) ?_
        clear hK K
        try simp only [Act.put, List.setIfInBounds_toArray, List.set_cons_zero, List.set_cons_succ]
        refine GoT.done (by kernel_rfl) ?_ _
        obtain ⟨wz, hwz⟩ : ∃ wz, wz = w6.setCell ⟨yq.lr, s, none⟩ (.slice A2 (mW + 1) c2) := ⟨_, rfl⟩
        rw [← hwz]
        have hto : DTo (more G w wq) B n yq.g (putAt ρ nb nd) wq wz (Sc.added s nb ⟨key, .int .u64 v, ch, true, 0⟩) := by
          rw [hwz]
          refine dput_added Dq.out (DOk.of OkS.out KkS.out.aln) (fun p hp => (OkS.out.pins p hp).2) NbS.out Hs.out B8.out (Nat.le_of_eq Hnd.out.symm) I8.out BL6.out (by rw [HmW.out]; simp) ?_
          have ho := OW6.out
          rw [HXS.out] at ho
          exact ho
        obtain ⟨yz, eyz, dz, cz⟩ := hto
        have Hpn : Hid (Calls Try.prog 89 #[.pointer (some ⟨y.g, 0, none⟩), .pointer (some ⟨nd, 0, none⟩)] wz fun e w' => e = .returned (.int .i64 (S.last + 1)) ∧ DTo G B n y.g (putAt ρ nb nd) w w' ((Sc.added s nb ⟨key, .int .u64 v, ch, true, 0⟩).pinned nb)) := hid (by
          have hit : (Sc.added s nb ⟨key, .int .u64 v, ch, true, 0⟩).it nb = ⟨key, .int .u64 v, ch, true, 0⟩ := upd_same _ _ _
          have := dpins_any nb dz (List.mem_append_right _ (List.mem_singleton.2 rfl)) (fun p hp => (OkS.out.pins p hp).1) OkS.out.last (by show Sc.last < _; rw [LastS.out]; exact Hl.out) (by rw [hit]; exact Int.le_refl 0) (by rw [hit]; exact OkS.out.last)
          rw [eyz, Eyq.out] at this
          rw [putAt_same] at this
          have e2 : (Sc.added s nb ⟨key, .int .u64 v, ch, true, 0⟩).last = S.last := LastS.out
          rw [e2] at this
          refine this.mono ?_
          rintro e w' ⟨k1, k2⟩
          exact ⟨k1, DTo.trans H.out.lt H.out.base (fun k hk => hk) Cq.out (DTo.trans Dq.out.lt Dq.out.base (fun k hk => hk) cz k2)⟩)
        clear hwz dz cz eyz q1 q3 lw6 g1 g3 lg1 lw1 e1 hWs
        go_wp2_with (go_at_call 89; refine Hpn.out.mono ?_; rintro e w9 ⟨rfl, hto9⟩; have Hto9 := hid hto9; clear hto9)
        refine HR.out _ _ ?_
        refine ⟨rfl, nd, ?_⟩
        rw [← HSc.out]
        exact Hto9.out
    · go_simp
      refine hK.out _ _ (fun _ => ⟨by go_simp, by go_simp⟩) ?_
      clear hK K
      try simp only [Act.put, List.setIfInBounds_toArray, List.set_cons_zero, List.set_cons_succ]
      refine GoT.all [5] (by kernel_rfl) rfl ?_
      refine AllT.cons (i := 5) rfl (fun K hK => ?_) AllT.nil
      go_simp
      refine hK.out _ _ (fun _ => ⟨by go_simp, by go_simp⟩) ?_
      clear hK K
      try simp only [Act.put, List.setIfInBounds_toArray, List.set_cons_zero, List.set_cons_succ]
      refine GoT.all [13] (by kernel_rfl) rfl ?_
      refine AllT.cons (i := 13) rfl (fun K hK => ?_) AllT.nil
      have hE2 := World.ownsRow_made (e := 134) (size := 1) (w8.alloc (.cells #[.pointer (some ⟨nd, 0, none⟩)] 134)) #[] 0 (base := w8.heap.size) (by simp) (by simp [maxLen]) (by simp)
      rw [World.size_alloc] at hE2
      refine step_append_rd _ rfl (.tmp 64) (.tmp 71) _ rfl w8.heap.size 134 i0 _ 1 8 Try.underlying127 hi0 hz0 hz1 hz2 rfl (by decide) (.slice (some ⟨w8.heap.size + 1, 0, none⟩) 0 0) 0 [] rfl (own_drew hE2) w8.heap.size AW mW cW XS rfl ((Hrd.out.alloc (Nat.le_refl _) _).alloc (by simp) _) HX1.out (by simp only [maxLen]; omega) (by omega) (by simp; try omega) ?_
      intro v1 w5 hown5 hg5 hat5
      have hbl5 : Below w8.heap.size w8 w5 := bl_grown (Below.drew (bl_alloc (bl_alloc (Below.refl _ _) _) _)) hg5 (fun k hk => (by have e : w8.heap.size + 1 = k := Option.some.inj hk; omega))
      obtain ⟨A1, c1, rfl, _⟩ := own_shape hown5
      rw [Nat.zero_add, List.nil_append] at hown5
      refine hK.out _ _ (fun _ => ⟨(bl_at hbl5 _ lg1).trans g1, (bl_at hbl5 _ lw1).trans g3⟩) ?_
      clear hK K
      try simp only [Act.put, List.setIfInBounds_toArray, List.set_cons_zero, List.set_cons_succ]
      simp only [Nat.zero_add]
      refine GoT.all [16] (by kernel_rfl) rfl ?_
      refine AllT.cons (i := 16) rfl (fun K hK => ?_) AllT.nil
      have hx5 : blkOf w5 (w8.heap.size) = some (.cells #[.pointer (some ⟨nd, 0, none⟩)] 134 (0, 0)) := (gr_at hg5 (by first | (simp; done) | (simp; omega)) (fun e => by have e' : w8.heap.size + 1 = w8.heap.size := Option.some.inj e; omega)).trans (by go_simp)
      refine step_append_rd _ rfl (.tmp 72) (.tmp 74) _ rfl w8.heap.size 134 i0 _ 1 8 Try.underlying127 hi0 hz0 hz1 hz2 rfl (by decide) (.slice A1 mW c1) mW XS rfl hown5 (w8.heap.size + 1) (some ⟨w8.heap.size, 0, none⟩) 1 1 [.pointer (some ⟨nd, 0, none⟩)] rfl (rd_blkc (xs := [.pointer (some ⟨nd, 0, none⟩)]) hx5 rfl) (by simp [Value.oneCell']) (by simp only [maxLen]; omega) (by omega) (by have := hbl5.size; simp; try omega) ?_
      intro v2 w6 hown6 hg6 hat6
      have hbl6 : Below w8.heap.size w8 w6 := bl_grown hbl5 hg6 (fun k hk => (hown5.lt k hk).1)
      obtain ⟨A2, c2, rfl, _⟩ := own_shape hown6
      have q1 := (bl_at hbl6 _ lg1).trans g1
      have q3 := (bl_at hbl6 _ lw1).trans g3
      have lw6 := Blk.lt q3
      refine hK.out _ _ (fun _ => ⟨q1, q3⟩) ?_
      clear hK K
      try simp only [Act.put, List.setIfInBounds_toArray, List.set_cons_zero, List.set_cons_succ]
      have OW6 := hid hown6; have BL6 := hid hbl6
      clear hown6 hbl6 hg6 hat6 hg5 hat5 hown5 hbl5
      refine GoT.take 17 (v := ?vfsc17) rfl (by kernel_rfl) (fun _ _ _ h => h) (Or.inl ⟨by rfl, ?yfsc17⟩) ?rfsc17
      case yfsc17 => (intro W hSw; (try dsimp only at hSw); go_simp; try with_reducible rfl)
      try simp only [Act.put, List.setIfInBounds_toArray, List.set_cons_zero, List.set_cons_succ]
      refine GoT.all [18] (by kernel_rfl) rfl ?_
      refine AllT.cons (i := 18) rfl (fun K hK => ?_) AllT.nil
      go_simp
      refine hK.out _ _ (fun h => absurd h (by decide)) ?_
      clear hK K
      try simp only [Act.put, List.setIfInBounds_toArray, List.set_cons_zero, List.set_cons_succ]
      refine GoT.done (by kernel_rfl) ?_ _
      obtain ⟨wz, hwz⟩ : ∃ wz, wz = w6.setCell ⟨yq.lr, s, none⟩ (.slice A2 (mW + 1) c2) := ⟨_, rfl⟩
      rw [← hwz]
      have hto : DTo (more G w wq) B n yq.g (putAt ρ nb nd) wq wz (Sc.added s nb ⟨key, .int .u64 v, ch, true, 0⟩) := by
        rw [hwz]
        refine dput_added Dq.out (DOk.of OkS.out KkS.out.aln) (fun p hp => (OkS.out.pins p hp).2) NbS.out Hs.out B8.out (Nat.le_of_eq Hnd.out.symm) I8.out BL6.out (by rw [HmW.out]; simp) ?_
        have ho := OW6.out
        rw [HXS.out] at ho
        exact ho
      obtain ⟨yz, eyz, dz, cz⟩ := hto
      have Hpn : Hid (Calls Try.prog 89 #[.pointer (some ⟨y.g, 0, none⟩), .pointer (some ⟨nd, 0, none⟩)] wz fun e w' => e = .returned (.int .i64 (S.last + 1)) ∧ DTo G B n y.g (putAt ρ nb nd) w w' ((Sc.added s nb ⟨key, .int .u64 v, ch, true, 0⟩).pinned nb)) := hid (by
        have hit : (Sc.added s nb ⟨key, .int .u64 v, ch, true, 0⟩).it nb = ⟨key, .int .u64 v, ch, true, 0⟩ := upd_same _ _ _
        have := dpins_any nb dz (List.mem_append_right _ (List.mem_singleton.2 rfl)) (fun p hp => (OkS.out.pins p hp).1) OkS.out.last (by show Sc.last < _; rw [LastS.out]; exact Hl.out) (by rw [hit]; exact Int.le_refl 0) (by rw [hit]; exact OkS.out.last)
        rw [eyz, Eyq.out] at this
        rw [putAt_same] at this
        have e2 : (Sc.added s nb ⟨key, .int .u64 v, ch, true, 0⟩).last = S.last := LastS.out
        rw [e2] at this
        refine this.mono ?_
        rintro e w' ⟨k1, k2⟩
        exact ⟨k1, DTo.trans H.out.lt H.out.base (fun k hk => hk) Cq.out (DTo.trans Dq.out.lt Dq.out.base (fun k hk => hk) cz k2)⟩)
      clear hwz dz cz eyz q1 q3 lw6 g1 g3 lg1 lw1 e1 hWs
      go_wp2_with (go_at_call 89; refine Hpn.out.mono ?_; rintro e w9 ⟨rfl, hto9⟩; have Hto9 := hid hto9; clear hto9)
      refine HR.out _ _ ?_
      refine ⟨rfl, nd, ?_⟩
      rw [← HSc.out]
      exact Hto9.out
end
end Go.Proofs.Ytbiaelaaihieeaa
