/- CacheActs, parts E25: what the document's cache does, in one memory with the program's. -/
import Derived.Test.YtbiaelaaihieeaaEF
import Derived.Test.YtbiaelaaihieeaaP2
import Derived.Test.YtbiaelaaihieeaaP5
set_option linter.unusedVariables false
set_option linter.unusedSimpArgs false
set_option maxRecDepth 100000
/- CacheActs: the walk of the statement. -/
namespace Go.Proofs.Ytbiaelaaihieeaa
open Go.RowKit
section
variable {B g gd n : Nat} {S S' : CS} {w w1 w2 : World} {x x' : CL} {y : DL} {G : Nat → Prop} {ρ ρ' : Nat → Nat}
theorem does_any (k p : Int) (key : ByteArray) (v ch : Int) (s : StX B g gd n S w x y G ρ) (hk : key.size ≤ maxLen) (hv : 0 ≤ v ∧ v ≤ 18446744073709551615) (hch : 0 ≤ ch ∧ ch ≤ 18446744073709551615) (hl : S.last < 8796093022000) :
    Calls Try.prog 36 #[.pointer (some ⟨g, 0, none⟩), .pointer (some ⟨gd, 0, none⟩), .agg #[.int .i64 k, .int .i64 p, .string key, .int .u64 v, .int .u64 ch]] w fun e w' => e = .returned (.bool true) ∧ Done B g gd n S w w' := by
  by_cases h0 : k = 0
  · subst h0; exact does0 0 p key v ch s hk hv hch hl
  by_cases h1 : k = 1
  · subst h1; exact does1 1 p key v ch s hk hv hch hl
  by_cases h2 : k = 2
  · subst h2; exact does2 2 p key v ch s hk hv hch hl
  by_cases h3 : k = 3
  · subst h3; exact does3 3 p key v ch s hk hv hch hl
  by_cases h4 : k = 4
  · subst h4; exact does4 4 p key v ch s hk hv hch hl
  by_cases h5 : k = 5
  · subst h5; exact does5 5 p key v ch s hk hv hch hl
  exact does6 k p key v ch s hk hv hch hl (by simpa using h0) (by simpa using h1) (by simpa using h2) (by simpa using h3) (by simpa using h4) (by simpa using h5)
theorem DAt.rebase {B' : Nat} (h : DAt G B w n y S ρ) (hB : B' ≤ B) : DAt G B' w n y S ρ :=
  ⟨h.blk, h.lrow, h.wrow, h.ne, fun i hi => own_base (h.L i hi) hB, fun i hi => own_base (h.W i hi) hB, h.its, h.inj, own_base h.pin hB, h.pl, h.gb, fun k hk => ⟨Nat.le_trans hB (h.lt k hk).1, (h.lt k hk).2⟩⟩
theorem kok_fresh (n : Nat) (room : Int) (st : Bool) : KOk n (CS.fresh room st) := ⟨fun _ _ => by show ([] : List ByteArray).Nodup; exact List.nodup_nil, fun _ _ b hb => (by cases hb), fun _ _ => List.nodup_nil⟩
theorem st_fresh {room : Int} {st : Bool} (hn : x.n = n) (hr : 0 ≤ room ∧ room ≤ 18446744073709551615) (hc : CAt B w1 x (CS.fresh room st)) (hB : B ≤ w1.heap.size) (hd : ∀ ρ, DAt G w1.heap.size w2 n y (CS.new room st) ρ) (hb : Below w1.heap.size w1 w2) : StX B x.g y.g n (CS.fresh room st) w2 x y G (fun k => k) :=
  ⟨ok_fresh n room st hr, kok_fresh n room st, fun b hb => (by cases hb), fun p hp => (by cases hp), rfl, hn, rfl, hc.below hb, (hd _).rebase hB, fun k hk hG => by have := (hc.lt hk).2; have := ((hd (fun k => k)).lt k hG).1; omega⟩
def ActsRel (w : World) (B g gd n N : Nat) (gk : Nat) (v9 : Value) (wr : World) : Prop :=
  ∃ (i : Nat) (S : CS), i ≤ N ∧ gk = N - i ∧ v9 = .int .i64 i ∧ St B g gd n S wr ∧ S.last ≤ i ∧ Below w.heap.size w wr
theorem acts_no (n room : Int) (st : Bool) (v : Value) (w : World) (h : n < 1 ∨ 64 < n) :
    Calls Try.prog 9 #[.agg #[.int .i64 n, .int .u64 room, .bool st], v] w fun e w' => e = .returned (.bool true) ∧ Below w.heap.size w w' := by
  refine calls_of fun R HR => ?_
  have Hn := hid (fun W => cnew_no n room st W h)
  have Hd := hid (fun W => dnew_no n room st W h)
  have Hlv := hid (Str.clives_any (w.alloc (.cells #[.int .i64 n, .int .u64 room, .bool st] 54)))
  clear h
  go_enter Try.func9, Try.ntmps9
  go_wp2_with (first
    | (go_at_call 24; refine Hlv.out.mono ?_; rintro e w3 ⟨rfl, hb3⟩; have Hb3 := hid (bl_then (bl_alloc (Below.refl _ _) _) hb3); clear hb3)
    | (go_at_call 35; refine (Hd.out _).mono ?_; rintro e w2 ⟨rfl, hw2⟩; obtain rfl := hw2.symm)
    | (go_at_call 23; refine (Hn.out _).mono ?_; rintro e w2 ⟨rfl, hw2⟩; obtain rfl := hw2.symm))
  exact HR.out _ _ ⟨rfl, Hb3.out⟩
set_option maxHeartbeats 6400000 in
theorem acts_ok (n : Nat) (room : Int) (st : Bool) (A : Option Addr) (N c : Nat) (l : List CActD) (w : World) (h0 : 0 < n) (h1 : n ≤ 64) (hroom : 0 ≤ room ∧ room ≤ 18446744073709551615) (hr : Rd w w.heap.size 5 A N (cactsC l)) (hN : N ≤ 4398046511103)
    (hQ : ∀ a ∈ l, a.2.2.1.size ≤ maxLen ∧ (0 ≤ a.2.2.2.1 ∧ a.2.2.2.1 ≤ 18446744073709551615) ∧ (0 ≤ a.2.2.2.2 ∧ a.2.2.2.2 ≤ 18446744073709551615)) :
    Calls Try.prog 9 #[.agg #[.int .i64 n, .int .u64 room, .bool st], .slice A N c] w fun e w' => e = .returned (.bool true) ∧ Below w.heap.size w w' := by
  refine calls_of fun R HR => ?_
  have HQ := hid hQ; have Hr := hid hr; have Hroom := hid hroom
  clear hQ hr hroom
  go_enter Try.func9, Try.ntmps9
  go_wp2_with fail
  obtain ⟨v, hv⟩ : ∃ v : World, v = w.alloc (.cells #[.int .i64 n, .int .u64 room, .bool st] 54) := ⟨_, rfl⟩
  rw [← hv]
  have Hv := hid hv
  have hf : blkOf v w.heap.size = some (.cells #[.int .i64 n, .int .u64 room, .bool st] 54 (0, 0)) := by rw [hv]; exact blk_new w _
  have hvs : v.heap.size = w.heap.size + 1 := by rw [hv]; exact World.size_alloc ..
  have hbv : Below w.heap.size w v := by rw [hv]; exact bl_alloc (Below.refl _ _) _
  clear hv Hv
  refine (cnew_any n room st _ h0 h1).mono ?_
  rintro e w1 ⟨x, rfl, hxn, c1, hb1⟩
  have hf1 : blkOf w1 w.heap.size = _ := (bl_at hb1 _ (by omega)).trans hf
  have lf1 := Blk.lt hf1
  have C1 := hid c1
  have hbv1 := hbv.trans (hb1.mono (by omega))
  have Hbv1 := hid hbv1
  have hBs := hb1.size
  have HBs := hid hBs
  have hvw : w.heap.size ≤ v.heap.size := by omega
  have Hvw := hid hvw
  clear c1 hbv1 hb1 hf hbv hBs hvs hvw
  go_wp2_with fail
  refine (dnew_any n room st _ h0 h1).mono ?_
  rintro e w2 ⟨y, G, rfl, hd, hb2⟩
  have s2 := st_fresh hxn Hroom.out C1.out HBs.out hd hb2
  obtain ⟨g, hg⟩ : ∃ g, g = x.g := ⟨_, rfl⟩
  obtain ⟨gd, hgd⟩ : ∃ gd, gd = y.g := ⟨_, rfl⟩
  rw [← hg, ← hgd] at s2 ⊢
  have H0 : Hid (ActsRel w v.heap.size g gd n N N (.int .i64 0) w2) := hid ⟨0, _, Nat.zero_le _, rfl, rfl, ⟨x, y, G, _, s2⟩, Int.le_refl 0, Hbv1.out.trans (hb2.mono (Nat.le_trans Hvw.out HBs.out))⟩
  clear hd hb2 s2 hg hgd hf1 lf1 hxn
  go_wp2
  go_loopg [9] N (fun gk v9 wr => ActsRel w v.heap.size g gd n N gk v9 wr)
  case atStart => exact H0.out
  case round =>
    clear H0
    obtain ⟨i, S, hi, rfl, rfl, ⟨x, y, G, ρ, s⟩, hlast, hbl⟩ := hrel
    obtain ⟨wo, hwo⟩ : ∃ wo : World, wo = wr := ⟨_, rfl⟩
    subst hwo
    have Hs := hid s; have Hlast := hid hlast; have Hbl := hid hbl
    clear s hlast hbl
    by_cases hlt : i < N
    · obtain ⟨ab, o, hl, rfl, lab, k0, k1, k2, k3, k4⟩ := cact_at Hr.out Hbl.out hlt
      have hi0 : (0 : Int) ≤ (i : Int) := Int.natCast_nonneg _
      have hi1 : (i : Int) < (N : Int) := by omega
      have hq := HQ.out l[i] (List.getElem_mem hl)
      obtain ⟨a, ha⟩ : ∃ a, a = l[i] := ⟨_, rfl⟩
      rw [← ha] at k0 k1 k2 k3 k4 hq
      obtain ⟨ak, ap, akey, av, ac⟩ := a
      have Hq := hid hq
      have hkeep : ∀ W W' : World, Below v.heap.size W W' → blkOf W' ab = blkOf W ab := fun _ _ h => bl_at h ab (Nat.lt_of_lt_of_le lab Hvw.out)
      have Hkeep := hid hkeep
      clear ha hq hkeep hl
      simp only [] at k0 k1 k2 k3 k4
      have Hdo : Hid (∀ W, Below wo.heap.size wo W → Calls Try.prog 36 #[.pointer (some ⟨g, 0, none⟩), .pointer (some ⟨gd, 0, none⟩), .agg #[.int .i64 ak, .int .i64 ap, .string akey, .int .u64 av, .int .u64 ac]] W fun e w' => e = .returned (.bool true) ∧ Done v.heap.size g gd n S W w') :=
        hid (fun W hW => does_any ak ap akey av ac (Hs.out.below hW) Hq.out.1 Hq.out.2.1 Hq.out.2.2 (by have := Hlast.out; omega))
      go_upto_region 10 with fail
      by_cases h4 : i % 4 = 3
      · have hm5 : (i : Int).tmod 4 = 3 := by rw [Int.tmod_eq_emod_of_nonneg hi0]; omega
        have H4 := hid h4
        clear h4
        refine wp_region_T (fun W => (blkOf W ab).bind (cellAt (o + i * 5)) = some (.int .i64 ak) ∧ (blkOf W ab).bind (cellAt (o + i * 5 + 1)) = some (.int .i64 ap) ∧ (blkOf W ab).bind (cellAt (o + i * 5 + 2)) = some (.string akey) ∧ (blkOf W ab).bind (cellAt (o + i * 5 + 3)) = some (.int .u64 av) ∧ (blkOf W ab).bind (cellAt (o + i * 5 + 4)) = some (.int .u64 ac)) 35 [] (by kernel_rfl) (by kernel_rfl) ⟨k0, k1, k2, k3, k4⟩ ?_
        refine GoT.take 0 (v := ?vt0) rfl (by kernel_rfl) (fun _ _ _ h => h) (Or.inl ⟨by rfl, ?yt0⟩) ?rt0
        case yt0 => (intro W hSw; (try dsimp only at hSw); go_simp; try with_reducible rfl)
        try simp only [Act.put, List.setIfInBounds_toArray, List.set_cons_zero, List.set_cons_succ]
        refine GoT.take 1 (v := ?vt1) rfl (by kernel_rfl) (fun _ _ _ h => h) (Or.inl ⟨by rfl, ?yt1⟩) ?rt1
        case yt1 => (intro W hSw; (try dsimp only at hSw); go_simp; try with_reducible rfl)
        try simp only [Act.put, List.setIfInBounds_toArray, List.set_cons_zero, List.set_cons_succ]
        refine GoT.take 2 (v := ?vt2) rfl (by kernel_rfl) (fun _ _ _ h => h) (Or.inl ⟨by rfl, ?yt2⟩) ?rt2
        case yt2 => (intro W hSw; (try dsimp only at hSw); go_simp; try with_reducible rfl)
        try simp only [Act.put, List.setIfInBounds_toArray, List.set_cons_zero, List.set_cons_succ]
        refine GoT.take 3 (v := ?vt3) rfl (by kernel_rfl) (fun _ _ _ h => h) (Or.inl ⟨by rfl, ?yt3⟩) ?rt3
        case yt3 => (intro W hSw; (try dsimp only at hSw); go_simp; try with_reducible rfl)
        try simp only [Act.put, List.setIfInBounds_toArray, List.set_cons_zero, List.set_cons_succ]
        refine GoT.take 4 (v := ?vt4) rfl (by kernel_rfl) (fun _ _ _ h => h) (Or.inl ⟨by rfl, ?yt4⟩) ?rt4
        case yt4 => (intro W hSw; (try dsimp only at hSw); go_simp; try with_reducible rfl)
        try simp only [Act.put, List.setIfInBounds_toArray, List.set_cons_zero, List.set_cons_succ]
        refine GoT.take 5 (v := ?vt5) rfl (by kernel_rfl) (fun _ _ _ h => h) (Or.inl ⟨by rfl, ?yt5⟩) ?rt5
        case yt5 => (intro W hSw; (try dsimp only at hSw); go_simp; try with_reducible rfl)
        try simp only [Act.put, List.setIfInBounds_toArray, List.set_cons_zero, List.set_cons_succ]
        refine GoT.all [6] (by kernel_rfl) rfl ?_
        refine AllT.cons (i := 6) rfl (fun K hK => ?_) AllT.nil
        go_simp
        go_at_call 36
        refine (Hdo.out _ (bl_drewN (Below.refl _ _) 1)).mono ?_
        rintro e w2 ⟨rfl, S2, ⟨x2, y2, G2, ρ2, s2⟩, hl2, hb2⟩
        have eb : blkOf w2 ab = blkOf wo ab := Hkeep.out _ _ (show Below v.heap.size wo w2 from ⟨hb2.os, hb2.tape, hb2.output, hb2.size, hb2.block⟩)
        have f0 := k0; have f1 := k1; have f2 := k2; have f3 := k3; have f4 := k4
        rw [← eb] at f0 f1 f2 f3 f4
        refine hK.out _ _ (fun _ => ⟨f0, f1, f2, f3, f4⟩) ?_
        clear hK K
        try simp only [Act.put, List.setIfInBounds_toArray, List.set_cons_zero, List.set_cons_succ]
        have Hs2 := hid s2; have Hl2 := hid hl2; have Hb2 := hid hb2
        have Hsh1 : Hid (Calls Try.prog 29 #[.pointer (some ⟨g, 0, none⟩), .string akey] w2 fun e w' => e = .returned (.int .i64 (sidx n akey)) ∧ Below w2.heap.size w2 w') := hid (by
          have hc := s2.c.blk
          rw [s2.hg, s2.hn] at hc
          exact shard_any g akey _ n _ _ _ _ _ w2 hc h0 h1 Hq.out.1)
        clear s2 hl2 hb2 eb f0 f1 f2 f3 f4
        refine GoT.take 7 (v := ?vt7) rfl (by kernel_rfl) (fun _ _ _ h => h) (Or.inl ⟨by rfl, ?yt7⟩) ?rt7
        case yt7 => (intro W hSw; (try dsimp only at hSw); go_simp; try with_reducible rfl)
        try simp only [Act.put, List.setIfInBounds_toArray, List.set_cons_zero, List.set_cons_succ]
        refine GoT.take 8 (v := ?vt8) rfl (by kernel_rfl) (fun _ _ _ h => h) (Or.inl ⟨by rfl, ?yt8⟩) ?rt8
        case yt8 => (intro W hSw; (try dsimp only at hSw); go_simp; try with_reducible rfl)
        try simp only [Act.put, List.setIfInBounds_toArray, List.set_cons_zero, List.set_cons_succ]
        refine GoT.take 9 (v := ?vt9) rfl (by kernel_rfl) (fun _ _ _ h => h) (Or.inl ⟨by simp [Region.wanted, yielded], ?yt9⟩) ?rt9
        case yt9 => (intro W hSw; (try dsimp only at hSw); go_simp; try with_reducible rfl)
        try simp only [Act.put, List.setIfInBounds_toArray, List.set_cons_zero, List.set_cons_succ]
        refine GoT.take 10 (v := ?vt10) rfl (by kernel_rfl) (fun _ _ _ h => h) (Or.inl ⟨by simp [Region.wanted, yielded], ?yt10⟩) ?rt10
        case yt10 => (intro W hSw; (try dsimp only at hSw); go_simp; try with_reducible rfl)
        try simp only [Act.put, List.setIfInBounds_toArray, List.set_cons_zero, List.set_cons_succ]
        refine GoT.take 11 (v := ?vt11) rfl (by kernel_rfl) (fun _ _ _ h => h) (Or.inl ⟨by simp [Region.wanted, yielded], ?yt11⟩) ?rt11
        case yt11 => (intro W hSw; (try dsimp only at hSw); go_simp; try with_reducible rfl)
        try simp only [Act.put, List.setIfInBounds_toArray, List.set_cons_zero, List.set_cons_succ]
        refine GoT.take 12 (v := ?vt12) rfl (by kernel_rfl) (fun _ _ _ h => h) (Or.inl ⟨by simp [Region.wanted, yielded], ?yt12⟩) ?rt12
        case yt12 => (intro W hSw; (try dsimp only at hSw); go_simp; try with_reducible rfl)
        try simp only [Act.put, List.setIfInBounds_toArray, List.set_cons_zero, List.set_cons_succ]
        refine GoT.take 13 (v := ?vt13) rfl (by kernel_rfl) (fun _ _ _ h => h) (Or.inl ⟨by simp [Region.wanted, yielded], ?yt13⟩) ?rt13
        case yt13 => (intro W hSw; (try dsimp only at hSw); go_simp; try with_reducible rfl)
        try simp only [Act.put, List.setIfInBounds_toArray, List.set_cons_zero, List.set_cons_succ]
        refine GoT.take 14 (v := ?vt14) rfl (by kernel_rfl) (fun _ _ _ h => h) (Or.inl ⟨by simp [Region.wanted, yielded], ?yt14⟩) ?rt14
        case yt14 => (intro W hSw; (try dsimp only at hSw); go_simp; try with_reducible rfl)
        try simp only [Act.put, List.setIfInBounds_toArray, List.set_cons_zero, List.set_cons_succ]
        refine GoT.take 16 (v := ?vt16) rfl (by kernel_rfl) (fun _ _ _ h => h) (Or.inl ⟨by simp [Region.wanted, yielded], ?yt16⟩) ?rt16
        case yt16 => (intro W hSw; (try dsimp only at hSw); go_simp; try with_reducible rfl)
        try simp only [Act.put, List.setIfInBounds_toArray, List.set_cons_zero, List.set_cons_succ]
        refine GoT.take 17 (v := ?vt17) rfl (by kernel_rfl) (fun _ _ _ h => h) (Or.inl ⟨by simp [Region.wanted, yielded], ?yt17⟩) ?rt17
        case yt17 => (intro W hSw; (try dsimp only at hSw); go_simp; try with_reducible rfl)
        try simp only [Act.put, List.setIfInBounds_toArray, List.set_cons_zero, List.set_cons_succ]
        refine GoT.take 18 (v := ?vt18) rfl (by kernel_rfl) (fun _ _ _ h => h) (Or.inl ⟨by simp [Region.wanted, yielded], ?yt18⟩) ?rt18
        case yt18 => (intro W hSw; (try dsimp only at hSw); go_simp; try with_reducible rfl)
        try simp only [Act.put, List.setIfInBounds_toArray, List.set_cons_zero, List.set_cons_succ]
        refine GoT.take 19 (v := ?vt19) rfl (by kernel_rfl) (fun _ _ _ h => h) (Or.inl ⟨by simp [Region.wanted, yielded], ?yt19⟩) ?rt19
        case yt19 => (intro W hSw; (try dsimp only at hSw); go_simp; try with_reducible rfl)
        try simp only [Act.put, List.setIfInBounds_toArray, List.set_cons_zero, List.set_cons_succ]
        refine GoT.take 20 (v := ?vt20) rfl (by kernel_rfl) (fun _ _ _ h => h) (Or.inl ⟨by simp [Region.wanted, yielded], ?yt20⟩) ?rt20
        case yt20 => (intro W hSw; (try dsimp only at hSw); go_simp; try with_reducible rfl)
        try simp only [Act.put, List.setIfInBounds_toArray, List.set_cons_zero, List.set_cons_succ]
        refine GoT.take 21 (v := ?vt21) rfl (by kernel_rfl) (fun _ _ _ h => h) (Or.inl ⟨by simp [Region.wanted, yielded], ?yt21⟩) ?rt21
        case yt21 => (intro W hSw; (try dsimp only at hSw); go_simp; try with_reducible rfl)
        try simp only [Act.put, List.setIfInBounds_toArray, List.set_cons_zero, List.set_cons_succ]
        refine GoT.all [15] (by kernel_rfl) rfl ?_
        refine AllT.cons (i := 15) rfl (fun K hK => ?_) AllT.nil
        go_simp
        go_at_call 29
        refine Hsh1.out.mono ?_
        rintro e w3 ⟨rfl, hb3⟩
        have s3 := Hs2.out.below hb3
        have hb23 : Below v.heap.size wo w3 := (show Below v.heap.size wo w2 from ⟨Hb2.out.os, Hb2.out.tape, Hb2.out.output, Hb2.out.size, Hb2.out.block⟩).trans (hb3.mono Hs2.out.base)
        have eb : blkOf w3 ab = blkOf wo ab := Hkeep.out _ _ hb23
        have f0 := k0; have f1 := k1; have f2 := k2; have f3 := k3; have f4 := k4
        rw [← eb] at f0 f1 f2 f3 f4
        refine hK.out _ _ (fun _ => ⟨f0, f1, f2, f3, f4⟩) ?_
        clear hK K
        try simp only [Act.put, List.setIfInBounds_toArray, List.set_cons_zero, List.set_cons_succ]
        have Hs3 := hid s3; have Hb23 := hid hb23
        have Hsh2 : Hid (Calls Try.prog 37 #[.pointer (some ⟨gd, 0, none⟩), .string akey] w3 fun e w' => e = .returned (.int .i64 (sidx n akey)) ∧ w' = w3) := hid (by
          have hd := s3.d.blk
          rw [s3.hd] at hd
          exact dshard_any gd akey n _ w3 hd rfl h0 h1 Hq.out.1)
        have Htl := hid (tells_any s3 (by have := Hl2.out; have := Hlast.out; omega))
        clear s3 hb23 eb hb3
        refine GoT.all [22] (by kernel_rfl) rfl ?_
        refine AllT.cons (i := 22) rfl (fun K hK => ?_) AllT.nil
        go_simp
        go_at_call 37
        refine Hsh2.out.mono ?_
        rintro e w4 ⟨rfl, hw4⟩
        obtain rfl := hw4.symm
        refine hK.out _ _ (fun _ => ⟨f0, f1, f2, f3, f4⟩) ?_
        clear hK K hw4
        try simp only [Act.put, List.setIfInBounds_toArray, List.set_cons_zero, List.set_cons_succ]
        refine GoT.take 23 (v := ?vt23) rfl (by kernel_rfl) (fun _ _ _ h => h) (Or.inl ⟨by simp [Region.wanted, yielded], ?yt23⟩) ?rt23
        case yt23 => (intro W hSw; (try dsimp only at hSw); go_simp; try with_reducible rfl)
        try simp only [Act.put, List.setIfInBounds_toArray, List.set_cons_zero, List.set_cons_succ]
        refine GoT.take 24 (v := ?vt24) rfl (by kernel_rfl) (fun _ _ _ h => h) (Or.inl ⟨by rfl, ?yt24⟩) ?rt24
        case yt24 => (intro W hSw; (try dsimp only at hSw); go_simp; try with_reducible rfl)
        try simp only [Act.put, List.setIfInBounds_toArray, List.set_cons_zero, List.set_cons_succ]
        refine GoT.take 25 (v := ?vt25) rfl (by kernel_rfl) (fun _ _ _ h => h) (Or.inl ⟨by rfl, ?yt25⟩) ?rt25
        case yt25 => (intro W hSw; (try dsimp only at hSw); go_simp; try with_reducible rfl)
        try simp only [Act.put, List.setIfInBounds_toArray, List.set_cons_zero, List.set_cons_succ]
        refine GoT.take 26 (v := ?vt26) rfl (by kernel_rfl) (fun _ _ _ h => h) (Or.inl ⟨by simp [Region.wanted, yielded], ?yt26⟩) ?rt26
        case yt26 => (intro W hSw; (try dsimp only at hSw); go_simp; try with_reducible rfl)
        try simp only [Act.put, List.setIfInBounds_toArray, List.set_cons_zero, List.set_cons_succ]
        refine GoT.take 27 (v := ?vt27) rfl (by kernel_rfl) (fun _ _ _ h => h) (Or.inl ⟨by simp [Region.wanted, yielded], ?yt27⟩) ?rt27
        case yt27 => (intro W hSw; (try dsimp only at hSw); go_simp; try with_reducible rfl)
        try simp only [Act.put, List.setIfInBounds_toArray, List.set_cons_zero, List.set_cons_succ]
        refine GoT.take 28 (v := ?vt28) rfl (by kernel_rfl) (fun _ _ _ h => h) (Or.inl ⟨by simp [Region.wanted, yielded], ?yt28⟩) ?rt28
        case yt28 => (intro W hSw; (try dsimp only at hSw); go_simp; try with_reducible rfl)
        try simp only [Act.put, List.setIfInBounds_toArray, List.set_cons_zero, List.set_cons_succ]
        refine GoT.take 29 (v := ?vt29) rfl (by kernel_rfl) (fun _ _ _ h => h) (Or.inl ⟨by simp [Region.wanted, yielded], ?yt29⟩) ?rt29
        case yt29 => (intro W hSw; (try dsimp only at hSw); go_simp; try with_reducible rfl)
        try simp only [Act.put, List.setIfInBounds_toArray, List.set_cons_zero, List.set_cons_succ]
        refine GoT.take 30 (v := ?vt30) rfl (by kernel_rfl) (fun _ _ _ h => h) (Or.inl ⟨by simp [Region.wanted, yielded], ?yt30⟩) ?rt30
        case yt30 => (intro W hSw; (try dsimp only at hSw); go_simp; try with_reducible rfl)
        try simp only [Act.put, List.setIfInBounds_toArray, List.set_cons_zero, List.set_cons_succ]
        refine GoT.take 31 (v := ?vt31) rfl (by kernel_rfl) (fun _ _ _ h => h) (Or.inl ⟨by simp [Region.wanted, yielded], ?yt31⟩) ?rt31
        case yt31 => (intro W hSw; (try dsimp only at hSw); go_simp; try with_reducible rfl)
        try simp only [Act.put, List.setIfInBounds_toArray, List.set_cons_zero, List.set_cons_succ]
        refine GoT.all [32] (by kernel_rfl) rfl ?_
        refine AllT.cons (i := 32) rfl (fun K hK => ?_) AllT.nil
        go_simp
        go_at_call 38
        refine Htl.out.mono ?_
        rintro e w5 ⟨rfl, hb5⟩
        have hb25 : Below v.heap.size wo w5 := Hb23.out.trans (hb5.mono Hs3.out.base)
        have eb : blkOf w5 ab = blkOf wo ab := Hkeep.out _ _ hb25
        have f0 := k0; have f1 := k1; have f2 := k2; have f3 := k3; have f4 := k4
        rw [← eb] at f0 f1 f2 f3 f4
        refine hK.out _ _ (fun _ => ⟨f0, f1, f2, f3, f4⟩) ?_
        clear hK K
        try simp only [Act.put, List.setIfInBounds_toArray, List.set_cons_zero, List.set_cons_succ]
        have Hb25 := hid hb25; have Hs5 := hid (Hs3.out.below hb5)
        clear hb25 eb hb5
        refine GoT.take 33 (v := ?vt33) rfl (by kernel_rfl) (fun _ _ _ h => h) (Or.inl ⟨by simp [Region.wanted, yielded], ?yt33⟩) ?rt33
        case yt33 => (intro W hSw; (try dsimp only at hSw); go_simp; try with_reducible rfl)
        try simp only [Act.put, List.setIfInBounds_toArray, List.set_cons_zero, List.set_cons_succ]
        refine GoT.take 34 (v := ?vt34) rfl (by kernel_rfl) (fun _ _ _ h => h) (Or.inl ⟨by simp [Region.wanted, yielded], ?yt34⟩) ?rt34
        case yt34 => (intro W hSw; (try dsimp only at hSw); go_simp; try with_reducible rfl)
        try simp only [Act.put, List.setIfInBounds_toArray, List.set_cons_zero, List.set_cons_succ]
        refine GoT.all [35] (by kernel_rfl) rfl ?_
        refine AllT.cons (i := 35) rfl (fun K hK => ?_) AllT.nil
        go_simp
        refine hK.out _ _ (fun h => absurd h (by decide)) ?_
        clear hK K
        try simp only [Act.put, List.setIfInBounds_toArray, List.set_cons_zero, List.set_cons_succ]
        refine GoT.done (by kernel_rfl) ?_ _
        clear f0 f1 f2 f3 f4 k0 k1 k2 k3 k4
        go_wp2
        go_roundg (N - (i + 1))
        case measure => omega
        case rel => exact ⟨i + 1, S2, by omega, rfl, by go_num, ⟨x2, y2, G2, ρ2, Hs5.out⟩, by have := Hl2.out; have := Hlast.out; omega, Hbl.out.trans (Below.mono Hb25.out Hvw.out)⟩
      · have hm6 : ¬ (i : Int).tmod 4 = 3 := by rw [Int.tmod_eq_emod_of_nonneg hi0]; omega
        have hm5 : ((i : Int).tmod 4 == 3) = false := by rw [beq_eq_false_iff_ne]; exact hm6
        have H4 := hid h4
        clear h4
        refine wp_region_T (fun W => (blkOf W ab).bind (cellAt (o + i * 5)) = some (.int .i64 ak) ∧ (blkOf W ab).bind (cellAt (o + i * 5 + 1)) = some (.int .i64 ap) ∧ (blkOf W ab).bind (cellAt (o + i * 5 + 2)) = some (.string akey) ∧ (blkOf W ab).bind (cellAt (o + i * 5 + 3)) = some (.int .u64 av) ∧ (blkOf W ab).bind (cellAt (o + i * 5 + 4)) = some (.int .u64 ac)) 35 [] (by kernel_rfl) (by kernel_rfl) ⟨k0, k1, k2, k3, k4⟩ ?_
        refine GoT.take 0 (v := ?vf0) rfl (by kernel_rfl) (fun _ _ _ h => h) (Or.inl ⟨by rfl, ?yf0⟩) ?rf0
        case yf0 => (intro W hSw; (try dsimp only at hSw); go_simp; try with_reducible rfl)
        try simp only [Act.put, List.setIfInBounds_toArray, List.set_cons_zero, List.set_cons_succ]
        refine GoT.take 1 (v := ?vf1) rfl (by kernel_rfl) (fun _ _ _ h => h) (Or.inl ⟨by rfl, ?yf1⟩) ?rf1
        case yf1 => (intro W hSw; (try dsimp only at hSw); go_simp; try with_reducible rfl)
        try simp only [Act.put, List.setIfInBounds_toArray, List.set_cons_zero, List.set_cons_succ]
        refine GoT.take 2 (v := ?vf2) rfl (by kernel_rfl) (fun _ _ _ h => h) (Or.inl ⟨by rfl, ?yf2⟩) ?rf2
        case yf2 => (intro W hSw; (try dsimp only at hSw); go_simp; try with_reducible rfl)
        try simp only [Act.put, List.setIfInBounds_toArray, List.set_cons_zero, List.set_cons_succ]
        refine GoT.take 3 (v := ?vf3) rfl (by kernel_rfl) (fun _ _ _ h => h) (Or.inl ⟨by rfl, ?yf3⟩) ?rf3
        case yf3 => (intro W hSw; (try dsimp only at hSw); go_simp; try with_reducible rfl)
        try simp only [Act.put, List.setIfInBounds_toArray, List.set_cons_zero, List.set_cons_succ]
        refine GoT.take 4 (v := ?vf4) rfl (by kernel_rfl) (fun _ _ _ h => h) (Or.inl ⟨by rfl, ?yf4⟩) ?rf4
        case yf4 => (intro W hSw; (try dsimp only at hSw); go_simp; try with_reducible rfl)
        try simp only [Act.put, List.setIfInBounds_toArray, List.set_cons_zero, List.set_cons_succ]
        refine GoT.take 5 (v := ?vf5) rfl (by kernel_rfl) (fun _ _ _ h => h) (Or.inl ⟨by rfl, ?yf5⟩) ?rf5
        case yf5 => (intro W hSw; (try dsimp only at hSw); go_simp; try with_reducible rfl)
        try simp only [Act.put, List.setIfInBounds_toArray, List.set_cons_zero, List.set_cons_succ]
        refine GoT.all [6] (by kernel_rfl) rfl ?_
        refine AllT.cons (i := 6) rfl (fun K hK => ?_) AllT.nil
        go_simp
        go_at_call 36
        refine (Hdo.out _ (bl_drewN (Below.refl _ _) 1)).mono ?_
        rintro e w2 ⟨rfl, S2, ⟨x2, y2, G2, ρ2, s2⟩, hl2, hb2⟩
        have eb : blkOf w2 ab = blkOf wo ab := Hkeep.out _ _ (show Below v.heap.size wo w2 from ⟨hb2.os, hb2.tape, hb2.output, hb2.size, hb2.block⟩)
        have f0 := k0; have f1 := k1; have f2 := k2; have f3 := k3; have f4 := k4
        rw [← eb] at f0 f1 f2 f3 f4
        refine hK.out _ _ (fun _ => ⟨f0, f1, f2, f3, f4⟩) ?_
        clear hK K
        try simp only [Act.put, List.setIfInBounds_toArray, List.set_cons_zero, List.set_cons_succ]
        have Hs2 := hid s2; have Hl2 := hid hl2; have Hb2 := hid hb2
        have Hsh1 : Hid (Calls Try.prog 29 #[.pointer (some ⟨g, 0, none⟩), .string akey] w2 fun e w' => e = .returned (.int .i64 (sidx n akey)) ∧ Below w2.heap.size w2 w') := hid (by
          have hc := s2.c.blk
          rw [s2.hg, s2.hn] at hc
          exact shard_any g akey _ n _ _ _ _ _ w2 hc h0 h1 Hq.out.1)
        clear s2 hl2 hb2 eb f0 f1 f2 f3 f4
        refine GoT.take 7 (v := ?vf7) rfl (by kernel_rfl) (fun _ _ _ h => h) (Or.inl ⟨by rfl, ?yf7⟩) ?rf7
        case yf7 => (intro W hSw; (try dsimp only at hSw); go_simp; try with_reducible rfl)
        try simp only [Act.put, List.setIfInBounds_toArray, List.set_cons_zero, List.set_cons_succ]
        refine GoT.take 8 (v := ?vf8) rfl (by kernel_rfl) (fun _ _ _ h => h) (Or.inl ⟨by rfl, ?yf8⟩) ?rf8
        case yf8 => (intro W hSw; (try dsimp only at hSw); go_simp; try with_reducible rfl)
        try simp only [Act.put, List.setIfInBounds_toArray, List.set_cons_zero, List.set_cons_succ]
        refine GoT.take 9 (v := ?vf9) rfl (by kernel_rfl) (fun _ _ _ h => h) (Or.inl ⟨by simp [Region.wanted, yielded], ?yf9⟩) ?rf9
        case yf9 => (intro W hSw; (try dsimp only at hSw); go_simp; try with_reducible rfl)
        try simp only [Act.put, List.setIfInBounds_toArray, List.set_cons_zero, List.set_cons_succ]
        refine GoT.take 10 (v := ?vf10) rfl (by kernel_rfl) (fun _ _ _ h => h) (Or.inl ⟨by simp [Region.wanted, yielded], ?yf10⟩) ?rf10
        case yf10 => (intro W hSw; (try dsimp only at hSw); go_simp; try with_reducible rfl)
        try simp only [Act.put, List.setIfInBounds_toArray, List.set_cons_zero, List.set_cons_succ]
        refine GoT.take 11 (v := ?vf11) rfl (by kernel_rfl) (fun _ _ _ h => h) (Or.inl ⟨by simp [Region.wanted, yielded], ?yf11⟩) ?rf11
        case yf11 => (intro W hSw; (try dsimp only at hSw); go_simp; try with_reducible rfl)
        try simp only [Act.put, List.setIfInBounds_toArray, List.set_cons_zero, List.set_cons_succ]
        refine GoT.take 12 (v := ?vf12) rfl (by kernel_rfl) (fun _ _ _ h => h) (Or.inl ⟨by simp [Region.wanted, yielded], ?yf12⟩) ?rf12
        case yf12 => (intro W hSw; (try dsimp only at hSw); go_simp; try with_reducible rfl)
        try simp only [Act.put, List.setIfInBounds_toArray, List.set_cons_zero, List.set_cons_succ]
        refine GoT.take 13 (v := ?vf13) rfl (by kernel_rfl) (fun _ _ _ h => h) (Or.inl ⟨by simp [Region.wanted, yielded], ?yf13⟩) ?rf13
        case yf13 => (intro W hSw; (try dsimp only at hSw); go_simp; try with_reducible rfl)
        try simp only [Act.put, List.setIfInBounds_toArray, List.set_cons_zero, List.set_cons_succ]
        refine GoT.take 14 (v := ?vf14) rfl (by kernel_rfl) (fun _ _ _ h => h) (Or.inl ⟨by simp [Region.wanted, yielded], ?yf14⟩) ?rf14
        case yf14 => (intro W hSw; (try dsimp only at hSw); go_simp; try with_reducible rfl)
        try simp only [Act.put, List.setIfInBounds_toArray, List.set_cons_zero, List.set_cons_succ]
        refine GoT.take 16 (v := ?vf16) rfl (by kernel_rfl) (fun _ _ _ h => h) (Or.inl ⟨by simp [Region.wanted, yielded], ?yf16⟩) ?rf16
        case yf16 => (intro W hSw; (try dsimp only at hSw); go_simp; try with_reducible rfl)
        try simp only [Act.put, List.setIfInBounds_toArray, List.set_cons_zero, List.set_cons_succ]
        refine GoT.take 17 (v := ?vf17) rfl (by kernel_rfl) (fun _ _ _ h => h) (Or.inl ⟨by simp [Region.wanted, yielded], ?yf17⟩) ?rf17
        case yf17 => (intro W hSw; (try dsimp only at hSw); go_simp; try with_reducible rfl)
        try simp only [Act.put, List.setIfInBounds_toArray, List.set_cons_zero, List.set_cons_succ]
        refine GoT.take 18 (v := ?vf18) rfl (by kernel_rfl) (fun _ _ _ h => h) (Or.inl ⟨by simp [Region.wanted, yielded], ?yf18⟩) ?rf18
        case yf18 => (intro W hSw; (try dsimp only at hSw); go_simp; try with_reducible rfl)
        try simp only [Act.put, List.setIfInBounds_toArray, List.set_cons_zero, List.set_cons_succ]
        refine GoT.take 19 (v := ?vf19) rfl (by kernel_rfl) (fun _ _ _ h => h) (Or.inl ⟨by simp [Region.wanted, yielded], ?yf19⟩) ?rf19
        case yf19 => (intro W hSw; (try dsimp only at hSw); go_simp; try with_reducible rfl)
        try simp only [Act.put, List.setIfInBounds_toArray, List.set_cons_zero, List.set_cons_succ]
        refine GoT.take 20 (v := ?vf20) rfl (by kernel_rfl) (fun _ _ _ h => h) (Or.inl ⟨by simp [Region.wanted, yielded], ?yf20⟩) ?rf20
        case yf20 => (intro W hSw; (try dsimp only at hSw); go_simp; try with_reducible rfl)
        try simp only [Act.put, List.setIfInBounds_toArray, List.set_cons_zero, List.set_cons_succ]
        refine GoT.take 21 (v := ?vf21) rfl (by kernel_rfl) (fun _ _ _ h => h) (Or.inl ⟨by simp [Region.wanted, yielded], ?yf21⟩) ?rf21
        case yf21 => (intro W hSw; (try dsimp only at hSw); go_simp; try with_reducible rfl)
        try simp only [Act.put, List.setIfInBounds_toArray, List.set_cons_zero, List.set_cons_succ]
        refine GoT.all [15] (by kernel_rfl) rfl ?_
        refine AllT.cons (i := 15) rfl (fun K hK => ?_) AllT.nil
        go_simp
        go_at_call 29
        refine Hsh1.out.mono ?_
        rintro e w3 ⟨rfl, hb3⟩
        have s3 := Hs2.out.below hb3
        have hb23 : Below v.heap.size wo w3 := (show Below v.heap.size wo w2 from ⟨Hb2.out.os, Hb2.out.tape, Hb2.out.output, Hb2.out.size, Hb2.out.block⟩).trans (hb3.mono Hs2.out.base)
        have eb : blkOf w3 ab = blkOf wo ab := Hkeep.out _ _ hb23
        have f0 := k0; have f1 := k1; have f2 := k2; have f3 := k3; have f4 := k4
        rw [← eb] at f0 f1 f2 f3 f4
        refine hK.out _ _ (fun _ => ⟨f0, f1, f2, f3, f4⟩) ?_
        clear hK K
        try simp only [Act.put, List.setIfInBounds_toArray, List.set_cons_zero, List.set_cons_succ]
        have Hs3 := hid s3; have Hb23 := hid hb23
        have Hsh2 : Hid (Calls Try.prog 37 #[.pointer (some ⟨gd, 0, none⟩), .string akey] w3 fun e w' => e = .returned (.int .i64 (sidx n akey)) ∧ w' = w3) := hid (by
          have hd := s3.d.blk
          rw [s3.hd] at hd
          exact dshard_any gd akey n _ w3 hd rfl h0 h1 Hq.out.1)
        have Htl := hid (tells_any s3 (by have := Hl2.out; have := Hlast.out; omega))
        clear s3 hb23 eb hb3
        refine GoT.all [22] (by kernel_rfl) rfl ?_
        refine AllT.cons (i := 22) rfl (fun K hK => ?_) AllT.nil
        go_simp
        go_at_call 37
        refine Hsh2.out.mono ?_
        rintro e w4 ⟨rfl, hw4⟩
        obtain rfl := hw4.symm
        refine hK.out _ _ (fun _ => ⟨f0, f1, f2, f3, f4⟩) ?_
        clear hK K hw4
        try simp only [Act.put, List.setIfInBounds_toArray, List.set_cons_zero, List.set_cons_succ]
        refine GoT.take 23 (v := ?vf23) rfl (by kernel_rfl) (fun _ _ _ h => h) (Or.inl ⟨by simp [Region.wanted, yielded], ?yf23⟩) ?rf23
        case yf23 => (intro W hSw; (try dsimp only at hSw); go_simp; try with_reducible rfl)
        try simp only [Act.put, List.setIfInBounds_toArray, List.set_cons_zero, List.set_cons_succ]
        refine GoT.take 24 (v := ?vf24) rfl (by kernel_rfl) (fun _ _ _ h => h) (Or.inl ⟨by rfl, ?yf24⟩) ?rf24
        case yf24 => (intro W hSw; (try dsimp only at hSw); go_simp; try with_reducible rfl)
        try simp only [Act.put, List.setIfInBounds_toArray, List.set_cons_zero, List.set_cons_succ]
        refine GoT.take 25 (v := ?vf25) rfl (by kernel_rfl) (fun _ _ _ h => h) (Or.inl ⟨by rfl, ?yf25⟩) ?rf25
        case yf25 => (intro W hSw; (try dsimp only at hSw); go_simp; try with_reducible rfl)
        try simp only [Act.put, List.setIfInBounds_toArray, List.set_cons_zero, List.set_cons_succ]
        refine GoT.take 26 (v := ?vf26) rfl (by kernel_rfl) (fun _ _ _ h => h) (Or.inl ⟨by simp [Region.wanted, yielded], ?yf26⟩) ?rf26
        case yf26 => (intro W hSw; (try dsimp only at hSw); go_simp; try with_reducible rfl)
        try simp only [Act.put, List.setIfInBounds_toArray, List.set_cons_zero, List.set_cons_succ]
        refine GoT.take 27 (v := ?vf27) rfl (by kernel_rfl) (fun _ _ _ h => h) (Or.inl ⟨by simp [Region.wanted, yielded], ?yf27⟩) ?rf27
        case yf27 => (intro W hSw; (try dsimp only at hSw); go_simp; try with_reducible rfl)
        try simp only [Act.put, List.setIfInBounds_toArray, List.set_cons_zero, List.set_cons_succ]
        refine GoT.take 28 (v := ?vf28) rfl (by kernel_rfl) (fun _ _ _ h => h) (Or.inl ⟨by simp [Region.wanted, yielded], ?yf28⟩) ?rf28
        case yf28 => (intro W hSw; (try dsimp only at hSw); go_simp; try with_reducible rfl)
        try simp only [Act.put, List.setIfInBounds_toArray, List.set_cons_zero, List.set_cons_succ]
        refine GoT.take 29 (v := ?vf29) rfl (by kernel_rfl) (fun _ _ _ h => h) (Or.inl ⟨by simp [Region.wanted, yielded], ?yf29⟩) ?rf29
        case yf29 => (intro W hSw; (try dsimp only at hSw); go_simp; try with_reducible rfl)
        try simp only [Act.put, List.setIfInBounds_toArray, List.set_cons_zero, List.set_cons_succ]
        refine GoT.take 30 (v := undef) rfl (by kernel_rfl) (fun _ _ _ h => h) (Or.inr ⟨by simp [Region.wanted, yielded], rfl⟩) ?_
        try simp only [Act.put, List.setIfInBounds_toArray, List.set_cons_zero, List.set_cons_succ]
        refine GoT.take 31 (v := undef) rfl (by kernel_rfl) (fun _ _ _ h => h) (Or.inr ⟨by simp [Region.wanted, yielded], rfl⟩) ?_
        try simp only [Act.put, List.setIfInBounds_toArray, List.set_cons_zero, List.set_cons_succ]
        refine GoT.take 32 (v := undef) rfl (by kernel_rfl) (fun _ _ _ h => h) (Or.inr ⟨by simp [Region.wanted, yielded], rfl⟩) ?_
        try simp only [Act.put, List.setIfInBounds_toArray, List.set_cons_zero, List.set_cons_succ]
        refine GoT.take 33 (v := undef) rfl (by kernel_rfl) (fun _ _ _ h => h) (Or.inr ⟨by simp [Region.wanted, yielded], rfl⟩) ?_
        try simp only [Act.put, List.setIfInBounds_toArray, List.set_cons_zero, List.set_cons_succ]
        refine GoT.take 34 (v := ?vf34) rfl (by kernel_rfl) (fun _ _ _ h => h) (Or.inl ⟨by simp [Region.wanted, yielded], ?yf34⟩) ?rf34
        case yf34 => (intro W hSw; (try dsimp only at hSw); go_simp; try with_reducible rfl)
        try simp only [Act.put, List.setIfInBounds_toArray, List.set_cons_zero, List.set_cons_succ]
        refine GoT.all [35] (by kernel_rfl) rfl ?_
        refine AllT.cons (i := 35) rfl (fun K hK => ?_) AllT.nil
        go_simp
        refine hK.out _ _ (fun h => absurd h (by decide)) ?_
        clear hK K
        try simp only [Act.put, List.setIfInBounds_toArray, List.set_cons_zero, List.set_cons_succ]
        refine GoT.done (by kernel_rfl) ?_ _
        clear f0 f1 f2 f3 f4 k0 k1 k2 k3 k4
        go_wp2
        go_roundg (N - (i + 1))
        case measure => omega
        case rel => exact ⟨i + 1, S2, by omega, rfl, by go_num, ⟨x2, y2, G2, ρ2, Hs3.out⟩, by have := Hl2.out; have := Hlast.out; omega, Hbl.out.trans (Below.mono Hb23.out Hvw.out)⟩
    · obtain rfl : i = N := by omega
      have Htl := hid (tells_any Hs.out (by have := Hlast.out; omega))
      have Hlv := hid Str.clives_any
      go_wp2_with (first
        | (go_at_call 24; refine (Hlv.out _).mono ?_; rintro e w5 ⟨rfl, hb5⟩; have Hb5 := hid hb5; clear hb5)
        | (go_at_call 38; refine Htl.out.mono ?_; rintro e w4 ⟨rfl, hb4⟩; have Hb4 := hid hb4; clear hb4))
      exact HR.out _ _ ⟨rfl, bl_then (bl_then Hbl.out Hb4.out) Hb5.out⟩
end
end Go.Proofs.Ytbiaelaaihieeaa
