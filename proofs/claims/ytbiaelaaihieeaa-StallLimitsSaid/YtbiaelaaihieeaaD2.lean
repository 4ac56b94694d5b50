/- The program's limiter: drop: slices.DeleteFunc. -/
import Derived.Test.YtbiaelaaihieeaaD
set_option linter.unusedVariables false
set_option linter.unusedSimpArgs false
set_option maxRecDepth 100000
namespace Go.Proofs.Ytbiaelaaihieeaa
open Go.RowKit

structure DelInv (w : World) (a q : Nat) (who n : Int) (c : Nat) (l : List Ask) (j k : Nat) (cs : Array Value) (wr : World) : Prop where
  le : j ≤ l.length
  kept : k = (keep who (l.take j)).length
  few : k < j
  blk : blkOf wr a = some (.cells cs 87 (0, 0))
  size : cs.size = c * 3
  done : ∀ t, t < k * 3 → cs[t]? = (asks (keep who (l.take j)))[t]?
  rest : ∀ t, j * 3 ≤ t → t < l.length * 3 → cs[t]? = (asks l)[t]?
  count : blkOf wr q = some (.cells #[.int .i64 (n + (j - k))] 3 (0, 0))
  chg : Chg (fun i => i = q ∨ i = a) w wr
def DelRel (w : World) (a q : Nat) (who n : Int) (c : Nat) (l : List Ask) (gk : Nat) (v5 v6 : Value) (wr : World) : Prop :=
  ∃ (j k : Nat) (cs : Array Value), gk = l.length - j ∧ v6 = .int .i64 j ∧ v5 = .int .i64 k ∧ DelInv w a q who n c l j k cs wr
theorem own_cells {w : World} {base c : Nat} {A : Option Addr} {l : List Ask} (h : w.ownsRow base 87 3 (.slice A l.length c) l.length (asks l)) (hn : 0 < l.length) :
    ∃ a cs, A = some ⟨a, 0, none⟩ ∧ base ≤ a ∧ blkOf w a = some (.cells cs 87 (0, 0)) ∧ l.length ≤ c ∧ c ≤ maxLen ∧ cs.size = c * 3 ∧ ∀ t, t < l.length * 3 → cs[t]? = (asks l)[t]? := by
  rcases h.2 with ⟨_, h0⟩ | ⟨g, cap, cur, hv, hb, hg, h1, h2, h3, h4⟩
  · omega
  · injection hv with e1 e2 e3
    subst e1; subst e3
    refine ⟨g, cur, rfl, hb, hg, h1, h2, h3, fun t ht => ?_⟩
    rw [← h4, List.getElem?_take, if_pos ht, Array.getElem?_toList]
theorem keep_none {who : Int} {l : List Ask} (h : ∀ j (h : j < l.length), l[j].1 ≠ who) : keep who l = l := by
  unfold keep
  rw [List.filter_eq_self]
  intro a ha
  obtain ⟨i, hi, rfl⟩ := List.mem_iff_getElem.1 ha
  simpa using h i hi
theorem keep_first {who : Int} {l : List Ask} {i : Nat} (h : i < l.length) (hw : l[i].1 = who) (hno : ∀ j (h : j < l.length), j < i → l[j].1 ≠ who) : keep who (l.take (i + 1)) = l.take i := by
  rw [keep_take h, if_pos hw, List.append_nil]
  refine keep_none (fun j hj => ?_)
  rw [List.length_take] at hj
  rw [List.getElem_take]
  exact hno j (by omega) (by omega)
theorem rt_ne2 {w : World} {k a : Nat} {cs ca : Array Value} (hk : blkOf w k = some (.cells cs 3 (0, 0))) (ha : blkOf w a = some (.cells ca 87 (0, 0))) : k ≠ a := by
  rintro rfl
  rw [hk] at ha
  injection ha with ha
  injection ha with _ ht
  exact absurd ht (by decide)
theorem asks_take (l : List Ask) {i t : Nat} (h : t < i * 3) : (asks (l.take i))[t]? = (asks l)[t]? := by
  rcases Nat.lt_or_ge t ((l.take i).length * 3) with g | g
  · have e : asks l = asks (l.take i) ++ asks (l.drop i) := by
      unfold asks; rw [← List.flatMap_append, List.take_append_drop]
    rw [e, List.getElem?_append_left (by rw [asks_length]; exact g)]
  · rw [List.length_take] at g
    have : l.length ≤ i := by omega
    rw [List.take_of_length_le this]
theorem set3_at {cs : Array Value} {o : Nat} (x y z : Value) (h : o + 2 < cs.size) :
    (((cs.setIfInBounds o x).setIfInBounds (o + 1) y).setIfInBounds (o + 2) z).size = cs.size ∧
    (∀ t, (t < o ∨ o + 3 ≤ t) → (((cs.setIfInBounds o x).setIfInBounds (o + 1) y).setIfInBounds (o + 2) z)[t]? = cs[t]?) ∧
    (∀ r, r < 3 → (((cs.setIfInBounds o x).setIfInBounds (o + 1) y).setIfInBounds (o + 2) z)[o + r]? = [x, y, z][r]?) := by
  refine ⟨by simp, fun t ht => ?_, fun r hr => ?_⟩
  · rw [Array.getElem?_setIfInBounds_ne (by omega), Array.getElem?_setIfInBounds_ne (by omega), Array.getElem?_setIfInBounds_ne (by omega)]
  · rcases (show r = 0 ∨ r = 1 ∨ r = 2 by omega) with rfl | rfl | rfl
    · rw [Array.getElem?_setIfInBounds_ne (by omega), Array.getElem?_setIfInBounds_ne (by omega)]
      simp [Array.getElem?_setIfInBounds, show o < cs.size by omega]
    · rw [Array.getElem?_setIfInBounds_ne (by omega)]
      simp [Array.getElem?_setIfInBounds, show o + 1 < cs.size by omega]
    · simp [Array.getElem?_setIfInBounds, show o + 2 < cs.size by omega]
theorem first_of (who : Int) (l : List Ask) : (∀ j (h : j < l.length), l[j].1 ≠ who) ∨ ∃ i, ∃ h : i < l.length, l[i].1 = who ∧ ∀ j (hj : j < l.length), j < i → l[j].1 ≠ who := by
  induction l with
  | nil => exact .inl (fun j h => by simp at h)
  | cons a l ih =>
    by_cases ha : a.1 = who
    · exact .inr ⟨0, by simp, by simpa using ha, fun j _ h => by omega⟩
    · rcases ih with h | ⟨i, hi, hw, hno⟩
      · refine .inl (fun j hj => ?_)
        cases j with
        | zero => simpa using ha
        | succ j => simpa using h j (by simpa using hj)
      · refine .inr ⟨i + 1, by simpa using hi, by simpa using hw, fun j hj hlt => ?_⟩
        cases j with
        | zero => simpa using ha
        | succ j => simpa using hno j (by simpa using hj) (by omega)
section
variable {A : Option Addr} {c : Nat} {l : List Ask} {p q : Nat} {who n : Int} {w : World}
theorem index_no (hall : ∀ j (h : j < l.length), l[j].1 ≠ who) (hr : Rt w 87 3 A l.length (asks l)) (hp : blkOf w p = some (.cells #[.int .i64 who] 3 (0, 0))) (hq : blkOf w q = some (.cells #[.int .i64 n] 3 (0, 0))) (hpq : p ≠ q) (h0 : 0 ≤ n) (h1 : n < 100000) (hn : l.length ≤ 4096) :
    Calls Try.prog 74 #[.slice A l.length c, .func (.func 47) #[] #[.pointer (some ⟨p, 0, none⟩), .pointer (some ⟨q, 0, none⟩)]] w fun e w' => e = .returned (.int .i64 (-1)) ∧ Chg (fun k => k = q) w w' ∧ blkOf w' q = some (.cells #[.int .i64 n] 3 (0, 0)) := by
  refine (index_any A c l p q who n w hr hp hq hpq h0 h1 hn).mono ?_
  rintro e w' ⟨i, hi, hno, hc, ⟨_, he, hq2⟩ | ⟨h, hw, _⟩⟩
  · exact ⟨he, hc, hq2⟩
  · exact absurd hw (hall i h)
theorem index_yes {i : Nat} (hi : i < l.length) (hw : l[i].1 = who) (hno : ∀ j (h : j < l.length), j < i → l[j].1 ≠ who) (hr : Rt w 87 3 A l.length (asks l)) (hp : blkOf w p = some (.cells #[.int .i64 who] 3 (0, 0))) (hq : blkOf w q = some (.cells #[.int .i64 n] 3 (0, 0))) (hpq : p ≠ q) (h0 : 0 ≤ n) (h1 : n < 100000) (hn : l.length ≤ 4096) :
    Calls Try.prog 74 #[.slice A l.length c, .func (.func 47) #[] #[.pointer (some ⟨p, 0, none⟩), .pointer (some ⟨q, 0, none⟩)]] w fun e w' => e = .returned (.int .i64 i) ∧ Chg (fun k => k = q) w w' ∧ blkOf w' q = some (.cells #[.int .i64 (n + 1)] 3 (0, 0)) := by
  refine (index_any A c l p q who n w hr hp hq hpq h0 h1 hn).mono ?_
  rintro e w' ⟨j, hj, hno2, hc, ⟨hjl, he, hq2⟩ | ⟨h, hw2, he, hq2⟩⟩
  · exact absurd hw (hno2 i hi (by omega))
  · rcases Nat.lt_trichotomy i j with g | g | g
    · exact absurd hw (hno2 i hi g)
    · subst g; exact ⟨he, hc, hq2⟩
    · exact absurd hw2 (hno j h g)
end
set_option maxHeartbeats 1600000 in
theorem delete_any (A : Option Addr) (c : Nat) (l : List Ask) (p q base : Nat) (who n : Int) (w : World) (hr : w.ownsRow base 87 3 (.slice A l.length c) l.length (asks l)) (hp : blkOf w p = some (.cells #[.int .i64 who] 3 (0, 0))) (hq : blkOf w q = some (.cells #[.int .i64 n] 3 (0, 0))) (hpq : p ≠ q) (h0 : 0 ≤ n) (h1 : n < 50000)
    (hn : l.length ≤ 4096) :
    Calls Try.prog 45 #[.slice A l.length c, .func (.func 47) #[] #[.pointer (some ⟨p, 0, none⟩), .pointer (some ⟨q, 0, none⟩)]] w fun e w' => ∃ A' c', e = .returned (.slice A' (keep who l).length c') ∧
      w'.ownsRow base 87 3 (.slice A' (keep who l).length c') (keep who l).length (asks (keep who l)) ∧ blkOf w' q = some (.cells #[.int .i64 (n + (l.length - (keep who l).length))] 3 (0, 0)) ∧
      Chg (fun k => k = q ∨ (Value.slice A l.length c).ownBlock = some k) w w' := by
  refine calls_of fun R HR => ?_
  rcases first_of who l with hall | ⟨i, hi, hw, hno⟩
  · have Hi := hid (index_no (c := c) hall (Rt.of_own hr) hp hq hpq h0 (by omega) hn)
    have Hr := hid hr
    have Hne := hid (own_ne_cells hr hq (by decide))
    have hk := keep_none hall
    have Hk := hid hk
    clear hr hp hq hall hk
    go_enter Try.func45, Try.ntmps45
    go_wp2_with (go_at_call 74; refine Hi.out.mono ?_; rintro e w1 ⟨rfl, hc1, hq1⟩; have Hc1 := hid hc1; have Hq1 := hid hq1; clear hc1 hq1)
    refine HR.out _ _ ⟨A, c, by rw [Hk.out]; rfl, ?_, ?_, Hc1.out.mono (fun i _ h => .inl h)⟩
    · rw [Hk.out]; exact own_chg Hr.out Hc1.out (fun k hk e => Hne.out (by rw [hk, e]))
    · rw [Hk.out]; simpa using Hq1.out
  · have Hi := hid (index_yes (c := c) hi hw hno (Rt.of_own hr) hp hq hpq h0 (by omega) hn)
    obtain ⟨a, ca, rfl, hab, ha, hlc, hcm, hsz, hca⟩ := own_cells hr (by omega)
    have hqa := rt_ne2 hq ha
    have hpa := rt_ne2 hp ha
    have kf := keep_first hi hw hno
    have Kf := hid kf; have Hca := hid hca; have Hp := hid hp
    have la := Blk.lt ha
    have Ha := hid ha
    have Lp := hid (Blk.lt hp)
    clear hr hq hno hw kf hca hp ha
    have hi0 : (0 : Int) ≤ (i : Int) := Int.natCast_nonneg _
    have hi1 : (i : Int) < (l.length : Int) := by omega
    have hin : ((i : Int) == -1) = false := by rw [beq_eq_false_iff_ne]; omega
    go_enter Try.func45, Try.ntmps45
    go_wp2_with (go_at_call 74; refine Hi.out.mono ?_; rintro e w1 ⟨rfl, hc1, hq1⟩; have Hc1 := hid hc1; have Hq1 := hid hq1; clear hc1 hq1)
    go_loopg [5, 6, 7] (l.length - (i + 1)) (fun gk v5 v6 v7 wr => DelRel w a q who n c l gk v5 v6 wr)
    case atStart =>
      have hbk := (Hc1.out.block a la (fun e => hqa e.symm)).trans Ha.out
      refine ⟨i + 1, i, ca, rfl, by go_num, rfl, by omega, by rw [Kf.out, List.length_take]; omega, by omega, hbk, hsz, fun t ht => ?_, fun t _ ht => Hca.out t ht, ?_, Hc1.out.mono (fun _ _ h => .inl h)⟩
      · rw [Kf.out, Hca.out t (by omega), asks_take l ht]
      · rw [show (n + (((i + 1 : Nat) : Int) - (i : Int))) = n + 1 by omega]; exact Hq1.out
    case round =>
      clear Hi Hc1 Hq1 hin
      obtain ⟨j, k, cs, rfl, rfl, rfl, inv⟩ := hrel
      obtain ⟨wo, hwo⟩ : ∃ wo : World, wo = wr := ⟨_, rfl⟩
      subst hwo
      have Inv := hid inv
      clear inv
      have hkj := Inv.out.few
      have hjl := Inv.out.le
      have hba := Inv.out.blk
      have hqc := Inv.out.count
      by_cases hlt : j < l.length
      · have r0 := Inv.out.rest (j * 3 + 0) (by omega) (by omega)
        have r1 := Inv.out.rest (j * 3 + 1) (by omega) (by omega)
        have r2 := Inv.out.rest (j * 3 + 2) (by omega) (by omega)
        rw [asks_at l j hlt 0 (by omega)] at r0
        rw [asks_at l j hlt 1 (by omega)] at r1
        rw [asks_at l j hlt 2 (by omega)] at r2
        have htk := keep_take (who := who) hlt
        obtain ⟨v, hv⟩ : ∃ x, x = l[j] := ⟨_, rfl⟩
        rw [← hv] at r0 r1 r2 htk
        have k0 : (blkOf wo a).bind (cellAt (j * 3)) = some (.int .i64 v.1) := by rw [hba]; exact r0
        have k1 : (blkOf wo a).bind (cellAt (j * 3 + 1)) = some (.int .u64 v.2.1) := by rw [hba]; exact r1
        have k2 : (blkOf wo a).bind (cellAt (j * 3 + 2)) = some (.bool v.2.2) := by rw [hba]; exact r2
        have lao := Blk.lt hba
        have lqo := Blk.lt hqc
        have hpo : blkOf wo p = some (.cells #[.int .i64 who] 3 (0, 0)) := (Inv.out.chg.block p Lp.out (fun e => by rcases e with e | e; exact hpq e; exact hpa e)).trans Hp.out
        have Hs := hid (same_at hpo hqc hpq (by omega) (by omega) v)
        have hj0 : (0 : Int) ≤ (j : Int) := Int.natCast_nonneg _
        have hj1 : (j : Int) < (l.length : Int) := by omega
        have hk0 : (0 : Int) ≤ (k : Int) := Int.natCast_nonneg _
        have hk1 : (k : Int) < (l.length : Int) := by omega
        have Hv := hid hv
        have Hba := hid hba
        have Hsz := hid Inv.out.size
        by_cases hw : v.1 = who
        · rw [if_pos hw, List.append_nil] at htk
          simp only [if_pos hw, decide_eq_true hw] at Hs
          have Htk := hid htk
          clear hw htk r0 r1 r2 hqc hpo hba hv
          go_wp2_with (go_at_call 47; refine (Hs.out _ ?_).mono ?_; exact bl_alloc (Below.refl _ _) _; rintro e w2 ⟨rfl, hq2, hc2⟩; have Hq2 := hid hq2; have Hc2 := hid hc2; clear hq2 hc2)
          go_roundg (l.length - (j + 1))
          case measure => omega
          case rel =>
            have hcx : Chg (fun i => i = q ∨ i = a) wo w2 := (Chg.trans (F := fun i => i = q) (Chg.alloc (Chg.refl _ _) _) Hc2.out (fun _ _ h => h) (fun _ _ h => h)).mono (fun _ _ h => .inl h)
            have hca2 : Chg (fun i => i = q) wo w2 := (Chg.trans (F := fun i => i = q) (Chg.alloc (Chg.refl _ _) _) Hc2.out (fun _ _ h => h) (fun _ _ h => h))
            refine ⟨j + 1, k, cs, rfl, by go_num, rfl, by omega, by rw [Htk.out]; exact Inv.out.kept, by omega, (hca2.block a lao (fun e => hqa e.symm)).trans Hba.out, Hsz.out, fun t ht => by rw [Htk.out]; exact Inv.out.done t ht, fun t h1 h2 => Inv.out.rest t (by omega) h2, ?_, Inv.out.chg.trans hcx (fun _ _ h => h) (fun _ _ h => h)⟩
            rw [show (n + (((j + 1 : Nat) : Int) - (k : Int))) = n + ((j : Int) - (k : Int)) + 1 by omega]; exact Hq2.out
        · rw [if_neg hw] at htk
          simp only [if_neg hw, decide_eq_false hw] at Hs
          have Htk := hid htk
          have hsz := Inv.out.size
          obtain ⟨x0, u0⟩ : ∃ x, cs[k * 3]? = some x := ⟨_, Array.getElem?_eq_getElem (by omega)⟩
          obtain ⟨x1, u1⟩ : ∃ x, cs[k * 3 + 1]? = some x := ⟨_, Array.getElem?_eq_getElem (by omega)⟩
          obtain ⟨x2, u2⟩ : ∃ x, cs[k * 3 + 2]? = some x := ⟨_, Array.getElem?_eq_getElem (by omega)⟩
          clear hw htk r0 r1 r2 hqc hpo hba hsz hv
          go_wp2_with (go_at_call 47; refine (Hs.out _ ?_).mono ?_; exact bl_alloc (Below.refl _ _) _; rintro e w2 ⟨rfl, hq2, hc2⟩; have e2a : blkOf w2 a = some (.cells cs 87 (0, 0)) := (hc2.block a (Nat.lt_of_lt_of_le lao (by simp)) (fun e => hqa e.symm)).trans ((blk_past wo _ a lao).trans Hba.out); have e2v : blkOf w2 wo.heap.size = some (.cells #[.int .i64 v.1, .int .u64 v.2.1, .bool v.2.2] 87 (0, 0)) := (hc2.block wo.heap.size (by simp) (by omega)).trans (blk_new wo _); have hs2 := hc2.size; have Hq2 := hid hq2; have Hc2 := hid hc2; clear hq2 hc2)
          go_roundg (l.length - (j + 1))
          case measure => omega
          case rel =>
            have hca2 : Chg (fun i => i = q) wo w2 := (Chg.trans (F := fun i => i = q) (Chg.alloc (Chg.refl _ _) _) Hc2.out (fun _ _ h => h) (fun _ _ h => h))
            have hca3 : Chg (fun i => i = q ∨ i = a) wo (((w2.setCell ⟨a, k * 3, none⟩ (.int .i64 v.1)).setCell ⟨a, k * 3 + 1, none⟩ (.int .u64 v.2.1)).setCell ⟨a, k * 3 + 2, none⟩ (.bool v.2.2)) := by
              (repeat refine Chg.setCell ?_ (fun _ => .inr rfl) _)
              exact hca2.mono (fun _ _ h => .inl h)
            obtain ⟨z1, z2, z3⟩ := set3_at (cs := cs) (o := k * 3) (.int .i64 v.1) (.int .u64 v.2.1) (.bool v.2.2) (by have := Hsz.out; omega)
            refine ⟨j + 1, k + 1, _, rfl, by go_num, by go_num, by omega, by rw [Htk.out, List.length_append, ← Inv.out.kept]; rfl, by omega, ?_, z1.trans Hsz.out, fun t ht => ?_, fun t h1 h2 => ?_, ?_, Inv.out.chg.trans hca3 (fun _ _ h => h) (fun _ _ h => h)⟩
            · simp [go_sem, e2a]
            · rw [Htk.out]
              have e : asks (keep who (l.take j) ++ [v]) = asks (keep who (l.take j)) ++ askCells v := by simp [asks]
              have hal : (asks (keep who (l.take j))).length = k * 3 := by rw [asks_length, ← Inv.out.kept]
              rw [e]
              rcases Nat.lt_or_ge t (k * 3) with g | g
              · rw [z2 t (.inl g), List.getElem?_append_left (by rw [hal]; exact g)]
                exact Inv.out.done t g
              · rw [List.getElem?_append_right (by rw [hal]; exact g), hal]
                obtain ⟨r, rfl⟩ : ∃ r, t = k * 3 + r := ⟨t - k * 3, by omega⟩
                rw [Nat.add_sub_cancel_left]
                exact z3 r (by omega)
            · rw [z2 t (.inr (by omega))]
              exact Inv.out.rest t (by omega) h2
            · have hqs : blkOf (((w2.setCell ⟨a, k * 3, none⟩ (.int .i64 v.1)).setCell ⟨a, k * 3 + 1, none⟩ (.int .u64 v.2.1)).setCell ⟨a, k * 3 + 2, none⟩ (.bool v.2.2)) q = blkOf w2 q := by
                rw [blk_set_ne' _ _ _ _ _ hqa, blk_set_ne' _ _ _ _ _ hqa, blk_set_ne' _ _ _ _ _ hqa]
              rw [hqs, show (n + (((j + 1 : Nat) : Int) - ((k + 1 : Nat) : Int))) = n + ((j : Int) - (k : Int)) by omega]; exact Hq2.out
      · obtain rfl : j = l.length := by omega
        have hkk : k = (keep who l).length := by have := Inv.out.kept; rw [List.take_length] at this; exact this
        obtain ⟨i0, hi0', hz0, hz1, hz2⟩ := info_parts Try.info87
        have hk0 : (0 : Int) ≤ (k : Int) := Int.natCast_nonneg _
        have hk1 : (k : Int) ≤ (l.length : Int) := by omega
        have hs1 : ∀ W, (Instr.sliceAt 81 (.slice (some ⟨a, 0, none⟩) l.length c) (some (.int .i64 (k : Int))) none none).run Try.prog W = .ok (.slice (some ⟨a, k * 3, none⟩) (l.length - k) (c - k)) W := by
          intro W
          have hck : ¬ c = k := by omega
          have hkc : ¬ k = c := by omega
          by_cases hkz : k = 0
          · subst hkz
            simp [Instr.sliceAt, Instr.slice, run_underlying Try.underlying81, Instr.sliceBounds, Instr.sliceBound, asIntOf, sizeOf, typeInfo, hi0', hz1, Addr.add]
          · have hk3 : ¬ k * 3 = 0 := by omega
            simp [Instr.sliceAt, Instr.slice, run_underlying Try.underlying81, Instr.sliceBounds, Instr.sliceBound, asIntOf, hk0, show k ≤ l.length by omega, sizeOf, typeInfo, hi0', hz1, hck, hkc, Addr.add, hkz]
            exact hk3
        have hs2 : ∀ W, (Instr.sliceAt 81 (.slice (some ⟨a, 0, none⟩) l.length c) none (some (.int .i64 (k : Int))) none).run Try.prog W = .ok (.slice (some ⟨a, 0, none⟩) k c) W := by
          intro W
          simp [Instr.sliceAt, Instr.slice, run_underlying Try.underlying81, Instr.sliceBounds, Instr.sliceBound, asIntOf, hk0, show k ≤ c by omega, sizeOf, typeInfo, hi0', hz1, Addr.add]
        obtain ⟨w', cs', hcl, hb', hsz', hlow, hch'⟩ := run_clear_asks (n := l.length - k) (c := c - k) (o := k * 3) hba (by have := Inv.out.size; omega)
        have Hb' := hid hb'; have Hsz' := hid hsz'; have Hlow := hid hlow; have Hch' := hid hch'; have Hkk := hid hkk; have Hqc := hid hqc
        clear hb' hsz' hlow hch' hkk hba hqc hi0' hz0 hz1 hz2
        have Done := hid (fun t (ht : t < k * 3) => by have := Inv.out.done t ht; rwa [List.take_length] at this : ∀ t, t < k * 3 → cs[t]? = (asks (keep who l))[t]?)
        go_wp2
        refine HR.out _ _ ⟨some ⟨a, 0, none⟩, c, by rw [← Hkk.out]; rfl, ?_, ?_, ?_⟩
        · have hkl := Hkk.out
          rw [← hkl]
          have hal : (asks (keep who l)).length = k * 3 := by rw [asks_length, ← hkl]
          refine ⟨hal, .inr ⟨a, c, cs', rfl, hab, Hb'.out, by omega, hcm, Hsz'.out.trans Inv.out.size, ?_⟩⟩
          apply List.ext_getElem?
          intro t
          rw [List.getElem?_take]
          split
          · rename_i ht
            rw [Array.getElem?_toList, Hlow.out t ht]
            exact Done.out t ht
          · rename_i ht
            rw [List.getElem?_eq_none (by rw [hal]; omega)]
        · have hkl := Hkk.out
          rw [← hkl]
          have e : blkOf w' q = blkOf wo q := Hch'.out.block q (Blk.lt Hqc.out) hqa
          rw [e]; exact Hqc.out
        · refine Inv.out.chg.trans Hch'.out (fun i _ h => ?_) (fun i _ h => ?_)
          · rcases h with h | h
            · exact .inl h
            · exact .inr (by rw [h]; rfl)
          · exact .inr (by rw [h]; rfl)
end Go.Proofs.Ytbiaelaaihieeaa
