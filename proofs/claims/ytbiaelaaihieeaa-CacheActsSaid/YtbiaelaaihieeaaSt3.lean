/- The cache of strings: slices.DeleteFunc over pointers: an entry that waits no more. -/
import Derived.Test.YtbiaelaaihieeaaSt2
set_option linter.unusedVariables false
set_option linter.unusedSimpArgs false
set_option maxRecDepth 100000
namespace Go.Proofs.Ytbiaelaaihieeaa.Str
open Go.RowKit

structure PDelInv (w : World) (a x c : Nat) (l : List Nat) (j k : Nat) (cs : Array Value) (wr : World) : Prop where
  le : j ≤ l.length
  kept : k = (less (l.take j) x).length
  few : k < j
  blk : blkOf wr a = some (.cells cs 149 (0, 0))
  size : cs.size = c
  done : ∀ t, t < k → cs[t]? = (ptrs (less (l.take j) x))[t]?
  rest : ∀ t, j ≤ t → t < l.length → cs[t]? = (ptrs l)[t]?
  chg : Chg (fun i => i = a) w wr
def PDelRel (w : World) (a x c : Nat) (l : List Nat) (gk : Nat) (v5 v6 : Value) (wr : World) : Prop :=
  ∃ (j k : Nat) (cs : Array Value), gk = l.length - j ∧ v6 = .int .i64 j ∧ v5 = .int .i64 k ∧ PDelInv w a x c l j k cs wr
theorem own_ptrs {w : World} {base c : Nat} {A : Option Addr} {l : List Nat} (h : w.ownsRow base 149 1 (.slice A l.length c) l.length (ptrs l)) (hn : 0 < l.length) :
    ∃ a cs, A = some ⟨a, 0, none⟩ ∧ base ≤ a ∧ blkOf w a = some (.cells cs 149 (0, 0)) ∧ l.length ≤ c ∧ c ≤ maxLen ∧ cs.size = c ∧ ∀ t, t < l.length → cs[t]? = (ptrs l)[t]? := by
  rcases h.2 with ⟨_, h0⟩ | ⟨g, cap, cur, hv, hb, hg, h1, h2, h3, h4⟩
  · omega
  · injection hv with e1 e2 e3
    subst e1; subst e3
    refine ⟨g, cur, rfl, hb, hg, h1, h2, by simpa using h3, fun t ht => ?_⟩
    rw [← h4, List.getElem?_take, if_pos (by omega), Array.getElem?_toList]
theorem own_ne_cells1 {w : World} {base e size n : Nat} {v : Value} {xs : List Value} (h : w.ownsRow base e size v n xs) {k t : Nat} {cs : Array Value} {fr : Nat × Nat} (hk : blkOf w k = some (.cells cs t fr)) (hne : e ≠ t) : v.ownBlock ≠ some k := by
  rcases h.2 with ⟨rfl, _⟩ | ⟨g, cap, cur, rfl, _, hh, _⟩
  · simp [Value.ownBlock]
  · intro he
    have : g = k := by simpa [Value.ownBlock] using he
    subst this
    unfold blkOf at hk
    rw [hh] at hk
    injection hk with hk
    injection hk with _ ht _
    exact hne ht
set_option maxHeartbeats 1600000 in
theorem pdelete_any (A : Option Addr) (c : Nat) (l : List Nat) (x q base : Nat) (w : World) (hr : w.ownsRow base 149 1 (.slice A l.length c) l.length (ptrs l)) (hq : blkOf w q = some (.cells #[.pointer (some ⟨x, 0, none⟩)] 149 (0, 0)))
    (hne : (Value.slice A l.length c).ownBlock ≠ some q) (hl : ∀ y ∈ l, IsI w y) (hx : IsI w x) (hn : l.length ≤ maxLen) :
    Calls Try.prog 95 #[.slice A l.length c, .func (.func 96) #[] #[.pointer (some ⟨q, 0, none⟩)]] w fun e w' => e = .returned (.slice A (less l x).length c) ∧
      w'.ownsRow base 149 1 (.slice A (less l x).length c) (less l x).length (ptrs (less l x)) ∧ Chg (fun k => (Value.slice A l.length c).ownBlock = some k) w w' := by
  refine calls_of fun R HR => ?_
  have hpi := pindex_any A c l x q w (Rd.of_own hr) hq (fun y hy => (hl y hy).c) hx.c hn
  have hn2 := hn
  simp only [maxLen] at hn2
  by_cases hall : ∀ y ∈ l, y ≠ x
  · have Hi : Hid (Calls Try.prog 98 #[.slice A l.length c, .func (.func 96) #[] #[.pointer (some ⟨q, 0, none⟩)]] w fun e w' => e = .returned (.int .i64 (-1)) ∧ w = w') := hid (hpi.mono (by
      rintro e w' ⟨h1, ⟨_, h2⟩ | ⟨i, h, hw, _⟩⟩
      · exact ⟨h2, h1⟩
      · exact absurd hw (hall _ (List.getElem_mem h))))
    have Hr := hid hr
    have Hk := hid (less_none hall)
    clear hr hq hall hl hx hne hpi
    go_enter Try.func95, Try.ntmps95
    go_wp2_with (go_at_call 98; refine Hi.out.mono ?_; rintro e w1 ⟨rfl, rfl⟩)
    refine HR.out _ _ ⟨by rw [Hk.out]; rfl, ?_, Chg.refl _ _⟩
    rw [Hk.out]; exact Hr.out
  · have hpos : 0 < l.length := by
      rcases Nat.eq_zero_or_pos l.length with h | h
      · exact absurd (fun y hy => by rw [List.length_eq_zero_iff.1 h] at hy; simp at hy) hall
      · exact h
    have Hi : Hid (Calls Try.prog 98 #[.slice A l.length c, .func (.func 96) #[] #[.pointer (some ⟨q, 0, none⟩)]] w fun e w' => ∃ i, ∃ h : i < l.length, l[i] = x ∧ (∀ j (h : j < l.length), j < i → l[j] ≠ x) ∧ e = .returned (.int .i64 i) ∧ w = w') := hid (hpi.mono (by
      rintro e w' ⟨h1, ⟨h2, _⟩ | ⟨i, h, h2, h3, h4⟩⟩
      · exact absurd h2 hall
      · exact ⟨i, h, h2, h3, h4, h1⟩))
    obtain ⟨a, ca, rfl, hab, ha, hlc, hcm, hsz, hca⟩ := own_ptrs hr hpos
    have hqa : q ≠ a := fun e => hne (by rw [e]; rfl)
    have Hl := hid hl; have Hx := hid hx
    have Hca := hid hca; have Ha := hid ha; have Hq := hid hq
    have hIa : ∀ y, IsI w y → y ≠ a := by
      rintro y ⟨cy, hy⟩ rfl
      rw [ha] at hy; injection hy with hy; injection hy with _ ht _; exact absurd ht (by decide)
    have HIa := hid hIa
    clear hr hq hca ha hpi hall hl hx hne hIa
    go_enter Try.func95, Try.ntmps95
    go_wp2_with fail
    refine Hi.out.mono ?_
    rintro e w1 ⟨i, hi, hw, hno, rfl, rfl⟩
    have hi0 : (0 : Int) ≤ (i : Int) := Int.natCast_nonneg _
    have hi1 : (i : Int) < (l.length : Int) := by omega
    have hin : ((i : Int) == -1) = false := by rw [beq_eq_false_iff_ne]; omega
    have kf := less_first hi hw hno
    have Kf := hid kf
    clear hw hno kf
    go_wp2
    go_loopg [5, 6, 7] (l.length - (i + 1)) (fun gk v5 v6 v7 wr => PDelRel w a x c l gk v5 v6 wr)
    case atStart =>
      refine ⟨i + 1, i, ca, rfl, by go_num, rfl, by omega, by rw [Kf.out, List.length_take]; omega, by omega, Ha.out, hsz, fun t ht => ?_, fun t _ ht => Hca.out t ht, Chg.refl _ _⟩
      rw [Kf.out, Hca.out t (by omega)]
      simp only [ptrs, List.getElem?_map, List.getElem?_take, if_pos ht]
    case round =>
      clear Hi hin Kf
      obtain ⟨j, k, cs, rfl, rfl, rfl, inv⟩ := hrel
      obtain ⟨wo, hwo⟩ : ∃ wo : World, wo = wr := ⟨_, rfl⟩
      subst hwo
      have Inv := hid inv
      clear inv
      have hkj := Inv.out.few
      have hjl := Inv.out.le
      have hba := Inv.out.blk
      by_cases hlt : j < l.length
      · have r0 := Inv.out.rest j (by omega) hlt
        have htk := less_take (x := x) hlt
        obtain ⟨y, hy⟩ : ∃ y, y = l[j] := ⟨_, rfl⟩
        have hyI := Hl.out y (by rw [hy]; exact List.getElem_mem hlt)
        have hyl : (ptrs l)[j]? = some (.pointer (some ⟨y, 0, none⟩)) := by simp [ptrs, hlt, hy]
        rw [hyl] at r0
        rw [← hy] at htk
        have k0 : (blkOf wo a).bind (cellAt j) = some (.pointer (some ⟨y, 0, none⟩)) := by rw [hba]; exact r0
        have lao := Blk.lt hba
        have keepc : ∀ z, IsI w z → IsC wo z := fun z hz => by
          obtain ⟨cz, hzc⟩ := hz
          exact ⟨cz, 152, (Inv.out.chg.block z (Blk.lt hzc) (HIa.out z ⟨cz, hzc⟩)).trans hzc⟩
        have hqo : blkOf wo q = some (.cells #[.pointer (some ⟨x, 0, none⟩)] 149 (0, 0)) := (Inv.out.chg.block q (Blk.lt Hq.out) hqa).trans Hq.out
        have Hb := hid (beq_any y x q wo hqo (keepc y hyI) (keepc x Hx.out))
        have hj0 : (0 : Int) ≤ (j : Int) := Int.natCast_nonneg _
        have hj1 : (j : Int) < (l.length : Int) := by omega
        have hk0 : (0 : Int) ≤ (k : Int) := Int.natCast_nonneg _
        have hk1 : (k : Int) < (l.length : Int) := by omega
        have Hba := hid hba
        have hsz2 := Inv.out.size
        by_cases hw : y = x
        · subst hw
          rw [if_pos rfl, List.append_nil] at htk
          simp only [decide_true] at Hb
          have Htk := hid htk
          clear htk r0 hyl hy hqo keepc hyI hba
          go_wp2_with (go_at_call 96; refine Hb.out.mono ?_; rintro e w2 ⟨rfl, rfl⟩)
          go_roundg (l.length - (j + 1))
          case measure => omega
          case rel =>
            exact ⟨j + 1, k, cs, rfl, by go_num, rfl, by omega, by rw [Htk.out]; exact Inv.out.kept, by omega, Hba.out, hsz2, fun t ht => by rw [Htk.out]; exact Inv.out.done t ht, fun t h1 h2 => Inv.out.rest t (by omega) h2, Inv.out.chg⟩
        · have hd : decide (y = x) = false := decide_eq_false hw
          rw [if_neg hw] at htk
          simp only [hd] at Hb
          have Htk := hid htk
          have hy2 : y = l[j] := hy
          obtain ⟨x0, u0⟩ : ∃ x, cs[k]? = some x := ⟨_, Array.getElem?_eq_getElem (by omega)⟩
          have ku : (blkOf wo a).bind (cellAt k) = some x0 := by rw [hba]; exact u0
          have kfz : (Option.map (frozenAt k) (blkOf wo a)).getD false = false := by rw [hba]; simp [frozenAt]
          clear hw hd htk r0 hyl hy hy2 hqo keepc hyI hba u0
          go_wp2_with (go_at_call 96; refine Hb.out.mono ?_; rintro e w2 ⟨rfl, rfl⟩)
          go_roundg (l.length - (j + 1))
          case measure => omega
          case rel =>
            have hal : (ptrs (less (l.take j) x)).length = k := by rw [ptrs_length, ← Inv.out.kept]
            refine ⟨j + 1, k + 1, cs.setIfInBounds k (.pointer (some ⟨y, 0, none⟩)), rfl, by go_num, by go_num, by omega, by rw [Htk.out, List.length_append, ← Inv.out.kept]; rfl, by omega, Blk.set (t := 149) Hba.out k _, by simp [hsz2], fun t ht => ?_, fun t h1 h2 => ?_, Chg.setCell (F := fun i => i = a) Inv.out.chg (p := ⟨a, k, none⟩) (fun _ => rfl) _⟩
            · rw [Htk.out]
              have e : ptrs (less (l.take j) x ++ [y]) = ptrs (less (l.take j) x) ++ [.pointer (some ⟨y, 0, none⟩)] := by simp [ptrs]
              rw [e]
              rcases Nat.lt_or_ge t k with g | g
              · rw [Array.getElem?_setIfInBounds_ne (by omega), List.getElem?_append_left (by rw [hal]; exact g)]
                exact Inv.out.done t g
              · obtain rfl : t = k := by omega
                rw [List.getElem?_append_right (by rw [hal]; exact Nat.le_refl _), hal]
                simp [Array.getElem?_setIfInBounds, show t < cs.size by omega]
            · rw [Array.getElem?_setIfInBounds_ne (by omega)]
              exact Inv.out.rest t (by omega) h2
      · obtain rfl : j = l.length := by omega
        have hkk : k = (less l x).length := by have := Inv.out.kept; rw [List.take_length] at this; exact this
        obtain ⟨i0, hi0', hz0, hz1, hz2⟩ := info_parts Try.info149
        have hk0 : (0 : Int) ≤ (k : Int) := Int.natCast_nonneg _
        have hk1 : (k : Int) ≤ (l.length : Int) := by omega
        have hs1 : ∀ W, (Instr.sliceAt 145 (.slice (some ⟨a, 0, none⟩) l.length c) (some (.int .i64 (k : Int))) none none).run Try.prog W = .ok (.slice (some ⟨a, k, none⟩) (l.length - k) (c - k)) W := by
          intro W
          have hck : ¬ c = k := by omega
          have hkc : ¬ k = c := by omega
          by_cases hkz : k = 0
          · subst hkz
            simp [Instr.sliceAt, Instr.slice, run_underlying Try.underlying145, Instr.sliceBounds, Instr.sliceBound, asIntOf, sizeOf, typeInfo, hi0', hz1, Addr.add]
          · simp [Instr.sliceAt, Instr.slice, run_underlying Try.underlying145, Instr.sliceBounds, Instr.sliceBound, asIntOf, hk0, show k ≤ l.length by omega, sizeOf, typeInfo, hi0', hz1, hck, hkc, Addr.add, hkz]
        have hs2 : ∀ W, (Instr.sliceAt 145 (.slice (some ⟨a, 0, none⟩) l.length c) none (some (.int .i64 (k : Int))) none).run Try.prog W = .ok (.slice (some ⟨a, 0, none⟩) k c) W := by
          intro W
          simp [Instr.sliceAt, Instr.slice, run_underlying Try.underlying145, Instr.sliceBounds, Instr.sliceBound, asIntOf, hk0, show k ≤ c by omega, sizeOf, typeInfo, hi0', hz1, Addr.add]
        obtain ⟨w', cs', hcl, hb', hsz', hlow, hch'⟩ := run_clear_ptrs (n := l.length - k) (c := c - k) (o := k) hba (by have := Inv.out.size; omega)
        have Hb' := hid hb'; have Hsz' := hid hsz'; have Hlow := hid hlow; have Hch' := hid hch'; have Hkk := hid hkk
        clear hb' hsz' hlow hch' hkk hba hi0' hz0 hz1 hz2
        have Done := hid (fun t (ht : t < k) => by have := Inv.out.done t ht; rwa [List.take_length] at this : ∀ t, t < k → cs[t]? = (ptrs (less l x))[t]?)
        go_wp2
        refine HR.out _ _ ⟨by rw [← Hkk.out]; rfl, ?_, ?_⟩
        · have hkl := Hkk.out
          rw [← hkl]
          have hal : (ptrs (less l x)).length = k := by rw [ptrs_length, ← hkl]
          refine ⟨by simpa using hal, .inr ⟨a, c, cs', rfl, hab, Hb'.out, by omega, hcm, by have := Hsz'.out.trans Inv.out.size; omega, ?_⟩⟩
          apply List.ext_getElem?
          intro t
          rw [List.getElem?_take]
          split
          · rename_i ht
            rw [Array.getElem?_toList, Hlow.out t (by omega)]
            exact Done.out t (by omega)
          · rename_i ht
            rw [List.getElem?_eq_none (by rw [hal]; omega)]
        · refine (Inv.out.chg.trans Hch'.out (fun i _ h => h) (fun i _ h => h)).mono (fun i _ h => ?_)
          rw [show i = a from h]; rfl
end Go.Proofs.Ytbiaelaaihieeaa.Str
