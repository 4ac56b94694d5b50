/- Two rows of numbers that are the same: the first is written over. -/
import Derived.Test.YtbiaelaaihieeaaN6
set_option linter.unusedVariables false
set_option linter.unusedSimpArgs false
set_option maxRecDepth 100000
namespace Go.Proofs.Ytbiaelaaihieeaa
open Go.RowKit

def IntsRel (w : World) (a b : Nat) (l : List Int) (gk : Nat) (v5 : Value) (wr : World) : Prop :=
  ∃ (i : Nat) (cs : Array Value), i ≤ l.length ∧ gk = l.length - i ∧ v5 = .int .i64 i ∧ blkOf wr a = some (.cells cs 3 (0, 0)) ∧ (∀ j (h : j < l.length), i ≤ j → cs[j]? = some (.int .i64 l[j])) ∧ Chg (fun k => k = a) w wr
theorem own_row {w : World} {base n c : Nat} {A : Option Addr} {l : List Int} (h : w.ownsRow base 3 1 (.slice A n c) n (ints l)) (hn : 0 < n) :
    ∃ b cs, A = some ⟨b, 0, none⟩ ∧ blkOf w b = some (.cells cs 3 (0, 0)) ∧ (Value.slice A n c).ownBlock = some b ∧ ∀ j (h : j < l.length), cs[j]? = some (.int .i64 l[j]) := by
  have hl : l.length = n := by have := h.1; rw [ints_length] at this; omega
  obtain ⟨b0, o, cs, fr, e, hb, hx⟩ := (Rt.of_own h).2 hn
  rcases h.2 with ⟨h1, rfl⟩ | ⟨g', cap, cur, h1, _, hg, _⟩
  · omega
  · have hA : A = some ⟨g', 0, none⟩ := by injection h1
    subst hA
    injection e with e
    injection e with e1 e2
    subst e1; subst e2
    have hcs := hb
    unfold blkOf at hcs
    rw [hg] at hcs
    injection hcs with hcs
    injection hcs with hcs ht hf
    subst hcs
    refine ⟨g', cur, rfl, hg, rfl, fun j hj => ?_⟩
    have := hx j _ (show (ints l)[j]? = some (.int .i64 l[j]) by simp [ints, hj])
    simpa using this
set_option maxHeartbeats 800000 in
theorem ints_same (A B : Option Addr) (c c' base base' : Nat) (l : List Int) (w : World) (hA : w.ownsRow base 3 1 (.slice A l.length c) l.length (ints l)) (hB : w.ownsRow base' 3 1 (.slice B l.length c') l.length (ints l))
    (hne : (Value.slice A l.length c).ownBlock = none ∨ (Value.slice A l.length c).ownBlock ≠ (Value.slice B l.length c').ownBlock) (hn : l.length ≤ 4096) :
    Calls Try.prog 17 #[.slice A l.length c, .slice B l.length c'] w fun e w' => e = .returned (.bool true) ∧ Chg (fun k => (Value.slice A l.length c).ownBlock = some k) w w' := by
  refine calls_of fun R HR => ?_
  rcases Nat.eq_zero_or_pos l.length with h0 | hp
  · rw [h0] at HR ⊢
    clear hA hB hne
    go_enter Try.func17, Try.ntmps17
    go_wp2
    go_loopg [5] 0 (fun gk v5 wr => gk = 0 ∧ v5 = .int .i64 0 ∧ wr = w)
    case atStart => exact ⟨rfl, rfl, rfl⟩
    case round =>
      obtain ⟨rfl, rfl, rfl⟩ := hrel
      go_wp2
      exact HR.out _ _ ⟨rfl, Chg.refl _ _⟩
  · obtain ⟨a, ca, rfl, ba, oa, ha⟩ := own_row hA hp
    obtain ⟨b, cb, rfl, bb, ob, hbv⟩ := own_row hB hp
    have hab : a ≠ b := by
      rcases hne with h | h
      · rw [oa] at h; cases h
      · rw [oa, ob] at h; exact fun e => h (by rw [e])
    have Hbv := hid hbv; have Ha := hid ha; have Oa := hid oa
    have lb : b < w.heap.size := (Array.getElem?_eq_some_iff.1 bb).1
    have Bb := hid bb
    clear hA hB hne ob hbv ha oa
    go_enter Try.func17, Try.ntmps17
    go_wp2
    go_loopg [5] l.length (fun gk v5 wr => IntsRel w a b l gk v5 wr)
    case atStart => exact ⟨0, ca, Nat.zero_le _, rfl, rfl, ba, fun j h _ => Ha.out j h, Chg.refl _ _⟩
    case round =>
      clear ba Ha
      obtain ⟨i, cs, hi, rfl, rfl, hba, hcs, hch⟩ := hrel
      obtain ⟨wo, hwo⟩ : ∃ wo : World, wo = wr := ⟨_, rfl⟩
      subst hwo
      have Hba := hid hba; have Hcs := hid hcs; have Hch := hid hch
      by_cases hlt : i < l.length
      · have ka : (blkOf wo a).bind (cellAt i) = some (.int .i64 l[i]) := by rw [hba]; exact hcs i hlt (Nat.le_refl _)
        have kb : (blkOf wo b).bind (cellAt i) = some (.int .i64 l[i]) := by
          rw [show blkOf wo b = blkOf w b from hch.block b lb (fun e => hab e.symm), Bb.out]; exact Hbv.out i hlt
        have kf : (Option.map (frozenAt i) (blkOf wo a)).getD false = false := by rw [hba]; simp [frozenAt]
        generalize l[i] = x at ka kb
        have hi0 : (0 : Int) ≤ (i : Int) := Int.natCast_nonneg _
        have hi1 : (i : Int) < (l.length : Int) := by omega
        clear hba hcs hch bb
        go_wp2
        go_quiet (fail)
        go_wp2
        go_roundg (l.length - (i + 1))
        case measure => omega
        case rel =>
          refine ⟨i + 1, cs.setIfInBounds i (.int .i64 77), by omega, rfl, by go_num, ?_, fun j h hj => ?_, Chg.drewN (Chg.setCell (F := fun k => k = a) Hch.out (p := ⟨a, i, none⟩) (fun _ => rfl) _) _⟩
          · exact Blk.set (t := 3) Hba.out i _
          · rw [Array.getElem?_setIfInBounds_ne (by omega)]
            exact Hcs.out j h (by omega)
      · obtain rfl : i = l.length := by omega
        clear hba hcs hch bb
        go_wp2
        refine HR.out _ _ ⟨rfl, ?_⟩
        rw [Oa.out]
        exact Hch.out.mono (fun k _ e => by rw [e])
end Go.Proofs.Ytbiaelaaihieeaa
