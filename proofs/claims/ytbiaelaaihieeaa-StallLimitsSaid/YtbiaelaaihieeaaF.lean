/- The limiter's calls, each with what it may turn: its own blocks alone. -/
import Derived.Test.YtbiaelaaihieeaaA
import Derived.Test.YtbiaelaaihieeaaV
import Derived.Test.YtbiaelaaihieeaaM
set_option linter.unusedVariables false
set_option linter.unusedSimpArgs false
set_option maxRecDepth 100000
namespace Go.Proofs.Ytbiaelaaihieeaa
open Go.RowKit
variable {B : Nat}

def PAt (B : Nat) (w : World) (g : Nat) (L : Lim) : Prop := ∃ A0 c0 A1 c1, PLim B w g L A0 c0 A1 c1
/-- A limiter's blocks. -/
def LimF (B : Nat) (w : World) (k : Nat) : Prop := B ≤ k ∧ ∃ cs t fr, blkOf w k = some (.cells cs t fr) ∧ (t = 84 ∨ t = 87)
def Lim.fits (L : Lim) (b : Int) : Bool := decide (b ≤ L.burst) && decide (L.us.length + L.os.length < 4096)
def Lim.asked (L : Lim) (who b : Int) (u : Bool) : Lim := if L.fits b = true then (if u = true then { L with us := L.us ++ [(who, b, true)] } else { L with os := L.os ++ [(who, b, false)] }) else L

theorem limF_g {w : World} {g : Nat} {L : Lim} {A0 : Option Addr} {c0 : Nat} {A1 : Option Addr} {c1 : Nat} (hp : PLim B w g L A0 c0 A1 c1) : LimF B w g := ⟨hp.base, _, _, _, hp.blk, .inl rfl⟩
theorem own_limF {w : World} {n : Nat} {v : Value} {xs : List Value} (h : w.ownsRow B 87 3 v n xs) {k : Nat} (hk : v.ownBlock = some k) : LimF B w k := by
  rcases h.2 with ⟨rfl, _⟩ | ⟨g, cap, cur, rfl, hb, hg, _⟩
  · simp [Value.ownBlock] at hk
  · have : g = k := by simpa [Value.ownBlock] using hk
    subst this
    exact ⟨hb, _, _, _, hg, .inr rfl⟩
theorem Lim.Ok.asked {L : Lim} (ok : L.Ok) (who b : Int) (u : Bool) (hb : 0 ≤ b) : (L.asked who b u).Ok := by
  unfold Lim.asked
  split
  · rename_i h
    simp only [Lim.fits, Bool.and_eq_true, decide_eq_true_eq] at h
    obtain ⟨h1, h2, h3, h4, h5, h6, h7, h8, h9, h10⟩ := ok
    split
    · refine ⟨h1, h2, h3, h4, h5, h6, h7, by simp; omega, fun x hx => ?_, h10⟩
      simp only [List.mem_append, List.mem_singleton] at hx
      rcases hx with hx | rfl
      · exact h9 x hx
      · exact ⟨rfl, hb, h.1⟩
    · refine ⟨h1, h2, h3, h4, h5, h6, h7, by simp; omega, h9, fun x hx => ?_⟩
      simp only [List.mem_append, List.mem_singleton] at hx
      rcases hx with hx | rfl
      · exact h10 x hx
      · exact ⟨rfl, hb, h.1⟩
  · exact ok

theorem ask_at {w : World} {g : Nat} {L : Lim} (hp : PAt B w g L) (ok : L.Ok) (who b : Int) (u : Bool) (W : World) (hW : Eqv W w) :
    Calls Try.prog 12 #[.pointer (some ⟨g, 0, none⟩), .int .i64 who, .int .u64 b, .bool u] W fun e w' => e = .returned (.int .i64 (if L.fits b = true then 0 else 2)) ∧ PAt B w' g (L.asked who b u) ∧ Chg (LimF B w) w w' := by
  obtain ⟨A0, c0, A1, c1, hp⟩ := hp
  by_cases h : L.fits b = true
  · have h' := h
    simp only [Lim.fits, Bool.and_eq_true, decide_eq_true_eq] at h'
    cases u with
    | true =>
      refine (ask_urgent g L A0 c0 A1 c1 W who b ok (hp.eqv hW) h'.1 h'.2).mono ?_
      rintro e w' ⟨A, c, rfl, h1, h2⟩
      refine ⟨by rw [if_pos h], ⟨A, c, A1, c1, by simpa [Lim.asked, h] using h1⟩, (hW.chg h2).mono ?_⟩
      rintro k _ (rfl | hk)
      · exact limF_g hp
      · exact own_limF hp.own0 hk.symm
    | false =>
      refine (ask_other g L A0 c0 A1 c1 W who b ok (hp.eqv hW) h'.1 h'.2).mono ?_
      rintro e w' ⟨A, c, rfl, h1, h2⟩
      refine ⟨by rw [if_pos h], ⟨A0, c0, A, c, by simpa [Lim.asked, h] using h1⟩, (hW.chg h2).mono ?_⟩
      rintro k _ (rfl | hk)
      · exact limF_g hp
      · exact own_limF hp.own1 hk.symm
  · refine (ask_no g L A0 c0 A1 c1 W who b u ok (hp.eqv hW) ?_).mono ?_
    · simp only [Lim.fits, Bool.and_eq_true, decide_eq_true_eq] at h
      omega
    · rintro e w' ⟨rfl, n, rfl⟩
      refine ⟨by rw [if_neg h], ⟨A0, c0, A1, c1, ?_⟩, hW.chg (Chg.drewN (Chg.refl _ _) n)⟩
      rw [Lim.asked, if_neg h]
      exact (hp.eqv hW).drewN n
theorem ask_yes {w : World} {g : Nat} {L : Lim} (hp : PAt B w g L) (ok : L.Ok) (who b : Int) (u : Bool) (h : L.fits b = true) (W : World) (hW : Eqv W w) :
    Calls Try.prog 12 #[.pointer (some ⟨g, 0, none⟩), .int .i64 who, .int .u64 b, .bool u] W fun e w' => e = .returned (.int .i64 0) ∧ PAt B w' g (L.asked who b u) ∧ Chg (LimF B w) w w' := by
  have := ask_at hp ok who b u W hW
  rw [if_pos h] at this
  exact this
theorem ask_nay {w : World} {g : Nat} {L : Lim} (hp : PAt B w g L) (ok : L.Ok) (who b : Int) (u : Bool) (h : ¬ L.fits b = true) (W : World) (hW : Eqv W w) :
    Calls Try.prog 12 #[.pointer (some ⟨g, 0, none⟩), .int .i64 who, .int .u64 b, .bool u] W fun e w' => e = .returned (.int .i64 2) ∧ PAt B w' g L ∧ Chg (LimF B w) w w' := by
  have := ask_at hp ok who b u W hW
  rw [if_neg h, Lim.asked, if_neg h] at this
  exact this
theorem step_at {w : World} {g : Nat} {L : Lim} (hp : PAt B w g L) (ok : L.Ok) (W : World) (hW : Eqv W w) :
    Calls Try.prog 13 #[.pointer (some ⟨g, 0, none⟩)] W fun e w' => ∃ A c, e = .returned (.slice A L.step.1.length c) ∧ w'.ownsRow w.heap.size 3 1 (.slice A L.step.1.length c) L.step.1.length (ints L.step.1) ∧
      PAt B w' g L.step.2 ∧ Chg (LimF B w) w w' ∧ L.step.2.Ok := by
  obtain ⟨A0, c0, A1, c1, hp⟩ := hp
  refine (step_any g L A0 c0 A1 c1 W ok (hp.eqv hW)).mono ?_
  rintro e w' ⟨A, c, A0', c0', A1', c1', rfl, h1, h2, h3, h4⟩
  rw [hW.1] at h1
  exact ⟨A, c, rfl, h1, ⟨_, _, _, _, h2⟩, (hW.chg h3).mono (by rintro k _ rfl; exact limF_g hp), h4⟩
theorem waiting_at {w : World} {g : Nat} {L : Lim} (hp : PAt B w g L) (ok : L.Ok) (W : World) (hW : Eqv W w) :
    Calls Try.prog 14 #[.pointer (some ⟨g, 0, none⟩)] W fun e w' => ∃ A c, e = .returned (.slice A L.waiting.length c) ∧ w'.ownsRow w.heap.size 3 1 (.slice A L.waiting.length c) L.waiting.length (ints L.waiting) ∧ Below w.heap.size w w' := by
  obtain ⟨A0, c0, A1, c1, hp⟩ := hp
  refine (waiting_any g L A0 c0 A1 c1 W ok (hp.eqv hW)).mono ?_
  rintro e w' ⟨A, c, rfl, h1, h2⟩
  rw [hW.1] at h1 h2
  exact ⟨A, c, rfl, h1, hW.below h2⟩
theorem left_at {w : World} {g : Nat} {L : Lim} (hp : PAt B w g L) (W : World) (hW : Eqv W w) :
    Calls Try.prog 22 #[.pointer (some ⟨g, 0, none⟩)] W fun e w' => e = .returned (.int .u64 L.left) ∧ w' = W := by
  obtain ⟨A0, c0, A1, c1, hp⟩ := hp
  exact left_any g L A0 c0 A1 c1 W (hp.eqv hW)
def Lim.new (r b : Int) : Lim := { rate := r, burst := b, left := b, row := 0, us := [], os := [] }
theorem new_at (r b : Int) (w : World) (hB : B ≤ w.heap.size) : PAt B (w.alloc (.cells #[.int .u64 r, .int .u64 b, .int .u64 b, .slice none 0 0, .slice none 0 0, .int .i64 0] 84)) w.heap.size (Lim.new r b) :=
  ⟨none, 0, none, 0, blk_new _ _, World.ownsRow_nil _ _ _ _, World.ownsRow_nil _ _ _ _, .inl rfl, hB⟩
theorem new_okk (r b : Int) (h0 : 0 < r) (h1 : r ≤ b) (h2 : b < 18446744073709551616) : (Lim.new r b).Ok :=
  ⟨h0, h1, h2, by simp [Lim.new]; omega, Int.le_refl _, by simp [Lim.new], by simp [Lim.new], by simp [Lim.new], by simp [Lim.new], by simp [Lim.new]⟩
theorem PAt.later {w w' : World} {g : Nat} {L : Lim} (hp : PAt B w g L) {F : Nat → Prop} (hc : Chg F w w') (hF : ∀ k, LimF B w k → ¬ F k) : PAt B w' g L := by
  obtain ⟨A0, c0, A1, c1, hp⟩ := hp
  refine ⟨A0, c0, A1, c1, (hc.block g (Blk.lt hp.blk) (hF g (limF_g hp))).trans hp.blk, own_chg hp.own0 hc (fun k hk => hF k (own_limF hp.own0 hk)), own_chg hp.own1 hc (fun k hk => hF k (own_limF hp.own1 hk)), hp.apart, hp.base⟩
theorem PAt.below {w w' : World} {g : Nat} {L : Lim} (hp : PAt B w g L) (hb : Below w.heap.size w w') : PAt B w' g L := hp.later (F := fun _ => False) (Chg.of_below hb) (fun _ _ h => h)
theorem PAt.eqv {w W : World} {g : Nat} {L : Lim} (hp : PAt B w g L) (h : Eqv W w) : PAt B W g L := by
  obtain ⟨A0, c0, A1, c1, hp⟩ := hp
  exact ⟨A0, c0, A1, c1, hp.eqv h⟩
/-- What a limiter's call leaves alone. -/
theorem limF_row {w : World} {base e size n : Nat} {v : Value} {xs : List Value} (h : w.ownsRow base e size v n xs) (h1 : e ≠ 84) (h2 : e ≠ 87) {k : Nat} (hk : v.ownBlock = some k) : ¬ LimF B w k := by
  rintro ⟨_, cs, t, fr, hb, ht⟩
  rcases h.2 with ⟨rfl, _⟩ | ⟨g, cap, cur, rfl, _, hg, _⟩
  · simp [Value.ownBlock] at hk
  · have : g = k := by simpa [Value.ownBlock] using hk
    subst this
    unfold blkOf at hb
    rw [hg] at hb
    injection hb with hb
    injection hb with _ hb
    subst hb
    rcases ht with rfl | rfl
    · exact h1 rfl
    · exact h2 rfl
theorem limF_map {κ : Type} {enc : κ → Value} {w : World} {b : Nat} {l : List (κ × Value)} (h : MapAt enc w b l) : ¬ LimF B w b := by
  rintro ⟨_, cs, t, fr, hb, _⟩
  obtain ⟨es, clock, hm, _⟩ := h
  rw [hm] at hb; cases hb
end Go.Proofs.Ytbiaelaaihieeaa
