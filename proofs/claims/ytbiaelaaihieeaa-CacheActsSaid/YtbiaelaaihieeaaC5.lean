/- The cache: making room. -/
import Derived.Test.YtbiaelaaihieeaaC4
set_option linter.unusedVariables false
set_option linter.unusedSimpArgs false
set_option maxRecDepth 100000
namespace Go.Proofs.Ytbiaelaaihieeaa
open Go.RowKit

def upd (I : Nat → It) (b : Nat) (i : It) : Nat → It := fun k => if k = b then i else I k
theorem upd_same (I : Nat → It) (b : Nat) (i : It) : upd I b i b = i := by simp [upd]
theorem upd_ne (I : Nat → It) {b k : Nat} (i : It) (h : k ≠ b) : upd I b i k = I k := by simp [upd, h]
def usedOf (S : Sh) (I : Nat → It) : Int := cap (chs I S.al)
/-- Room has been made for so much more. -/
inductive Made (more room : Int) : Sh → (Nat → It) → Sh → (Nat → It) → Prop
  | none (S : Sh) (I : Nat → It) : S.wt = [] → Made more room S I S I
  | fits (S : Sh) (I : Nat → It) : addTop (usedOf S I) more ≤ room → Made more room S I S I
  | step {S : Sh} {I : Nat → It} {b : Nat} {r : List Nat} {S' : Sh} {I' : Nat → It} : S.wt = b :: r → room < addTop (usedOf S I) more → Made more room (S.gone b (I b)) (upd I b (I b).off) S' I' → Made more room S I S' I'
variable {B : Nat}
/-- What holds of a shard and its entries at any time. -/
structure ShOk (S : Sh) (I : Nat → It) : Prop where
  sub : ∀ y ∈ S.wt, y ∈ S.al
  ch : ChOk I S.al
theorem less_mem {l : List Nat} {x y : Nat} (h : y ∈ less l x) : y ∈ l := (List.mem_filter.1 h).1
theorem less_ne {l : List Nat} {x y : Nat} (h : y ∈ less l x) : y ≠ x := by simpa using (List.mem_filter.1 h).2
theorem mem_less {l : List Nat} {x y : Nat} (h : y ∈ l) (hne : y ≠ x) : y ∈ less l x := List.mem_filter.2 ⟨h, by simpa using hne⟩
theorem upd_ch (I : Nat → It) (b k : Nat) : (upd I b (I b).off k).ch = (I k).ch := by
  unfold upd; split
  · rename_i e; rw [e]; rfl
  · rfl
theorem ShOk.gone {S : Sh} {I : Nat → It} (h : ShOk S I) (b : Nat) : ShOk (S.gone b (I b)) (upd I b (I b).off) :=
  ⟨fun y hy => mem_less (h.sub y (less_mem hy)) (less_ne hy), fun y hy => by rw [upd_ch]; exact h.ch y (less_mem hy)⟩
structure MakesInv (B : Nat) (w : World) (x : ShL) (S0 : Sh) (I0 : Nat → It) (more room : Int) (S : Sh) (I : Nat → It) (wr : World) : Prop where
  made : ∀ S' I', Made more room S I S' I' → Made more room S0 I0 S' I'
  at_ : ShAt B wr x S
  its : ItsAt wr I S0.al
  ok : ShOk S I
  al : ∀ y ∈ S.al, y ∈ S0.al
  wt : ∀ y ∈ S.wt, y ∈ S0.wt
  len : S.wt.length ≤ S0.wt.length
  chg : Chg (fun k => x.F k ∨ k ∈ S0.wt) w wr
def MakesRel (B : Nat) (w : World) (x : ShL) (S0 : Sh) (I0 : Nat → It) (more room : Int) (gk : Nat) (wr : World) : Prop :=
  ∃ S I, gk = S.wt.length ∧ MakesInv B w x S0 I0 more room S I wr
theorem ItsAt.below {w w' : World} {I : Nat → It} {l : List Nat} (h : ItsAt w I l) (hb : Below w.heap.size w w') : ItsAt w' I l := fun b hl => (hb.block b (Blk.lt (h b hl))).trans (h b hl)
theorem ShAt.below {w w' : World} {x : ShL} {S : Sh} (h : ShAt B w x S) (hb : Below w.heap.size w w') : ShAt B w' x S := h.chg (F := fun _ => False) (Chg.of_below hb) (fun _ _ h => h)
theorem less_lt {l : List Nat} {x : Nat} (h : x ∈ l) : (less l x).length < l.length := by
  induction l with
  | nil => simp at h
  | cons a l ih =>
    have hl := less_le l x
    by_cases e : a = x
    · have : less (a :: l) x = less l x := by simp [less, e]
      rw [this, List.length_cons]; omega
    · have h' : x ∈ l := by
        rcases List.mem_cons.1 h with h | h
        · exact absurd h.symm e
        · exact h
      have : less (a :: l) x = a :: less l x := by simp [less, e]
      rw [this, List.length_cons, List.length_cons]
      have := ih h'
      omega
theorem MakesInv.next {w wo w1 w2 : World} {x : ShL} {S T : Sh} {I J : Nat → It} {more room : Int} {b : Nat} {r : List Nat} (inv : MakesInv B w x S I more room T J wo) (hw : T.wt = b :: r) (hlt : room < addTop (usedOf T J) more) (hb1 : Below wo.heap.size wo w1)
    (h2 : ShAt B w2 x (T.gone b (J b))) (hb2 : ItAt w2 b (J b).off) (hc2 : Chg (fun k => x.F k ∨ k = b) w1 w2) : MakesInv B w x S I more room (T.gone b (J b)) (upd J b (J b).off) w2 := by
  have hbT : b ∈ T.wt := by rw [hw]; exact List.mem_cons_self ..
  have h1 := inv.at_.below hb1
  have i1 := inv.its.below hb1
  refine ⟨fun S' I' h => inv.made _ _ (.step hw hlt h), h2, fun y hy => ?_, inv.ok.gone b, fun y hy => inv.al y (less_mem hy), fun y hy => inv.wt y (less_mem hy), Nat.le_trans (less_le _ _) inv.len,
    (inv.chg.below hb1).trans hc2 (fun _ _ h => h) (fun k _ h => h.imp (fun e => e) (fun e => by rw [e]; exact inv.wt b hbT))⟩
  by_cases e : y = b
  · rw [e, upd_same]; exact hb2
  · rw [upd_ne J _ e]
    have := i1 y hy
    exact (hc2.block y (Blk.lt this) (fun h => h.elim (fun h => h1.ni h this.i) e)).trans this
set_option maxHeartbeats 1600000 in
theorem makes_any (x : ShL) (S : Sh) (I : Nat → It) (more room : Int) (w : World) (h : ShAt B w x S) (hit : ItsAt w I S.al) (ok : ShOk S I) (hn : S.wt.length ≤ maxLen) (hm : 0 ≤ more ∧ more ≤ 18446744073709551615) :
    Calls Try.prog 57 #[.pointer (some ⟨x.s, 0, none⟩), .int .u64 more, .int .u64 room] w fun e w' => e = .returned (.tuple #[]) ∧ ∃ S' I', Made more room S I S' I' ∧ ShAt B w' x S' ∧ ItsAt w' I' S.al ∧ Chg (fun k => x.F k ∨ k ∈ S.wt) w w' := by
  refine calls_of fun R HR => ?_
  have Hn := hid hn
  have Hm := hid hm
  have Inv0 : Hid (MakesInv B w x S I more room S I w) := hid ⟨fun _ _ h => h, h, hit, ok, fun _ h => h, fun _ h => h, Nat.le_refl _, Chg.refl _ _⟩
  clear h hit ok hn hm
  go_enter Try.func57, Try.ntmps57
  go_wp2
  go_loopg [6] S.wt.length (fun gk v6 wr => MakesRel B w x S I more room gk wr)
  case atStart => exact ⟨S, I, rfl, Inv0.out⟩
  case round =>
    clear Inv0
    obtain ⟨T, J, rfl, inv⟩ := hrel
    obtain ⟨wo, hwo⟩ : ∃ wo : World, wo = wr := ⟨_, rfl⟩
    subst hwo
    have Inv := hid inv
    have hbs := inv.at_.blk
    clear inv
    rcases hw : T.wt with _ | ⟨b, r⟩
    · rw [hw] at hbs
      have Hw := hid hw
      clear hw
      go_wp2
      go_end0
      exact HR.out _ _ ⟨rfl, T, J, Inv.out.made _ _ (.none T J Hw.out), Inv.out.at_, Inv.out.its, Inv.out.chg⟩
    · have hch0 := chs_nonneg Inv.out.ok.ch
      have hcp := cap_range hch0
      have hlen : (0 : Int) < (T.wt.length : Int) := by rw [hw]; simp
      have hlen' : 0 < T.wt.length := by rw [hw]; simp
      have Hu := hid (used_any x.s x.mi x.ma x.A T.wt.length x.c J T.al wo hbs Inv.out.at_.al (fun y hy => Inv.out.its y (Inv.out.al y hy)) Inv.out.ok.ch)
      have Hp := hid (cplus_any (cap (chs J T.al)) more)
      obtain ⟨a, o, hl0, hA, la, k0⟩ := ptr_at (Rd.of_own Inv.out.at_.wt) hlen'
      have hb0 : T.wt[0] = b := by simp [hw]
      rw [hb0, Nat.add_zero] at k0
      have Hw := hid hw
      have Hb0 := hid (show b ∈ T.wt by rw [hw]; exact List.mem_cons_self ..)
      clear hb0 hw hl0
      rw [hA] at hbs
      obtain ⟨n, hn⟩ : ∃ n, n = T.wt.length := ⟨_, rfl⟩
      rw [← hn] at hbs hlen
      have Hnn := hid hn
      have HA := hid hA
      clear hn hlen' hA
      have ls := Blk.lt hbs
      obtain ⟨u, hu⟩ : ∃ u, u = cap (chs J T.al) := ⟨_, rfl⟩
      rw [← hu] at Hu Hp hcp
      have HU := hid hu
      clear hu
      by_cases hlt : room < addTop u more
      · go_wp2_with (first
          | (go_at_call 63; have q := Hb1.out; refine (gone_any x T b (J b) w1 (Inv.out.at_.below q) (fun y hy => ((Inv.out.its.below q) y (Inv.out.al y hy)).i) (fun y hy => ((Inv.out.its.below q) y (Inv.out.al y (Inv.out.ok.sub y hy))).i) ((Inv.out.its.below q) b (Inv.out.al b (Inv.out.ok.sub b Hb0.out))) (Nat.le_trans Inv.out.len Hn.out)).mono ?_; rintro e w2 ⟨rfl, h2, hb2, hc2⟩; have H2 := hid h2; have Hb2 := hid hb2; have Hc2 := hid hc2; clear q h2 hb2 hc2)
          | (go_at_call 59; refine (Hp.out _ hcp Hm.out).mono ?_; rintro e w2 ⟨rfl, rfl⟩)
          | (go_at_call 60; refine Hu.out.mono ?_; rintro e w1 ⟨rfl, hb1⟩; have e1 := (bl_at hb1 x.s ls).trans hbs; have k1 := (congrArg (fun u => Option.bind u (cellAt o)) (bl_at hb1 a la)).trans k0; have Hb1 := hid hb1; clear hb1))
        go_roundg (T.gone b (J b)).wt.length
        case measure => exact less_lt Hb0.out
        case rel => exact ⟨_, _, rfl, Inv.out.next Hw.out (by unfold usedOf; rw [← HU.out]; exact hlt) Hb1.out H2.out Hb2.out Hc2.out⟩
      · go_wp2_with (first
          | (go_at_call 59; refine (Hp.out _ hcp Hm.out).mono ?_; rintro e w2 ⟨rfl, rfl⟩)
          | (go_at_call 60; refine Hu.out.mono ?_; rintro e w1 ⟨rfl, hb1⟩; have Hb1 := hid hb1; clear hb1))
        go_end0
        exact HR.out _ _ ⟨rfl, T, J, Inv.out.made _ _ (.fits T J (by unfold usedOf; rw [← HU.out]; omega)), Inv.out.at_.below Hb1.out, Inv.out.its.below Hb1.out, Inv.out.chg.below Hb1.out⟩
end Go.Proofs.Ytbiaelaaihieeaa
