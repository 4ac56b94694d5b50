/- The cache of strings whole: the calls of its parts. -/
import Derived.Test.YtbiaelaaihieeaaSt8
set_option linter.unusedVariables false
set_option linter.unusedSimpArgs false
set_option maxRecDepth 100000
namespace Go.Proofs.Ytbiaelaaihieeaa.Str
open Go.RowKit

variable {B : Nat}
/-- What holds of a cache at any time. -/
structure COk (n : Nat) (S : CS) : Prop where
  room : 0 ≤ S.room ∧ S.room ≤ 18446744073709551615
  last : 0 ≤ S.last
  ok : ∀ i, i < n → ShOk (S.sh i) S.it
  al : ∀ i, i < n → ∀ b ∈ (S.sh i).al, b ∈ S.its
  alk : ∀ i, i < n → ∀ b ∈ (S.sh i).al, sidx n (S.it b).key = i
  inm : ∀ i, i < n → ∀ p ∈ (S.sh i).inm, p.2 ∈ (S.sh i).al ∧ (S.it p.2).key = p.1 ∧ (S.it p.2).inn = true
  pins : ∀ p ∈ S.pins, p.1 ≤ S.last ∧ p.2 ∈ S.its
  pn : ∀ b ∈ S.its, 0 ≤ (S.it b).pins ∧ (S.it b).pins ≤ S.last
  wtn : ∀ i, i < n → (S.sh i).wt.Nodup
  itn : (S.its.length : Int) ≤ S.last
  cnt : ∀ b ∈ S.its, (S.it b).pins = (((S.pins.map (·.2)).count b : Nat) : Int)
  ksz : ∀ b ∈ S.its, (S.it b).key.size ≤ 1024
  pinal : ∀ p ∈ S.pins, p.2 ∈ (S.sh (sidx n (S.it p.2).key)).al
  w0 : ∀ i, i < n → ∀ b ∈ (S.sh i).wt, (S.it b).pins = 0
theorem nodup_len : ∀ {l l' : List Nat}, l.Nodup → (∀ y ∈ l, y ∈ l') → l.length ≤ l'.length
  | [], _, _, _ => Nat.zero_le _
  | a :: l, l', h, hs => by
    rw [List.nodup_cons] at h
    have ha : a ∈ l' := hs a (List.mem_cons_self ..)
    have h1 : l.length ≤ (l'.erase a).length := nodup_len h.2 (fun y hy => by
      have hne : y ≠ a := fun e => h.1 (by rw [← e]; exact hy)
      exact (List.mem_erase_of_ne hne).2 (hs y (List.mem_cons_of_mem _ hy)))
    have h2 := List.length_erase_of_mem ha
    have h3 : 0 < l'.length := List.length_pos_of_mem ha
    rw [List.length_cons]; omega
theorem COk.wt_its {n : Nat} {S : CS} (ok : COk n S) {i : Nat} (hi : i < n) : ∀ y ∈ (S.sh i).wt, y ∈ S.its := fun y hy => ok.al i hi y ((ok.ok i hi).sub y hy)
theorem COk.wt_len {n : Nat} {S : CS} (ok : COk n S) {i : Nat} (hi : i < n) : ((S.sh i).wt.length : Int) ≤ S.last := by
  have := nodup_len (ok.wtn i hi) (ok.wt_its hi)
  have := ok.itn
  omega
theorem Made.keep {more room : Int} {S S' : Sh} {I I' : Nat → It} (h : Made more room S I S' I') : ∀ b, b ∉ S.wt → I' b = I b := by
  induction h with
  | none => exact fun _ _ => rfl
  | fits => exact fun _ _ => rfl
  | @step S I b r S' I' hw _ _ ih =>
    intro k hk
    have hkb : k ≠ b := fun e => hk (by rw [e, hw]; exact List.mem_cons_self ..)
    rw [ih k (fun h => hk (less_mem h)), upd_ne I _ hkb]
section
variable {w w' : World} {x : CL} {S : CS}
theorem CL.put_self (x : CL) (i : Nat) : ({ x with sh := putAt x.sh i (x.sh i) } : CL) = x := by
  have : putAt x.sh i (x.sh i) = x.sh := by
    funext k; unfold putAt; split
    · rename_i e; rw [e]
    · rfl
  rw [this]
theorem CAt.put_same (h : CAt B w x S) {i : Nat} (hi : i < x.n) {F : Nat → Prop} (hc : Chg F w w') (hF : ∀ k, k < w.heap.size → F k → (x.sh i).F k ∨ IsI w k) {T : Sh} (hy : ShAt B w' (x.sh i) T) {I : Nat → It} (hI : ItsAt w' I S.its) :
    CAt B w' x { S with sh := putAt S.sh i T, it := I } := by
  have := h.put_sh hi hc hF hy rfl rfl rfl (fun k hk => .inl (.inr (.inr (.inr hk)))) hI
  rw [CL.put_self] at this
  exact this
theorem CAt.isI (h : CAt B w x S) {b : Nat} (hb : b ∈ S.its) : IsI w b := (h.its b hb).i
theorem CAt.used (h : CAt B w x S) (ok : COk x.n S) {i : Nat} (hi : i < x.n) :
    Calls Try.prog 78 #[.pointer (some ⟨(x.sh i).s, 0, none⟩)] w fun e w' => e = .returned (.int .u64 (usedOf (S.sh i) S.it)) ∧ Below w.heap.size w w' :=
  used_any _ _ _ _ _ _ S.it (S.sh i).al w (h.shs i hi).blk (h.shs i hi).al (fun b hb => h.its b (ok.al i hi b hb)) (ok.ok i hi).ch
theorem CAt.makes (h : CAt B w x S) (ok : COk x.n S) {i : Nat} (hi : i < x.n) (more room : Int) (hm : 0 ≤ more ∧ more ≤ 18446744073709551615) (hl : S.last < 1152921504606846976) :
    Calls Try.prog 76 #[.pointer (some ⟨(x.sh i).s, 0, none⟩), .int .u64 more, .int .u64 room] w fun e w' => e = .returned (.tuple #[]) ∧ ∃ T I', Made more room (S.sh i) S.it T I' ∧ CAt B w' x { S with sh := putAt S.sh i T, it := I' } ∧
      Chg (fun k => (x.sh i).F k ∨ k ∈ S.its) w w' := by
  have hs := h.shs i hi
  refine (makes_any (x.sh i) (S.sh i) S.it more room w hs (fun b hb => h.its b (ok.al i hi b hb)) (ok.ok i hi) (by have := ok.wt_len hi; simp only [maxLen]; omega) hm).mono ?_
  rintro e w' ⟨rfl, T, I', hmd, hT, hI, hc⟩
  refine ⟨rfl, T, I', hmd, h.put_same hi hc (fun k _ hk => hk.imp (fun e => e) (fun e => h.isI (ok.wt_its hi k e))) hT (fun b hb => ?_), hc.mono (fun k _ hk => hk.imp (fun e => e) (fun e => ok.wt_its hi k e))⟩
  by_cases hba : b ∈ (S.sh i).al
  · exact hI b hba
  · have hbw : b ∉ (S.sh i).wt := fun hw => hba ((ok.ok i hi).sub b hw)
    rw [hmd.keep b hbw]
    exact (hc.block b (Blk.lt (h.its b hb)) (fun hk => hk.elim (fun hk => hs.ni hk (h.isI hb)) hbw)).trans (h.its b hb)
/-- An entry has been turned besides. -/
theorem CAt.its_upd (h : CAt B w x S) {i : Nat} (hi : i < x.n) {b : Nat} {j : It} {F : Nat → Prop} (hc : Chg F w w') (hF : ∀ k, F k → (x.sh i).F k ∨ k = b) (hb : ItAt w' b j) : ItsAt w' (upd S.it b j) S.its := by
  intro k hk
  by_cases e : k = b
  · rw [e, upd_same]; exact hb
  · rw [upd_ne _ _ e]
    exact (hc.block k (Blk.lt (h.its k hk)) (fun hf => (hF k hf).elim (fun hf => (h.shs i hi).ni hf (h.isI hk)) e)).trans (h.its k hk)
theorem CAt.out (h : CAt B w x S) (ok : COk x.n S) {i : Nat} (hi : i < x.n) {b : Nat} (hb : b ∈ S.its) (hl : S.last < 1152921504606846976) :
    Calls Try.prog 79 #[.pointer (some ⟨(x.sh i).s, 0, none⟩), .pointer (some ⟨b, 0, none⟩)] w fun e w' => e = .returned (.tuple #[]) ∧ CAt B w' x { S with sh := putAt S.sh i ((S.sh i).outOf b (S.it b)), it := upd S.it b (S.it b).off } ∧
      Chg (fun k => (x.sh i).F k ∨ k ∈ S.its) w w' := by
  refine (out_any (x.sh i) (S.sh i) b (S.it b) w (h.shs i hi) (fun y hy => h.isI (ok.al i hi y hy)) (fun y hy => h.isI (ok.wt_its hi y hy)) (h.its b hb) (by have := ok.wt_len hi; simp only [maxLen]; omega)).mono ?_
  rintro e w' ⟨rfl, hT, hI, hc⟩
  exact ⟨rfl, h.put_same hi hc (fun k _ hk => hk.imp (fun e => e) (fun e => by rw [e]; exact h.isI hb)) hT (h.its_upd hi hc (fun _ h => h) hI), hc.mono (fun k _ hk => hk.imp (fun e => e) (fun e => by rw [e]; exact hb))⟩
theorem CAt.gone (h : CAt B w x S) (ok : COk x.n S) {i : Nat} (hi : i < x.n) {b : Nat} (hb : b ∈ S.its) (hl : S.last < 1152921504606846976) :
    Calls Try.prog 94 #[.pointer (some ⟨(x.sh i).s, 0, none⟩), .pointer (some ⟨b, 0, none⟩)] w fun e w' => e = .returned (.tuple #[]) ∧ CAt B w' x { S with sh := putAt S.sh i ((S.sh i).gone b (S.it b)), it := upd S.it b (S.it b).off } ∧
      Chg (fun k => (x.sh i).F k ∨ k ∈ S.its) w w' := by
  refine (gone_any (x.sh i) (S.sh i) b (S.it b) w (h.shs i hi) (fun y hy => h.isI (ok.al i hi y hy)) (fun y hy => h.isI (ok.wt_its hi y hy)) (h.its b hb) (by have := ok.wt_len hi; simp only [maxLen]; omega)).mono ?_
  rintro e w' ⟨rfl, hT, hI, hc⟩
  exact ⟨rfl, h.put_same hi hc (fun k _ hk => hk.imp (fun e => e) (fun e => by rw [e]; exact h.isI hb)) hT (h.its_upd hi hc (fun _ h => h) hI), hc.mono (fun k _ hk => hk.imp (fun e => e) (fun e => by rw [e]; exact hb))⟩
theorem CAt.busy (h : CAt B w x S) (ok : COk x.n S) {i : Nat} (hi : i < x.n) {b : Nat} (hb : b ∈ S.its) (hl : S.last < 1152921504606846976) :
    Calls Try.prog 81 #[.pointer (some ⟨(x.sh i).s, 0, none⟩), .pointer (some ⟨b, 0, none⟩)] w fun e w' => e = .returned (.tuple #[]) ∧ CAt B w' x { S with sh := putAt S.sh i { S.sh i with wt := less (S.sh i).wt b } } ∧
      Chg (fun k => (x.sh i).F k) w w' := by
  refine (busy_any (x.sh i) (S.sh i) b w (h.shs i hi) (fun y hy => h.isI (ok.wt_its hi y hy)) (h.isI hb) (by have := ok.wt_len hi; simp only [maxLen]; omega)).mono ?_
  rintro e w' ⟨rfl, hT, hc⟩
  have hc' : Chg (fun k => (x.sh i).F k) w w' := hc.mono (fun k _ hk => hk.elim (fun e => .inl e) (fun e => .inr (.inr (.inr e))))
  exact ⟨rfl, h.put_same hi hc' (fun k _ hk => .inl hk) hT (fun k hk => (hc'.block k (Blk.lt (h.its k hk)) (fun hf => (h.shs i hi).ni hf (h.isI hk))).trans (h.its k hk)), hc'⟩
/-- A pin more. -/
def CS.pinned (S : CS) (b : Nat) : CS := { S with last := S.last + 1, pins := S.pins ++ [(S.last + 1, b)], it := upd S.it b { S.it b with pins := (S.it b).pins + 1 } }
theorem CAt.pin (h : CAt B w x S) {b : Nat} (hb : b ∈ S.its) (hp : 0 ≤ (S.it b).pins ∧ (S.it b).pins ≤ S.last) (hps : ∀ p ∈ S.pins, p.1 ≤ S.last) (hl0 : 0 ≤ S.last) (hl : S.last < 1152921504606846976) :
    Calls Try.prog 80 #[.pointer (some ⟨x.g, 0, none⟩), .pointer (some ⟨b, 0, none⟩)] w fun e w' => e = .returned (.int .i64 (S.last + 1)) ∧ CAt B w' x (S.pinned b) ∧ Chg (fun k => k = x.g ∨ k = x.mp ∨ k ∈ S.its) w w' := by
  refine (pin_any x.g b x.mp (S.it b) _ S.room S.last S.st S.pins w ⟨_, _, _, rfl⟩ h.blk h.pins (h.its b hb) hps hl0 hl hp.1 (by omega)).mono ?_
  rintro e w' ⟨rfl, hg, hm, hI, hc⟩
  have hni : ∀ k, IsI w k → ¬ (k = x.g ∨ k = x.mp ∨ k = b) → ¬ (k = x.g ∨ k = x.mp ∨ k = b) := fun _ _ h => h
  refine ⟨rfl, ⟨hg, own_chg h.row hc ?_, h.n0, h.n1, hm, fun i hi => (h.shs i hi).chg hc ?_, h.apart, h.mpa, fun k hk => ?_, h.base⟩, hc.mono (fun k _ hk => hk.imp (fun e => e) (fun e => e.imp (fun e => e) (fun e => by rw [e]; exact hb)))⟩
  · intro k hk
    injection hk with hk
    subst hk
    obtain ⟨cr, hr⟩ := h.row_blk
    rintro (e | e | e)
    · have e : x.row = x.g := e
      rw [e] at hr; rw [h.blk] at hr; injection hr with hr; injection hr with _ e _; exact absurd e (by decide)
    · exact map_ne_blk h.pins hr e.symm
    · exact (h.ni (h.isI hb)).2.1 e.symm
  · intro k hk
    obtain ⟨f1, f2, f3⟩ := h.far hi
    rintro (e | e | e)
    · exact f1 (by rw [← e]; exact hk)
    · exact f3 (by rw [← e]; exact hk)
    · exact (h.shs i hi).ni hk (by rw [e]; exact h.isI hb)
  · show ItAt w' k (upd S.it b _ k)
    by_cases e : k = b
    · rw [e, upd_same]; exact hI
    · rw [upd_ne _ _ e]
      have hn := h.ni (h.isI hk)
      exact (hc.block k (Blk.lt (h.its k hk)) (fun hf => hf.elim hn.1 (fun hf => hf.elim hn.2.2 e))).trans (h.its k hk)
theorem CAt.of (h : CAt B w x S) (key : ByteArray) (hk : key.size ≤ maxLen) :
    Calls Try.prog 75 #[.pointer (some ⟨x.g, 0, none⟩), .string key] w fun e w' => e = .returned (.pointer (some ⟨(x.sh (sidx x.n key)).s, 0, none⟩)) ∧ Below w.heap.size w w' :=
  of_any x.g key _ x.n x.cp S.room S.last S.st (some x.mp) ((List.range x.n).map fun i => (x.sh i).s) w h.blk (Rd.of_own h.row) h.n0 h.n1 hk _ (by rw [List.getElem?_map, List.getElem?_range (sidx_lt h.n0 key)]; rfl)
theorem CAt.share (h : CAt B w x S) (ok : COk x.n S) :
    Calls Try.prog 77 #[.pointer (some ⟨x.g, 0, none⟩)] w fun e w' => e = .returned (.int .u64 (S.room / x.n)) ∧ ∃ m, w' = w.drewN m :=
  share_any x.g _ x.n x.cp S.room S.last S.st (some x.mp) w h.blk h.n0 h.n1 ok.room
end
end Go.Proofs.Ytbiaelaaihieeaa.Str
