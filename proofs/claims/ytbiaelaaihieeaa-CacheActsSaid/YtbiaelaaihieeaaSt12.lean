/- The cache of strings: Free. -/
import Derived.Test.YtbiaelaaihieeaaSt11
set_option linter.unusedVariables false
set_option linter.unusedSimpArgs false
set_option maxRecDepth 100000
namespace Go.Proofs.Ytbiaelaaihieeaa.Str
open Go.RowKit

variable {B : Nat}
def lookP (l : List (Int × Nat)) (k : Int) : Option Nat := (l.find? fun p => decide (p.1 = k)).map (·.2)
theorem lookP_some {l : List (Int × Nat)} {k : Int} {b : Nat} (h : lookP l k = some b) : (k, b) ∈ l := by
  unfold lookP at h
  cases hf : l.find? (fun p => decide (p.1 = k)) with
  | none => rw [hf] at h; cases h
  | some p =>
    rw [hf] at h
    simp only [Option.map_some, Option.some.injEq] at h
    have h1 := List.mem_of_find?_eq_some hf
    have h2 := List.find?_some hf
    simp only [decide_eq_true_eq] at h2
    rw [← h, ← h2]; exact h1
theorem pget_pinP (l : List (Int × Nat)) (k : Int) : pget (pinP l) k = (lookP l k).map fun b => .pointer (some ⟨b, 0, none⟩) := by
  unfold pget lookP pinP
  rw [List.find?_map]
  cases h : List.find? ((fun p => decide (p.1 = k)) ∘ fun p : Int × Nat => (p.1, Value.pointer (some ⟨p.2, 0, none⟩))) l with
  | none =>
    have : List.find? (fun p : Int × Nat => decide (p.1 = k)) l = none := h
    rw [this]; rfl
  | some p =>
    have : List.find? (fun p : Int × Nat => decide (p.1 = k)) l = some p := h
    rw [this]; rfl
theorem pdel_pinP (l : List (Int × Nat)) (k : Int) : pdel (pinP l) k = pinP (l.filter fun p => decide (p.1 ≠ k)) := by
  unfold pdel pinP
  rw [List.filter_map]
  congr 1
  apply List.filter_congr
  intro y _
  simp
section
variable {w w' : World} {x : CL} {S : CS}
theorem CAt.pins_nodup (h : CAt B w x S) : (S.pins.map (·.1)).Nodup := by
  obtain ⟨es, clock, _, _, hn, _⟩ := h.pins
  simpa [pinP, Function.comp_def] using hn
theorem CAt.put_pins (h : CAt B w x S) (hc : Chg (fun k => k = x.mp) w w') {l : List (Int × Nat)} (hm : MapAt ikey w' x.mp (pinP l)) : CAt B w' x { S with pins := l } := by
  obtain ⟨cr, hr⟩ := h.row_blk
  exact ⟨(hc.block x.g (Blk.lt h.blk) (fun e => map_ne_blk h.pins h.blk e.symm)).trans h.blk, own_chg h.row hc (fun k hk e => map_ne_blk h.pins hr (by injection hk with hk; exact e.symm.trans (show x.row = k from hk).symm)), h.n0, h.n1, hm,
    fun i hi => (h.shs i hi).chg hc (fun k hk e => (h.far hi).2.2 (by rw [← e]; exact hk)), h.apart, h.mpa, fun b hb => (hc.block b (Blk.lt (h.its b hb)) (fun e => (h.ni (h.isI hb)).2.2 e)).trans (h.its b hb), h.base⟩
theorem CAt.put_it (h : CAt B w x S) {b : Nat} (hb : b ∈ S.its) {j : It} (hc : Chg (fun k => k = b) w w') (hI : ItAt w' b j) : CAt B w' x { S with it := upd S.it b j } := by
  have hn := h.ni (h.isI hb)
  exact ⟨(hc.block x.g (Blk.lt h.blk) (fun e => hn.1 e.symm)).trans h.blk, own_chg h.row hc (fun k hk e => hn.2.1 (by injection hk with hk; exact e.symm.trans (show x.row = k from hk).symm)), h.n0, h.n1, h.pins.of_blk (hc.block _ h.pins.lt (fun e => hn.2.2 e.symm)),
    fun i hi => (h.shs i hi).chg hc (fun k hk e => (h.shs i hi).ni hk (by rw [e]; exact h.isI hb)), h.apart, h.mpa, fun c hc' => by
      show ItAt w' c (upd S.it b j c)
      by_cases e : c = b
      · rw [e, upd_same]; exact hI
      · rw [upd_ne _ _ e]; exact (hc.block c (Blk.lt (h.its c hc')) e).trans (h.its c hc'), h.base⟩
end
end Go.Proofs.Ytbiaelaaihieeaa.Str
