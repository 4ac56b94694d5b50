/- In turn: who goes in a step, one behind the other; plain lists alone. -/
import Derived.Test.YtbiaelaaihieeaaR
set_option linter.unusedVariables false
set_option linter.unusedSimpArgs false
namespace Go.Proofs.Ytbiaelaaihieeaa
open Go.RowKit

inductive Run : Lim → List Ask → Lim → Prop
  | nil (L : Lim) : Run L [] L
  | cons {L L' : Lim} {a : Ask} {x : Int} {g : List Ask} {Le : Lim} (h : L.pick = some (a, L')) (r : Run { L' with left := x } g Le) : Run L (a :: g) Le
theorem Run.perm {L Le : Lim} {g : List Ask} (r : Run L g Le) : L.queue.Perm (g ++ Le.queue) := by
  induction r with
  | nil L => simp
  | cons h r ih => exact (Lim.pick_perm h).trans (List.Perm.cons _ ih)
theorem Run.end_ {L Le : Lim} (r : Run L [] Le) : Le = L := by cases r; rfl
theorem steps_run : ∀ (n : Nat) (L : Lim), ∃ g : List Ask, (Lim.steps n L).1 = g.map (·.1) ∧ Run L g (Lim.steps n L).2
  | 0, L => ⟨[], rfl, Run.nil L⟩
  | n + 1, L => by
    simp only [Lim.steps]
    cases hp : L.pick with
    | none => exact ⟨[], rfl, Run.nil L⟩
    | some p =>
      obtain ⟨a, L'⟩ := p
      simp only
      by_cases hlt : L.left < a.2.1
      · rw [if_pos hlt]
        exact ⟨[], rfl, Run.nil L⟩
      · rw [if_neg hlt]
        obtain ⟨g, e1, e2⟩ := steps_run n { L' with left := L.left - a.2.1 }
        exact ⟨a :: g, by simp [e1], Run.cons hp e2⟩
theorem step_run (L : Lim) : ∃ g : List Ask, L.step.1 = g.map (·.1) ∧ Run L.fill g L.step.2 := steps_run _ _
theorem Lim.pick_full {L : Lim} (h : 0 < L.us.length + L.os.length) : ∃ a L', L.pick = some (a, L') := by
  cases hp : L.pick with
  | some p => exact ⟨p.1, p.2, rfl⟩
  | none =>
    have e := Lim.pick_no hp
    unfold ahead at e
    split at e
    · omega
    · split at e <;> omega
/-- A step in which nobody goes, though some wait. -/
theorem step_idle {L : Lim} (ok : L.Ok) (hq : 0 < L.queue.length) (h : L.step.1 = []) : L.step.2 = L.fill ∧ L.fill.left = L.left + L.rate ∧ L.left + L.rate < L.burst := by
  have okf : L.fill.Ok := ok.take (by have := ok.left0; have := ok.rate; have := ok.left; split <;> omega) (by have := ok.left; split <;> omega)
  have hq' : 0 < L.fill.us.length + L.fill.os.length := by simpa [Lim.queue, Lim.fill] using hq
  obtain ⟨a, L', hp⟩ := Lim.pick_full hq'
  have hb := (okf.pick hp).2.2.1
  unfold Lim.step at h ⊢
  simp only [Lim.steps, hp] at h ⊢
  by_cases hlt : L.fill.left < a.2.1
  · rw [if_pos hlt] at h ⊢
    have hb2 : a.2.1 ≤ L.burst := hb
    by_cases hr : L.left + L.rate ≤ L.burst
    · have e : L.fill.left = L.left + L.rate := by simp only [Lim.fill, if_pos hr]
      exact ⟨rfl, e, by omega⟩
    · have e : L.fill.left = L.burst := by simp only [Lim.fill, if_neg hr]
      omega
  · rw [if_neg hlt] at h
    simp at h

structure TurnInv (L : Lim) (lu lo row : Int) : Prop where
  us : ∀ a ∈ L.us, a.2.2 = true ∧ lu < a.1
  os : ∀ a ∈ L.os, a.2.2 = false ∧ lo < a.1
  ups : L.us.Pairwise (fun a b => a.1 < b.1)
  ops : L.os.Pairwise (fun a b => a.1 < b.1)
  same : 0 < L.os.length → row = L.row
  row0 : 0 ≤ row
  most : row + L.us.length ≤ 4096
  many : L.us.length + L.os.length ≤ 4096
theorem TurnInv.left {L : Lim} {lu lo row : Int} (h : TurnInv L lu lo row) (x : Int) : TurnInv { L with left := x } lu lo row := ⟨h.us, h.os, h.ups, h.ops, h.same, h.row0, h.most, h.many⟩
theorem TurnInv.pick {L L' : Lim} {a : Ask} {lu lo row : Int} (h : TurnInv L lu lo row) (hp : L.pick = some (a, L')) :
    (a.2.2 = true ∧ lu < a.1 ∧ ¬ (0 < L.os.length ∧ 10 ≤ row) ∧ L'.os.length = L.os.length ∧ TurnInv L' a.1 lo (row + 1)) ∨
    (a.2.2 = false ∧ lo < a.1 ∧ L'.os.length + 1 = L.os.length ∧ TurnInv L' lu a.1 0) := by
  obtain ⟨h1, h2, h3, h4, h5, h6, h7, h8⟩ := h
  rcases ahead_cases L.us.length L.os.length L.row with e | e | e
  · rw [Lim.pick_none e] at hp; cases hp
  · obtain ⟨b, us, hu, hp'⟩ := Lim.pick_zero e
    rw [hp'] at hp
    simp only [Option.some.injEq, Prod.mk.injEq] at hp
    obtain ⟨rfl, rfl⟩ := hp
    rw [hu] at h1 h3 h7 h8
    have hb := h1 b (by simp)
    have hps := List.pairwise_cons.1 h3
    simp only [List.length_cons] at h7 h8
    refine .inl ⟨hb.1, hb.2, ?_, rfl, ⟨fun c hc => ⟨(h1 c (by simp [hc])).1, hps.1 c hc⟩, h2, hps.2, h4, ?_, by omega, by simp only; omega, by simp only; omega⟩⟩
    · rintro ⟨g1, g2⟩
      have := h5 g1
      unfold ahead at e
      split at e
      · omega
      · split at e
        · omega
        · rename_i h9
          exact h9 (.inr ⟨g1, by omega⟩)
    · intro g1
      simp only at g1 ⊢
      have := h5 g1
      rw [if_neg (by omega)]
      omega
  · obtain ⟨b, os, ho, hp'⟩ := Lim.pick_one e
    rw [hp'] at hp
    simp only [Option.some.injEq, Prod.mk.injEq] at hp
    obtain ⟨rfl, rfl⟩ := hp
    rw [ho] at h2 h4 h8
    have hb := h2 b (by simp)
    have hps := List.pairwise_cons.1 h4
    simp only [List.length_cons] at h8
    exact .inr ⟨hb.1, hb.2, by simp [ho], ⟨h1, fun c hc => ⟨(h2 c (by simp [hc])).1, hps.1 c hc⟩, h3, hps.2, fun _ => rfl, Int.le_refl _, by simp only; omega, by simp only; omega⟩⟩
theorem TurnInv.new (r b : Int) : TurnInv (Lim.new r b) (-1) (-1) 0 :=
  ⟨by simp [Lim.new], by simp [Lim.new], by simp [Lim.new], by simp [Lim.new], by simp [Lim.new], Int.le_refl _, by simp [Lim.new], by simp [Lim.new]⟩
theorem pairs_end {l : List Ask} {i b : Int} {u : Bool} (h : l.Pairwise (fun a b => a.1 < b.1)) (ho : ∀ a ∈ l, a.1 < i) : (l ++ [(i, b, u)]).Pairwise (fun a b => a.1 < b.1) :=
  List.pairwise_append.2 ⟨h, by simp, fun a ha c hc => by rw [List.mem_singleton] at hc; subst hc; exact ho a ha⟩
theorem TurnInv.asked {L : Lim} (h : TurnInv L (-1) (-1) 0) (hr : L.row = 0) {i b : Int} {u : Bool} (hi : 0 ≤ i) (hf : L.fits b = true) (ok2 : (L.asked i b u).Ok) (ho : ∀ a ∈ L.queue, a.1 < i) :
    TurnInv (L.asked i b u) (-1) (-1) 0 ∧ (L.asked i b u).row = 0 ∧ (L.asked i b u).os.length = L.os.length + (if u = true then 0 else 1) := by
  obtain ⟨h1, h2, h3, h4, h5, h6, h7, h8⟩ := h
  have hm := ok2.many
  unfold Lim.asked at hm ⊢
  rw [if_pos hf] at hm ⊢
  cases u with
  | true =>
    simp only [if_true] at hm ⊢
    simp only [List.length_append, List.length_cons, List.length_nil] at hm
    refine ⟨⟨?_, h2, pairs_end h3 (fun a ha => ho a (by simp [Lim.queue, ha])), h4, h5, h6, ?_, ?_⟩, hr, by simp⟩
    · intro a ha
      rcases List.mem_append.1 ha with ha | ha
      · exact h1 a ha
      · rw [List.mem_singleton] at ha; subst ha; exact ⟨rfl, by simp only; omega⟩
    · simp only [List.length_append, List.length_cons, List.length_nil]; omega
    · simp only [List.length_append, List.length_cons, List.length_nil]; omega
  | false =>
    simp only [Bool.false_eq_true, if_false] at hm ⊢
    simp only [List.length_append, List.length_cons, List.length_nil] at hm
    refine ⟨⟨h1, ?_, h3, pairs_end h4 (fun a ha => ho a (by simp [Lim.queue, ha])), fun _ => hr.symm, h6, ?_, ?_⟩, hr, by simp⟩
    · intro a ha
      rcases List.mem_append.1 ha with ha | ha
      · exact h2 a ha
      · rw [List.mem_singleton] at ha; subst ha; exact ⟨rfl, by simp only; omega⟩
    · simp only; omega
    · simp only [List.length_append, List.length_cons, List.length_nil]; omega
/-- An ask as it lies in the map. -/
def pairU (a : Ask) : Int × Value := (a.1, .bool a.2.2)
theorem pput_newU {l : List (Int × Value)} {q : List Ask} (h : l.Perm (q.map pairU)) {k x : Int} {u : Bool} (hk : ∀ a ∈ q, a.1 ≠ k) : (pput l k (.bool u)).Perm ((q ++ [(k, x, u)]).map pairU) := by
  have hn : k ∉ l.map (·.1) := by
    intro hk'
    obtain ⟨p, hp, rfl⟩ := List.mem_map.1 hk'
    obtain ⟨a, ha, rfl⟩ := List.mem_map.1 (h.mem_iff.1 hp)
    exact hk a ha rfl
  rw [pput_none hn, List.map_append]
  exact h.append (by simp [pairU])
/-- How often nobody may go, one behind the other. -/
theorem idle_few {r b l : Int} {j : Nat} (hr : 0 < r) (h1 : (j : Int) * r ≤ l) (h2 : l + r < b) : (j : Int) + 1 ≤ b / r ∧ ((j + 1 : Nat) : Int) * r ≤ l + r := by
  have e : ((j + 1 : Nat) : Int) * r = (j : Int) * r + r := by rw [show ((j + 1 : Nat) : Int) = (j : Int) + 1 by omega, Int.add_mul, Int.one_mul]
  refine ⟨?_, by omega⟩
  refine Int.le_ediv_of_mul_le hr ?_
  rw [Int.add_mul, Int.one_mul]
  omega
end Go.Proofs.Ytbiaelaaihieeaa
