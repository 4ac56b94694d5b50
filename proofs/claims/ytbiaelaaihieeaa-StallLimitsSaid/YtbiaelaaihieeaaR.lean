/- Who goes in a step, as a list of asks; how many bytes; plain lists alone. -/
import Derived.Test.YtbiaelaaihieeaaF
set_option linter.unusedVariables false
set_option linter.unusedSimpArgs false
namespace Go.Proofs.Ytbiaelaaihieeaa
open Go.RowKit

def Lim.queue (L : Lim) : List Ask := L.us ++ L.os
def sumB : List Ask → Int
  | [] => 0
  | a :: l => a.2.1 + sumB l
theorem sumB_append (l m : List Ask) : sumB (l ++ m) = sumB l + sumB m := by
  induction l with
  | nil => simp [sumB]
  | cons a l ih => simp only [List.cons_append, sumB, ih]; omega
theorem sumB_pos {l : List Ask} (h : ∀ a ∈ l, 0 ≤ a.2.1) : 0 ≤ sumB l := by
  induction l with
  | nil => simp [sumB]
  | cons a l ih =>
    have h1 := h a (by simp)
    have h2 := ih (fun b hb => h b (by simp [hb]))
    simp only [sumB]; omega
theorem Lim.pick_perm {L L' : Lim} {a : Ask} (h : L.pick = some (a, L')) : L.queue.Perm (a :: L'.queue) := by
  rcases ahead_cases L.us.length L.os.length L.row with e | e | e
  · rw [Lim.pick_none e] at h; cases h
  · obtain ⟨b, us, hu, hp⟩ := Lim.pick_zero e
    rw [hp] at h
    simp only [Option.some.injEq, Prod.mk.injEq] at h
    obtain ⟨rfl, rfl⟩ := h
    simp only [Lim.queue, hu, List.cons_append]
    exact List.Perm.refl _
  · obtain ⟨b, os, ho, hp⟩ := Lim.pick_one e
    rw [hp] at h
    simp only [Option.some.injEq, Prod.mk.injEq] at h
    obtain ⟨rfl, rfl⟩ := h
    simp only [Lim.queue, ho]
    exact List.perm_middle
theorem steps_spec : ∀ (n : Nat) (L : Lim), L.Ok → ∃ g : List Ask, (Lim.steps n L).1 = g.map (·.1) ∧ L.queue.Perm (g ++ (Lim.steps n L).2.queue) ∧ sumB g = L.left - (Lim.steps n L).2.left ∧
    (Lim.steps n L).2.Ok ∧ (Lim.steps n L).2.rate = L.rate ∧ (Lim.steps n L).2.burst = L.burst ∧ ∀ a ∈ g, 0 ≤ a.2.1 ∧ a.2.1 ≤ L.burst
  | 0, L, ok => ⟨[], rfl, by simp [Lim.steps], by simp [Lim.steps, sumB], ok, rfl, rfl, by simp⟩
  | n + 1, L, ok => by
    simp only [Lim.steps]
    cases hp : L.pick with
    | none => exact ⟨[], rfl, by simp, by simp [sumB], ok, rfl, rfl, by simp⟩
    | some p =>
      obtain ⟨a, L'⟩ := p
      simp only
      by_cases hlt : L.left < a.2.1
      · rw [if_pos hlt]
        exact ⟨[], rfl, by simp, by simp [sumB], ok, rfl, rfl, by simp⟩
      · rw [if_neg hlt]
        obtain ⟨ok', h1, h2, h3, h4, h5, h6⟩ := ok.pick hp
        have := ok.left
        have ok2 : ({ L' with left := L.left - a.2.1 } : Lim).Ok := ok'.take (by omega) (by rw [h5]; omega)
        obtain ⟨g, e1, e2, e3, e4, e5, e6, e7⟩ := steps_spec n _ ok2
        refine ⟨a :: g, by simp [e1], ?_, ?_, e4, by rw [e5]; exact h6, by rw [e6]; exact h5, ?_⟩
        · refine (Lim.pick_perm hp).trans ?_
          simp only [List.cons_append]
          exact List.Perm.cons _ (show L'.queue.Perm _ from e2)
        · simp only [sumB, e3]; omega
        · intro b hb
          rcases List.mem_cons.1 hb with rfl | hb
          · exact ⟨h1, h2⟩
          · have := e7 b hb; simp only at this; rw [h5] at this; exact this
theorem step_spec {L : Lim} (ok : L.Ok) : ∃ g : List Ask, L.step.1 = g.map (·.1) ∧ L.queue.Perm (g ++ L.step.2.queue) ∧ sumB g + L.step.2.left ≤ L.left + L.rate ∧ sumB g + L.step.2.left ≤ L.burst ∧
    L.step.2.Ok ∧ L.step.2.rate = L.rate ∧ L.step.2.burst = L.burst ∧ ∀ a ∈ g, 0 ≤ a.2.1 ∧ a.2.1 ≤ L.burst := by
  have okf : L.fill.Ok := ok.take (by have := ok.left0; have := ok.rate; have := ok.left; split <;> omega) (by have := ok.left; split <;> omega)
  obtain ⟨g, e1, e2, e3, e4, e5, e6, e7⟩ := steps_spec (L.us.length + L.os.length + 1) L.fill okf
  have hf : L.fill.left ≤ L.left + L.rate ∧ L.fill.left ≤ L.burst := by
    simp only [Lim.fill]; have := ok.left; split <;> omega
  exact ⟨g, e1, e2, by unfold Lim.step; omega, by unfold Lim.step; omega, e4, e5, e6, e7⟩
theorem waits_length : ∀ (n : Nat) (L : Lim), L.Ok → L.us.length + L.os.length < n → (Lim.waits n L).length = L.queue.length
  | 0, L, _, h => by omega
  | n + 1, L, ok, h => by
    simp only [Lim.waits]
    cases hp : L.pick with
    | none =>
      have e := Lim.pick_no hp
      unfold ahead at e
      split at e
      · simp [Lim.queue]; omega
      · split at e <;> omega
    | some p =>
      obtain ⟨a, L'⟩ := p
      obtain ⟨ok', _, _, h3, _⟩ := ok.pick hp
      have := waits_length n L' ok' (by omega)
      have hq := (Lim.pick_perm hp).length_eq
      simp only [List.length_cons] at hq ⊢
      omega
theorem waiting_length {L : Lim} (ok : L.Ok) : L.waiting.length = L.queue.length := waits_length _ L ok (by omega)

/-- An ask as it lies in the map. -/
def pairB (a : Ask) : Int × Value := (a.1, .int .u64 a.2.1)
theorem pget_perm {l r : List (Int × Value)} {k : Int} {v : Value} (h : l.Perm ((k, v) :: r)) (hn : (l.map (·.1)).Nodup) : pget l k = some v := by
  have hm : (k, v) ∈ l := h.mem_iff.2 (by simp)
  have hall : ∀ p ∈ l, p.1 = k → p = (k, v) := by
    intro p hp e
    obtain ⟨i, hi, rfl⟩ := List.mem_iff_getElem.1 hp
    obtain ⟨j, hj, hjv⟩ := List.mem_iff_getElem.1 hm
    by_cases hij : i = j
    · subst hij; exact hjv
    · exfalso
      have hp := List.pairwise_iff_getElem.1 hn
      rcases Nat.lt_or_gt_of_ne hij with hlt | hlt
      · exact hp i j (by simpa using hi) (by simpa using hj) hlt (by simp [hjv, e])
      · exact hp j i (by simpa using hj) (by simpa using hi) hlt (by simp [hjv, e])
  unfold pget
  cases hf : l.find? (fun p => decide (p.1 = k)) with
  | none =>
    rw [List.find?_eq_none] at hf
    exact absurd (hf _ hm) (by simp)
  | some p =>
    have h1 := List.mem_of_find?_eq_some hf
    have h2 : p.1 = k := by simpa using List.find?_some hf
    rw [hall p h1 h2]; rfl
theorem pdel_perm {l r : List (Int × Value)} {k : Int} {v : Value} (h : l.Perm ((k, v) :: r)) (hn : (l.map (·.1)).Nodup) : (pdel l k).Perm r := by
  have h1 : (pdel l k).Perm (pdel ((k, v) :: r) k) := h.filter _
  have hn2 : (((k, v) :: r).map (·.1)).Nodup := (h.map _).nodup_iff.1 hn
  simp only [List.map_cons, List.nodup_cons] at hn2
  have h2 : pdel ((k, v) :: r) k = pdel r k := by simp [pdel]
  rw [h2, pdel_none hn2.1] at h1
  exact h1
theorem pput_new {l : List (Int × Value)} {q : List Ask} (h : l.Perm (q.map pairB)) {k x : Int} {u : Bool} (hk : ∀ a ∈ q, a.1 ≠ k) : (pput l k (.int .u64 x)).Perm ((q ++ [(k, x, u)]).map pairB) := by
  have hn : k ∉ l.map (·.1) := by
    intro hk'
    obtain ⟨p, hp, rfl⟩ := List.mem_map.1 hk'
    obtain ⟨a, ha, rfl⟩ := List.mem_map.1 (h.mem_iff.1 hp)
    exact hk a ha rfl
  rw [pput_none hn, List.map_append]
  exact h.append (by simp [pairB])
theorem asked_queue {L : Lim} {who b : Int} {u : Bool} (h : L.fits b = true) : (L.asked who b u).queue.Perm (L.queue ++ [(who, b, u)]) := by
  unfold Lim.asked
  rw [if_pos h]
  cases u with
  | true =>
    simp only [if_true, Lim.queue, List.append_assoc]
    exact List.Perm.append_left _ List.perm_append_comm
  | false => simp [Lim.queue]

/-- The sum of all from place k on. -/
def sumFrom (l : List Int) (k : Nat) : Int := (l.drop k).foldr (· + ·) 0
theorem sumFrom_end (l : List Int) : sumFrom l l.length = 0 := by simp [sumFrom]
theorem sumFrom_step (l : List Int) (k : Nat) (h : k < l.length) : sumFrom l k = l[k] + sumFrom l (k + 1) := by
  unfold sumFrom; rw [List.drop_eq_getElem_cons h]; rfl
theorem sumFrom_append (l : List Int) (x : Int) (k : Nat) (h : k ≤ l.length) : sumFrom (l ++ [x]) k = sumFrom l k + x := by
  unfold sumFrom
  rw [List.drop_append_of_le_length h, List.foldr_append]
  generalize l.drop k = m
  induction m with
  | nil => simp
  | cons y m ih => simp only [List.foldr_cons, List.foldr_nil] at ih ⊢; omega
theorem sumFrom_pos (l : List Int) (h : ∀ x ∈ l, 0 ≤ x) (k : Nat) : 0 ≤ sumFrom l k := by
  unfold sumFrom
  have : ∀ x ∈ l.drop k, 0 ≤ x := fun x hx => h x (List.mem_of_mem_drop hx)
  generalize l.drop k = m at this
  induction m with
  | nil => simp
  | cons y m ih =>
    have h1 := this y (by simp)
    have h2 := ih (fun x hx => this x (by simp [hx]))
    simp only [List.foldr_cons]; omega
end Go.Proofs.Ytbiaelaaihieeaa
