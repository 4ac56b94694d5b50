/- Arguments that are slices of flat structs, opened. -/
import Derived.Test.YtbiaelaaihieeaaG
import Derived.Deep.Slices
import Derived.ChangeSame
import Derived.OpenShut
set_option linter.unusedVariables false
set_option linter.unusedSimpArgs false
set_option maxRecDepth 100000
namespace Go.Proofs.Ytbiaelaaihieeaa
open Go.ChangeShapes Go.WideShapes Go.Deep Go.RowKit

theorem cell_block_lt {w : World} {a : Addr} {v : Value} (h : w.cell? a = some v) : a.block < w.heap.size := by
  unfold World.cell? at h
  split at h
  · rename_i hb; exact (Array.getElem?_eq_some_iff.1 hb).1
  · cases h
theorem flat_at {X : Type} {sz : Nat} {cells : X → List Value} (hc : ∀ x, (cells x).length = sz) (hp : 0 < sz) (l : List X) (k : Nat) : (l.flatMap cells)[k]? = (l[k / sz]?).bind fun x => (cells x)[k % sz]? := by
  induction l generalizing k with
  | nil => simp
  | cons a l ih =>
    rw [List.flatMap_cons]
    rcases Nat.lt_or_ge k sz with h | h
    · rw [List.getElem?_append_left (by rw [hc]; exact h), Nat.div_eq_of_lt h, Nat.mod_eq_of_lt h]
      simp
    · rw [List.getElem?_append_right (by rw [hc]; exact h), hc, ih]
      have h1 : k / sz = (k - sz) / sz + 1 := by rw [← Nat.add_div_right _ hp, Nat.sub_add_cancel h]
      have h2 : k % sz = (k - sz) % sz := by
        have := Nat.add_mod_right (k - sz) sz
        rw [Nat.sub_add_cancel h] at this
        exact this
      rw [h1, h2, List.getElem?_cons_succ]
theorem flat_length {X : Type} {sz : Nat} {cells : X → List Value} (hc : ∀ x, (cells x).length = sz) (l : List X) : (l.flatMap cells).length = l.length * sz := by
  induction l with
  | nil => simp
  | cons a l ih => rw [List.flatMap_cons, List.length_append, ih, hc, List.length_cons, Nat.add_mul]; omega

section
variable {H : Type} {enc : TypeId × Value → H} {P : Program} {w : World} {base : Nat} {spare : Nat → Bool} {held : Bool}

/-- A slice of flat elements, read. -/
theorem open_rows {X : Type} [Inhabited X] {t e : TypeId} {fuel : Nat} {v : Value} {x : DataW H × List MemPlace} (sz : Nat) (hp : 0 < sz) (cells : X → List Value) (Q : X → Prop) (hcl : ∀ y, (cells y).length = sz)
    (ht : P.underlying t = some (.slice e)) (hC : P.cellsOf e = sz)
    (one : ∀ m cs y, cs.length = sz → DataW.trod enc P w base spare held m e cs = some y → ∃ z, cs = cells z ∧ Q z)
    (h : DataW.trod enc P w base spare held fuel t [v] = some x) :
    ∃ (A : Option Addr) (n c : Nat) (l : List X), v = .slice A n c ∧ n ≤ maxLen ∧ l.length = n ∧ Rd w w.heap.size sz A n (l.flatMap cells) ∧ (∀ a ∈ l, Q a) ∧ ((x.1 = .nil ∧ n = 0) ∨ ∃ ds sp, x.1 = .slice ds sp ∧ ds.length = n) := by
  rcases open_slice ht h with ⟨hcs, rfl⟩ | ⟨a, len, cap, m, k, D, Pl, hcs, hb, hl, hm, hmm, rfl, hi⟩
  · obtain rfl : v = .slice none 0 0 := by simpa using hcs
    exact ⟨none, 0, 0, [], rfl, Nat.zero_le _, rfl, Rd.nil _ _ _ _, fun _ h => (List.not_mem_nil h).elim, .inl ⟨rfl, rfl⟩⟩
  · obtain rfl : v = .slice (some a) len cap := by simpa using hcs
    have hlm : len ≤ m := by rw [hmm]; split <;> omega
    obtain ⟨Z, hZ⟩ := choose_lt (n := len) (p := fun i z => w.cells? base (a.add (i * sz)) sz = some (cells z) ∧ Q z) (fun i hil => by
      obtain ⟨cs', h1, h2⟩ := hi i (by omega)
      rw [hC] at h1
      obtain ⟨_, h3, _⟩ := World.cells?_some h1
      obtain ⟨z, rfl, hq⟩ := one k cs' _ h3 h2
      exact ⟨z, h1, hq⟩)
    refine ⟨some a, len, cap, (List.range len).map Z, rfl, by omega, by simp, ⟨by rw [flat_length hcl]; simp, fun hn => ?_⟩, ?_, .inr ⟨_, _, rfl, by simp⟩⟩
    · obtain ⟨h1, _⟩ := hZ 0 hn
      obtain ⟨_, hlen0, hc0⟩ := World.cells?_some h1
      have h00 := hc0 0 hp
      rw [List.getElem?_eq_getElem (by omega)] at h00
      obtain ⟨b, o, spot⟩ := a
      have hspot : spot = none := by simpa [Addr.add] using World.cell?_spot h00
      subst hspot
      refine ⟨b, o, rfl, ?_, fun j u hu => ?_⟩
      · have := cell_block_lt h00
        simpa [Addr.add] using this
      · rw [flat_at hcl hp] at hu
        have hjl : j / sz < len := by
          rcases Nat.lt_or_ge (j / sz) len with h | h
          · exact h
          · rw [List.getElem?_eq_none (by simpa using h)] at hu; simp at hu
        rw [List.getElem?_map, List.getElem?_range hjl] at hu
        simp only [Option.map_some, Option.bind_some] at hu
        obtain ⟨h2, _⟩ := hZ (j / sz) hjl
        obtain ⟨_, _, h3⟩ := World.cells?_some h2
        have h4 := h3 (j % sz) (Nat.mod_lt _ hp)
        rw [hu, add_plain, add_plain] at h4
        have e1 : o + j / sz * sz + j % sz = o + j := by
          have := Nat.div_add_mod j sz
          rw [Nat.mul_comm] at this
          omega
        rw [← e1]
        exact h4
    · intro z hz
      simp only [List.mem_map, List.mem_range] at hz
      obtain ⟨i, hi, rfl⟩ := hz
      exact (hZ i hi).2
end
end Go.Proofs.Ytbiaelaaihieeaa
