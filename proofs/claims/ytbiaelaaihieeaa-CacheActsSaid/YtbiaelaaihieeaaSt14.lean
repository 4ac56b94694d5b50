/- The cache of strings: Pinned. -/
import Derived.Test.YtbiaelaaihieeaaSt13
set_option linter.unusedVariables false
set_option linter.unusedSimpArgs false
set_option maxRecDepth 100000
namespace Go.Proofs.Ytbiaelaaihieeaa.Str
open Go.RowKit

variable {B : Nat}
/-- What an entry counts for that has a pin. -/
def pch (i : It) : Int := if 0 < i.pins then i.ch else 0
def pchs (I : Nat → It) (l : List Nat) : Int := (l.map fun b => pch (I b)).sum
theorem pchs_perm {I : Nat → It} {l l' : List Nat} (h : l.Perm l') : pchs I l = pchs I l' := by
  induction h with
  | nil => rfl
  | cons x _ ih => simp only [pchs, List.map_cons, List.sum_cons] at *; omega
  | swap x y l => simp only [pchs, List.map_cons, List.sum_cons]; omega
  | trans _ _ h1 h2 => exact h1.trans h2
theorem pchs_erase {I : Nat → It} {l : List (Nat × Value)} {j : Nat} (h : j < l.length) : pchs I (l.map (·.1)) = pch (I l[j].1) + pchs I ((l.eraseIdx j).map (·.1)) := by
  rw [pchs_perm ((perm_erase l j h).map (·.1))]
  simp [pchs]
theorem pchs_nonneg {I : Nat → It} {l : List Nat} (h : ChOk I l) : 0 ≤ pchs I l := by
  induction l with
  | nil => simp [pchs]
  | cons b l ih =>
    have h1 := (h b (List.mem_cons_self ..)).1
    have h2 := ih (fun x hx => h x (List.mem_cons_of_mem _ hx))
    simp only [pchs, List.map_cons, List.sum_cons] at *
    have : 0 ≤ pch (I b) := by unfold pch; split <;> omega
    omega
def CS.pcharge (S : CS) (j : Nat) : Int := ((List.range j).map fun i => pchs S.it (S.sh i).al).sum
theorem pcharge_succ (S : CS) (j : Nat) : S.pcharge (j + 1) = S.pcharge j + pchs S.it (S.sh j).al := by
  simp [CS.pcharge, List.range_succ]
theorem pcharge_nonneg {n : Nat} {S : CS} (ok : COk n S) : ∀ {j : Nat}, j ≤ n → 0 ≤ S.pcharge j
  | 0, _ => by simp [CS.pcharge]
  | j + 1, h => by
    rw [pcharge_succ]
    have h1 := pcharge_nonneg ok (j := j) (by omega)
    have h2 := pchs_nonneg (ok.ok j (by omega)).ch
    omega
def PinnedRel (B : Nat) (w : World) (x : CL) (S : CS) (gk : Nat) (v3 v12 : Value) (wr : World) : Prop :=
  ∃ (j : Nat) (z : Int), j ≤ x.n ∧ gk = x.n - j ∧ v12 = .int .i64 j ∧ z = S.pcharge j ∧ v3 = .int .u64 (cap z) ∧ CAt B wr x S ∧ Below w.heap.size w wr
def PinnedIn (w : World) (I : Nat → It) (ma : Nat) (al : List Nat) (z : Int) (gk : Nat) (v3 : Value) (wr : World) : Prop :=
  ∃ (todo : List (Nat × Value)) (y : Int), gk = todo.length ∧ (∀ p ∈ todo, p.1 ∈ al) ∧ Ranges ptr wr ma w.heap.size (setP al) todo ∧ y + pchs I (todo.map (·.1)) = z + pchs I al ∧ v3 = .int .u64 (cap y) ∧ 0 ≤ y ∧ Below w.heap.size w wr
set_option maxHeartbeats 1600000 in
theorem pinned_any (x : CL) (S : CS) (w : World) (h : CAt B w x S) (ok : COk x.n S) :
    Calls Try.prog 54 #[.pointer (some ⟨x.g, 0, none⟩)] w fun e w' => e = .returned (.int .u64 (cap (S.pcharge x.n))) ∧ Below w.heap.size w w' := by
  refine calls_of fun R HR => ?_
  have H := hid h
  have Ok := hid ok
  have hb := h.blk
  have hn := h.n1
  clear h ok
  go_enter Try.func54, Try.ntmps54
  go_wp2
  go_loopg [3, 5, 6, 12] x.n (fun gk v3 v5 v6 v12 wr => PinnedRel B w x S gk v3 v12 wr)
  case atStart => exact ⟨0, 0, by omega, rfl, rfl, rfl, rfl, H.out, Below.refl _ _⟩
  case round =>
    obtain ⟨j, z, hj, rfl, rfl, hz, rfl, hC, hbl⟩ := hrel
    obtain ⟨wo, hwo⟩ : ∃ wo : World, wo = wr := ⟨_, rfl⟩
    subst hwo
    have Hz := hid hz; have HC := hid hC; have Hbl := hid hbl
    have hz0 : 0 ≤ z := by rw [hz]; exact pcharge_nonneg Ok.out hj
    clear hz hC hbl hb
    by_cases hlt : j < x.n
    · obtain ⟨lr, k0⟩ := HC.out.shard_at hlt
      have hj0 : (0 : Int) ≤ (j : Int) := Int.natCast_nonneg _
      have hj1 : (j : Int) < (x.n : Int) := by omega
      have s0 := (HC.out.shs j hlt).blk
      have hm := (HC.out.shs j hlt).al
      have Hch := hid (Ok.out.ok j hlt).ch
      have Hi : Hid (ItsAt wo S.it (S.sh j).al) := hid fun b hb => HC.out.its b (Ok.out.al j hlt b hb)
      obtain ⟨al, hal⟩ : ∃ al, al = (S.sh j).al := ⟨_, rfl⟩
      rw [← hal] at hm Hch Hi
      have Hal := hid hal
      clear hal
      go_wp2_with (at_range; refine wpList_mrange Try.underlying144 rfl _ rfl rfl hm ?_; intro ob hrg; have Hrg := hid hrg; clear hrg)
      go_frame
      go_loopg [3, 6] al.length (fun gk v3 v6 wr => PinnedIn wo S.it (x.sh j).ma al z gk v3 wr)
      case atStart =>
        refine ⟨setP al, z, by simp [setP], fun p hp => by simp only [setP, List.mem_map] at hp; obtain ⟨b, hb, rfl⟩ := hp; exact hb, Hrg.out, by rw [setP_fst], rfl, hz0, bl_alloc (Below.refl _ _) _⟩
      case round =>
        clear Hrg hm s0 k0
        obtain ⟨todo, y, rfl, hsub, hrg, hy, rfl, hy0, hbi⟩ := hrel
        obtain ⟨wi, hwi⟩ : ∃ wi : World, wi = wr := ⟨_, rfl⟩
        subst hwi
        have Hrg := hid hrg; have Hsub := hid hsub; have Hbi := hid hbi; have Hy := hid hy
        clear hrg hsub hbi hy
        go_wp2_with (at_next; refine wpList_mnext rfl _ rfl rfl Hrg.out ?_ ?_)
        · intro h0
          have H0 := hid h0
          clear h0
          go_wp2
          go_roundg (x.n - (j + 1))
          case measure => omega
          case rel =>
            have hy := Hy.out
            rw [H0.out] at hy
            have hy' : y = z + pchs S.it al := by simpa [pchs] using hy
            exact ⟨j + 1, y, by omega, rfl, by go_num, by rw [pcharge_succ, ← Hz.out, ← Hal.out]; exact hy', rfl, HC.out.below Hbi.out, Hbl.out.trans (Hbi.out.mono Hbl.out.size)⟩
        · intro t ht w1 hrg1 hc1 hs1 hen
          have hbl1 : Below wo.heap.size wo w1 := Hbi.out.trans (hc1.to_below Hbi.out.size (fun k hk e => by omega))
          obtain ⟨b, hx⟩ : ∃ b, b = todo[t].1 := ⟨_, rfl⟩
          have hxal : b ∈ al := by rw [hx]; exact Hsub.out _ (List.getElem_mem ht)
          have hit := (bl_at hbl1 b (Blk.lt (Hi.out b hxal))).trans (Hi.out b hxal)
          have he := pchs_erase (I := S.it) ht
          rw [← hx] at he
          have hcx := Hch.out b hxal
          have hcp := cap_range hy0
          have Hcp := hid (cplus_any (cap y) (S.it b).ch)
          have He := hid he
          have Hrg1 := hid hrg1; have Hbl1 := hid hbl1
          rw [← hx] at hen
          unfold ptr at hen
          unfold itCells at hit
          have hsub2 := fun p (hp : p ∈ todo.eraseIdx t) => Hsub.out p (mem_erase hp)
          have Hsub2 := hid hsub2
          clear hrg1 hc1 he hx hbl1 hs1 hsub2
          by_cases hp : 0 < (S.it b).pins
          · go_wp2_with (go_at_call 59; refine (Hcp.out _ hcp hcx).mono ?_; rintro e w' ⟨rfl, rfl⟩)
            go_roundg (todo.eraseIdx t).length
            case measure => rw [List.length_eraseIdx_of_lt ht]; omega
            case rel =>
              refine ⟨todo.eraseIdx t, y + (S.it b).ch, rfl, Hsub2.out, Hrg1.out, ?_, by rw [cap_add hy0 hcx.1], by omega, Hbl1.out⟩
              have h1 := He.out; have h2 := Hy.out
              unfold pch at h1; rw [if_pos hp] at h1; omega
          · go_wp2
            go_roundg (todo.eraseIdx t).length
            case measure => rw [List.length_eraseIdx_of_lt ht]; omega
            case rel =>
              refine ⟨todo.eraseIdx t, y, rfl, Hsub2.out, Hrg1.out, ?_, rfl, hy0, Hbl1.out⟩
              have h1 := He.out; have h2 := Hy.out
              unfold pch at h1; rw [if_neg (by omega)] at h1; omega
    · obtain rfl : j = x.n := by omega
      go_wp2
      exact HR.out _ _ ⟨by rw [← Hz.out]; rfl, Hbl.out⟩
end Go.Proofs.Ytbiaelaaihieeaa.Str
