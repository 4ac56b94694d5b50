/- CacheActs, parts E4, E6, E7, E8, E9, E10, E11: what the document's cache does, in one memory with the program's. -/
import Derived.Test.YtbiaelaaihieeaaEA
import Derived.Test.YtbiaelaaihieeaaC17
set_option linter.unusedVariables false
set_option linter.unusedSimpArgs false
set_option maxRecDepth 100000
/- The document's cache: gone. -/
namespace Go.Proofs.Ytbiaelaaihieeaa
open Go.RowKit

set_option maxHeartbeats 3200000 in
theorem dgone_raw (g lr wr i n p : Nat) (V1 V2 V5 : Value) (LC WC : Array Value) (it : It) (AL AW : Option Addr) (mL mW cL cW : Nat) (PL PW : World → Value → World → Prop) (w : World)
    (hit : blkOf w p = some (.cells #[.string it.key, it.v, .int .u64 it.ch, .bool it.inn, .int .i64 it.pins] 133 (0, 0)))
    (hg : blkOf w g = some (.cells #[.int .i64 n, V1, V2, .slice (some ⟨lr, 0, none⟩) n n, .slice (some ⟨wr, 0, none⟩) n n, V5] 129 (0, 0)))
    (h0 : blkOf w lr = some (.cells LC 127 (0, 0))) (h1 : blkOf w wr = some (.cells WC 127 (0, 0))) (k0 : LC[i]? = some (.slice AL mL cL)) (k1 : WC[i]? = some (.slice AW mW cW)) (hi : i < n)
    (hpg : p ≠ g) (hpl : p ≠ lr) (hpw : p ≠ wr) (hlw : lr ≠ wr) (hgl : g ≠ lr) (hgw : g ≠ wr)
    (HL : ∀ W, Below w.heap.size (w.setCell ⟨p, 3, none⟩ (.bool false)) W → Calls Try.prog 90 #[.slice AL mL cL, .pointer (some ⟨p, 0, none⟩)] W fun e w' => ∃ A m c, e = .returned (.slice A m c) ∧ PL W (.slice A m c) w' ∧ Below W.heap.size W w')
    (HW : ∀ W, Below w.heap.size (w.setCell ⟨p, 3, none⟩ (.bool false)) W → Calls Try.prog 90 #[.slice AW mW cW, .pointer (some ⟨p, 0, none⟩)] W fun e w' => ∃ A m c, e = .returned (.slice A m c) ∧ PW W (.slice A m c) w' ∧ Below W.heap.size W w') :
    Calls Try.prog 92 #[.pointer (some ⟨g, 0, none⟩), .int .i64 i, .pointer (some ⟨p, 0, none⟩)] w fun e w' => e = .returned (.tuple #[]) ∧ ∃ wa wb wc vL vW, Below w.heap.size (w.setCell ⟨p, 3, none⟩ (.bool false)) wa ∧ PL wa vL wb ∧ Below wa.heap.size wa wb ∧ PW wb vW wc ∧ Below wb.heap.size wb wc ∧ w' = (wc.setCell ⟨lr, i, none⟩ vL).setCell ⟨wr, i, none⟩ vW := by
  refine calls_of fun R HR => ?_
  have HL := hid HL; have HW := hid HW
  have lg := Blk.lt hg
  have llr := Blk.lt h0
  have lwr := Blk.lt h1
  have hi0 : (0 : Int) ≤ (i : Int) := Int.natCast_nonneg _
  have hi1 : (i : Int) < (n : Int) := by omega
  go_enter Try.func92, Try.ntmps92
  go_upto_region 1 with fail
  obtain ⟨w1, hw1⟩ : ∃ w1, w1 = w.setCell ⟨p, 3, none⟩ (.bool false) := ⟨_, rfl⟩
  rw [← hw1]
  have hc1 : Chg (fun k => k = p) w w1 := by rw [hw1]; exact chg_cell _ _ _ _
  have g1 : blkOf w1 g = blkOf w g := hc1.block g lg (Ne.symm hpg)
  have g2 : blkOf w1 lr = blkOf w lr := hc1.block lr llr (Ne.symm hpl)
  have g3 : blkOf w1 wr = blkOf w wr := hc1.block wr lwr (Ne.symm hpw)
  rw [hg] at g1
  rw [h0] at g2
  rw [h1] at g3
  have hs1 : w1.heap.size = w.heap.size := by rw [hw1]; simp
  have lg1 : g < w1.heap.size := by omega
  have ll1 : lr < w1.heap.size := by omega
  have lw1 : wr < w1.heap.size := by omega
  rw [← hw1, ← hs1] at HL HW
  clear hc1
  have Hw1 := hid hw1; have Hs1 := hid hs1
  clear hit hg h0 h1 hw1 hs1 lg llr lwr hpg hpl hpw
  have hLs : i < LC.size := (Array.getElem?_eq_some_iff.1 k0).1
  have hWs : i < WC.size := (Array.getElem?_eq_some_iff.1 k1).1
  have e0 : LC[i]'hLs = .slice AL mL cL := by have := k0; rw [Array.getElem?_eq_getElem hLs] at this; exact Option.some.inj this
  have e1 : WC[i]'hWs = .slice AW mW cW := by have := k1; rw [Array.getElem?_eq_getElem hWs] at this; exact Option.some.inj this
  clear k0 k1
  refine wp_region_T (fun W => blkOf W g = some (.cells #[.int .i64 n, V1, V2, .slice (some ⟨lr, 0, none⟩) n n, .slice (some ⟨wr, 0, none⟩) n n, V5] 129 (0, 0)) ∧ blkOf W lr = some (.cells LC 127 (0, 0)) ∧ blkOf W wr = some (.cells WC 127 (0, 0))) 29 [9] (by kernel_rfl) (by kernel_rfl) ⟨g1, g2, g3⟩ ?_
  have G1 := hid g1; have G2 := hid g2; have G3 := hid g3
  clear g1 g2 g3
  refine GoT.pure 9 (v := ?v9) rfl (by kernel_rfl) (fun _ _ _ h => h) (Or.inl ⟨by rfl, ?y9⟩) ?r9
  case y9 => (intro W hSw; (try dsimp only at hSw); go_simp; try with_reducible rfl)
  try simp only [Act.put, List.setIfInBounds_toArray, List.set_cons_zero, List.set_cons_succ]
  refine GoT.take 0 (v := ?v0) rfl (by kernel_rfl) (fun _ _ _ h => h) (Or.inl ⟨by rfl, ?y0⟩) ?r0
  case y0 => (intro W hSw; (try dsimp only at hSw); go_simp; try with_reducible rfl)
  try simp only [Act.put, List.setIfInBounds_toArray, List.set_cons_zero, List.set_cons_succ]
  refine GoT.take 1 (v := ?v1) rfl (by kernel_rfl) (fun _ _ _ h => h) (Or.inl ⟨by rfl, ?y1⟩) ?r1
  case y1 => (intro W hSw; (try dsimp only at hSw); go_simp; try with_reducible rfl)
  try simp only [Act.put, List.setIfInBounds_toArray, List.set_cons_zero, List.set_cons_succ]
  refine GoT.take 2 (v := ?v2) rfl (by kernel_rfl) (fun _ _ _ h => h) (Or.inl ⟨by rfl, ?y2⟩) ?r2
  case y2 => (intro W hSw; (try dsimp only at hSw); go_simp; try with_reducible rfl)
  try simp only [Act.put, List.setIfInBounds_toArray, List.set_cons_zero, List.set_cons_succ]
  refine GoT.take 3 (v := ?v3) rfl (by kernel_rfl) (fun _ _ _ h => h) (Or.inl ⟨by rfl, ?y3⟩) ?r3
  case y3 => (intro W hSw; (try dsimp only at hSw); go_simp; try with_reducible rfl)
  try simp only [Act.put, List.setIfInBounds_toArray, List.set_cons_zero, List.set_cons_succ]
  refine GoT.take 4 (v := ?v4) rfl (by kernel_rfl) (fun _ _ _ h => h) (Or.inl ⟨by rfl, ?y4⟩) ?r4
  case y4 => (intro W hSw; (try dsimp only at hSw); go_simp; try with_reducible rfl)
  try simp only [Act.put, List.setIfInBounds_toArray, List.set_cons_zero, List.set_cons_succ]
  refine GoT.take 5 (v := ?v5) rfl (by kernel_rfl) (fun _ _ _ h => h) (Or.inl ⟨by rfl, ?y5⟩) ?r5
  case y5 => (intro W hSw; (try dsimp only at hSw); go_simp; try with_reducible rfl)
  try simp only [Act.put, List.setIfInBounds_toArray, List.set_cons_zero, List.set_cons_succ]
  refine GoT.take 6 (v := ?v6) rfl (by kernel_rfl) (fun _ _ _ h => h) (Or.inl ⟨by rfl, ?y6⟩) ?r6
  case y6 => (intro W hSw; (try dsimp only at hSw); go_simp; try with_reducible rfl)
  try simp only [Act.put, List.setIfInBounds_toArray, List.set_cons_zero, List.set_cons_succ]
  refine GoT.take 7 (v := ?v7) rfl (by kernel_rfl) (fun _ _ _ h => h) (Or.inl ⟨by rfl, ?y7⟩) ?r7
  case y7 => (intro W hSw; (try dsimp only at hSw); go_simp; try with_reducible rfl)
  try simp only [Act.put, List.setIfInBounds_toArray, List.set_cons_zero, List.set_cons_succ]
  refine GoT.take 8 (v := ?v8) rfl (by kernel_rfl) (fun _ _ _ h => h) (Or.inl ⟨by rfl, ?y8⟩) ?r8
  case y8 => (intro W hSw; (try dsimp only at hSw); go_simp; try with_reducible rfl)
  try simp only [Act.put, List.setIfInBounds_toArray, List.set_cons_zero, List.set_cons_succ]
  refine GoT.take 10 (v := ?v10) rfl (by kernel_rfl) (fun _ _ _ h => h) (Or.inl ⟨by rfl, ?y10⟩) ?r10
  case y10 => (intro W hSw; (try dsimp only at hSw); go_simp; try with_reducible rfl)
  try simp only [Act.put, List.setIfInBounds_toArray, List.set_cons_zero, List.set_cons_succ]
  refine GoT.take 11 (v := ?v11) rfl (by kernel_rfl) (fun _ _ _ h => h) (Or.inl ⟨by rfl, ?y11⟩) ?r11
  case y11 => (intro W hSw; (try dsimp only at hSw); go_simp; try with_reducible rfl)
  try simp only [Act.put, List.setIfInBounds_toArray, List.set_cons_zero, List.set_cons_succ]
  refine GoT.take 12 (v := ?v12) rfl (by kernel_rfl) (fun _ _ _ h => h) (Or.inl ⟨by rfl, ?y12⟩) ?r12
  case y12 => (intro W hSw; (try dsimp only at hSw); go_simp; try with_reducible rfl)
  try simp only [Act.put, List.setIfInBounds_toArray, List.set_cons_zero, List.set_cons_succ]
  refine GoT.take 13 (v := ?v13) rfl (by kernel_rfl) (fun _ _ _ h => h) (Or.inl ⟨by rfl, ?y13⟩) ?r13
  case y13 => (intro W hSw; (try dsimp only at hSw); go_simp; try with_reducible rfl)
  try simp only [Act.put, List.setIfInBounds_toArray, List.set_cons_zero, List.set_cons_succ]
  refine GoT.take 14 (v := ?v14) rfl (by kernel_rfl) (fun _ _ _ h => h) (Or.inl ⟨by rfl, ?y14⟩) ?r14
  case y14 => (intro W hSw; (try dsimp only at hSw); go_simp; try with_reducible rfl)
  try simp only [Act.put, List.setIfInBounds_toArray, List.set_cons_zero, List.set_cons_succ]
  refine GoT.take 15 (v := ?v15) rfl (by kernel_rfl) (fun _ _ _ h => h) (Or.inl ⟨by rfl, ?y15⟩) ?r15
  case y15 => (intro W hSw; (try dsimp only at hSw); go_simp; try with_reducible rfl)
  try simp only [Act.put, List.setIfInBounds_toArray, List.set_cons_zero, List.set_cons_succ]
  refine GoT.take 16 (v := ?v16) rfl (by kernel_rfl) (fun _ _ _ h => h) (Or.inl ⟨by rfl, ?y16⟩) ?r16
  case y16 => (intro W hSw; (try dsimp only at hSw); go_simp; try with_reducible rfl)
  try simp only [Act.put, List.setIfInBounds_toArray, List.set_cons_zero, List.set_cons_succ]
  refine GoT.take 17 (v := ?v17) rfl (by kernel_rfl) (fun _ _ _ h => h) (Or.inl ⟨by rfl, ?y17⟩) ?r17
  case y17 => (intro W hSw; (try dsimp only at hSw); go_simp; try with_reducible rfl)
  try simp only [Act.put, List.setIfInBounds_toArray, List.set_cons_zero, List.set_cons_succ]
  refine GoT.take 19 (v := ?v19) rfl (by kernel_rfl) (fun _ _ _ h => h) (Or.inl ⟨by rfl, ?y19⟩) ?r19
  case y19 => (intro W hSw; (try dsimp only at hSw); go_simp; try with_reducible rfl)
  try simp only [Act.put, List.setIfInBounds_toArray, List.set_cons_zero, List.set_cons_succ]
  refine GoT.take 20 (v := ?v20) rfl (by kernel_rfl) (fun _ _ _ h => h) (Or.inl ⟨by rfl, ?y20⟩) ?r20
  case y20 => (intro W hSw; (try dsimp only at hSw); go_simp; try with_reducible rfl)
  try simp only [Act.put, List.setIfInBounds_toArray, List.set_cons_zero, List.set_cons_succ]
  refine GoT.take 21 (v := ?v21) rfl (by kernel_rfl) (fun _ _ _ h => h) (Or.inl ⟨by rfl, ?y21⟩) ?r21
  case y21 => (intro W hSw; (try dsimp only at hSw); go_simp; try with_reducible rfl)
  try simp only [Act.put, List.setIfInBounds_toArray, List.set_cons_zero, List.set_cons_succ]
  refine GoT.take 22 (v := ?v22) rfl (by kernel_rfl) (fun _ _ _ h => h) (Or.inl ⟨by rfl, ?y22⟩) ?r22
  case y22 => (intro W hSw; (try dsimp only at hSw); go_simp; try with_reducible rfl)
  try simp only [Act.put, List.setIfInBounds_toArray, List.set_cons_zero, List.set_cons_succ]
  refine GoT.take 23 (v := ?v23) rfl (by kernel_rfl) (fun _ _ _ h => h) (Or.inl ⟨by rfl, ?y23⟩) ?r23
  case y23 => (intro W hSw; (try dsimp only at hSw); go_simp; try with_reducible rfl)
  try simp only [Act.put, List.setIfInBounds_toArray, List.set_cons_zero, List.set_cons_succ]
  refine GoT.take 24 (v := ?v24) rfl (by kernel_rfl) (fun _ _ _ h => h) (Or.inl ⟨by rfl, ?y24⟩) ?r24
  case y24 => (intro W hSw; (try dsimp only at hSw); go_simp; try with_reducible rfl)
  try simp only [Act.put, List.setIfInBounds_toArray, List.set_cons_zero, List.set_cons_succ]
  refine GoT.take 25 (v := ?v25) rfl (by kernel_rfl) (fun _ _ _ h => h) (Or.inl ⟨by rfl, ?y25⟩) ?r25
  case y25 => (intro W hSw; (try dsimp only at hSw); go_simp; try with_reducible rfl)
  try simp only [Act.put, List.setIfInBounds_toArray, List.set_cons_zero, List.set_cons_succ]
  refine GoT.take 26 (v := ?v26) rfl (by kernel_rfl) (fun _ _ _ h => h) (Or.inl ⟨by rfl, ?y26⟩) ?r26
  case y26 => (intro W hSw; (try dsimp only at hSw); go_simp; try with_reducible rfl)
  try simp only [Act.put, List.setIfInBounds_toArray, List.set_cons_zero, List.set_cons_succ]
  refine GoT.all [18] (by kernel_rfl) rfl ?_
  refine AllT.cons (i := 18) rfl (fun K hK => ?_) AllT.nil
  go_simp
  go_at_call 90
  have ha : Below w1.heap.size w1 w1.drew := bl_drewN (Below.refl _ _) 1
  refine (HL.out _ ha).mono ?_
  rintro e wb ⟨AL2, mL2, cL2, rfl, oL, bL⟩
  have q2 : Below w1.heap.size w1 wb := bl_then ha bL
  refine hK.out _ _ (fun _ => ⟨(bl_at q2 g lg1).trans G1.out, (bl_at q2 lr ll1).trans G2.out, (bl_at q2 wr lw1).trans G3.out⟩) ?_
  clear hK K
  try simp only [Act.put, List.setIfInBounds_toArray, List.set_cons_zero, List.set_cons_succ]
  have OL := hid oL; have BL := hid bL; have HA := hid ha; have Q2 := hid q2
  clear oL bL ha q2
  refine GoT.all [27] (by kernel_rfl) rfl ?_
  refine AllT.cons (i := 27) rfl (fun K hK => ?_) AllT.nil
  go_simp
  go_at_call 90
  refine (HW.out _ Q2.out).mono ?_
  rintro e wc ⟨AW2, mW2, cW2, rfl, oW, bW⟩
  have q3 : Below w1.heap.size w1 wc := bl_then Q2.out bW
  have f1 := (bl_at q3 g lg1).trans G1.out
  have f2 := (bl_at q3 lr ll1).trans G2.out
  have f3 := (bl_at q3 wr lw1).trans G3.out
  refine hK.out _ _ (fun _ => ⟨f1, f2, f3⟩) ?_
  clear hK K
  try simp only [Act.put, List.setIfInBounds_toArray, List.set_cons_zero, List.set_cons_succ]
  have OW := hid oW; have BW := hid bW
  have lc2 : lr < wc.heap.size := Blk.lt f2
  have lc3 : wr < wc.heap.size := Blk.lt f3
  clear oW bW q3
  refine GoT.pure 28 (v := ?v28) rfl (by kernel_rfl) (fun _ _ _ h => h) (Or.inl ⟨by rfl, ?y28⟩) ?r28
  case y28 => (intro W hSw; (try dsimp only at hSw); go_simp; try with_reducible rfl)
  try simp only [Act.put, List.setIfInBounds_toArray, List.set_cons_zero, List.set_cons_succ]
  refine GoT.all [29] (by kernel_rfl) rfl ?_
  refine AllT.cons (i := 29) rfl (fun K hK => ?_) AllT.nil
  go_simp
  refine hK.out _ _ (fun h => absurd h (by decide)) ?_
  clear hK K
  try simp only [Act.put, List.setIfInBounds_toArray, List.set_cons_zero, List.set_cons_succ]
  refine GoT.pure 30 (v := ?v30) rfl (by kernel_rfl) (fun _ _ _ h => h) (Or.inl ⟨by rfl, ?y30⟩) ?r30
  case y30 => (intro W hSw; (try dsimp only at hSw); go_simp; try with_reducible rfl)
  try simp only [Act.put, List.setIfInBounds_toArray, List.set_cons_zero, List.set_cons_succ]
  refine GoT.all [31] (by kernel_rfl) rfl ?_
  refine AllT.cons (i := 31) rfl (fun K hK => ?_) AllT.nil
  go_simp
  refine hK.out _ _ (fun h => absurd h (by decide)) ?_
  clear hK K
  try simp only [Act.put, List.setIfInBounds_toArray, List.set_cons_zero, List.set_cons_succ]
  refine GoT.done (by kernel_rfl) ?_ _
  go_end0
  refine HR.out _ _ ⟨rfl, _, wb, wc, _, _, ?_, OL.out, BL.out, OW.out, BW.out, rfl⟩
  rw [← Hw1.out, ← Hs1.out]
  exact HA.out
end Go.Proofs.Ytbiaelaaihieeaa
/- The document's cache: gone, whole. -/
namespace Go.Proofs.Ytbiaelaaihieeaa
open Go.RowKit

/-- 'without', wherever it is called. -/
theorem dwithout_at {w : World} {B : Nat} {A : Option Addr} {m c : Nat} {l : List Nat} {x : Nat} (h : w.ownsRow B 134 1 (.slice A m c) m (ptrs l)) (hm : m = l.length) (hl : ∀ y ∈ l, IsD w y) (hx : IsD w x) (hn : l.length ≤ 8796093022000) (W : World) (hW : Below w.heap.size w W) :
    Calls Try.prog 90 #[.slice A m c, .pointer (some ⟨x, 0, none⟩)] W fun e w' => ∃ A' m' c', e = .returned (.slice A' m' c') ∧ (m' = (less l x).length ∧ w'.ownsRow W.heap.size 134 1 (.slice A' m' c') m' (ptrs (less l x))) ∧ Below W.heap.size W w' := by
  subst hm
  have hd : ∀ {y : Nat}, IsD w y → IsD W y := fun ⟨cy, hy⟩ => ⟨cy, (bl_at hW _ (Blk.lt hy)).trans hy⟩
  refine (dwithout_any A c l x W (Rd.of_own (own_chg h (Chg.of_below (F := fun _ => False) hW) (fun _ _ h => h))) (fun y hy => hd (hl y hy)) (hd hx) hn).mono ?_
  rintro e w' ⟨A', c', rfl, ho, hb⟩
  exact ⟨A', _, c', rfl, ⟨rfl, ho⟩, hb⟩
/-- What 'without' leaves. -/
def Less (l : List Nat) (x : Nat) (W : World) (v : Value) (w' : World) : Prop := ∃ A m c, v = .slice A m c ∧ m = (less l x).length ∧ w'.ownsRow W.heap.size 134 1 (.slice A m c) m (ptrs (less l x))
theorem less_map {l : List Nat} {ρ : Nat → Nat} {b : Nat} (h : ∀ c ∈ l, ρ c = ρ b → c = b) : less (l.map ρ) (ρ b) = (less l b).map ρ := by
  unfold less
  rw [List.filter_map]
  congr 1
  apply List.filter_congr
  intro c hc
  simp only [Function.comp_apply, decide_eq_decide]
  exact ⟨fun h1 e => h1 (by rw [e]), fun h1 e => h1 (h c hc e)⟩
theorem blk_ty_ne {w : World} {a b t u : Nat} {c d : Array Value} (h : blkOf w a = some (.cells c t (0, 0))) (k : blkOf w b = some (.cells d u (0, 0))) (hne : t ≠ u) : a ≠ b := by
  rintro rfl
  rw [h] at k; injection k with k; injection k with _ e _; exact hne e
section
variable {G : Nat → Prop} {B : Nat} {w : World} {n : Nat} {y : DL} {S : CS} {ρ : Nat → Nat}
/-- Of what holds of a cache: what the document's 'gone' asks. -/
structure DOk (n : Nat) (S : CS) : Prop where
  al : ∀ i, i < n → ∀ b ∈ (S.sh i).al, b ∈ S.its
  sub : ∀ i, i < n → ∀ b ∈ (S.sh i).wt, b ∈ (S.sh i).al
  wtn : ∀ i, i < n → (S.sh i).wt.Nodup
  aln : ∀ i, i < n → (S.sh i).al.Nodup
  itn : (S.its.length : Int) ≤ S.last
theorem DOk.of (ok : COk n S) (h : ∀ i, i < n → (S.sh i).al.Nodup) : DOk n S := ⟨ok.al, fun i hi => (ok.ok i hi).sub, ok.wtn, h, ok.itn⟩
theorem DOk.len (ok : DOk n S) {i : Nat} (hi : i < n) : ((S.sh i).al.length : Int) ≤ S.last := by
  have := nodup_len (ok.aln i hi) (ok.al i hi)
  have := ok.itn
  omega
theorem DOk.wlen (ok : DOk n S) {i : Nat} (hi : i < n) : ((S.sh i).wt.length : Int) ≤ S.last := by
  have := nodup_len (ok.wtn i hi) (fun c hc => ok.al i hi c (ok.sub i hi c hc))
  have := ok.itn
  omega
/-- The document's cache has come to hold S'; what it was made of, and what is new, is its own. -/
def DTo (G : Nat → Prop) (B n g : Nat) (ρ : Nat → Nat) (w w' : World) (S' : CS) : Prop := ∃ y', y'.g = g ∧ DAt (more G w w') B w' n y' S' ρ ∧ Chg G w w'
theorem DTo.refl (h : DAt G B w n y S ρ) : DTo G B n y.g ρ w w S := ⟨y, rfl, h.grow (fun k hk => .inl hk) (fun k hk => hk.elim (h.lt k) (fun h => by omega)), Chg.refl _ _⟩
theorem DTo.trans {g : Nat} {ρ' : Nat → Nat} {w1 w2 : World} {S2 : CS} {G1 : Nat → Prop} (hG : ∀ k, G k → B ≤ k ∧ k < w.heap.size) (hB : B ≤ w.heap.size) (hg : ∀ k, G1 k → more G w w1 k) (hc : Chg G w w1) (h2 : DTo G1 B n g ρ' w1 w2 S2) : DTo G B n g ρ' w w2 S2 := by
  obtain ⟨y2, e2, d2, c2⟩ := h2
  have hs1 := hc.size
  have hs2 := c2.size
  refine ⟨y2, e2, d2.grow (fun k hk => ?_) (fun k hk => ?_), hc.trans c2 (fun _ _ h => h) (fun i hi h => (hg i h).elim (fun h => h) (fun h => by omega))⟩
  · rcases hk with hk | ⟨k1, k2⟩
    · rcases hg k hk with hk | ⟨k1, k2⟩
      · exact .inl hk
      · exact .inr ⟨k1, by omega⟩
    · exact .inr ⟨by omega, k2⟩
  · rcases hk with hk | ⟨k1, k2⟩
    · have := hG k hk; omega
    · omega
theorem DAt.base (h : DAt G B w n y S ρ) : B ≤ w.heap.size := by have := h.lt _ h.gb.1; omega
theorem dgone_any (i b : Nat) (h : DAt G B w n y S ρ) (ok : DOk n S) (hi : i < n) (hb : b ∈ S.its) (hl : S.last < 8796093022000) :
    Calls Try.prog 92 #[.pointer (some ⟨y.g, 0, none⟩), .int .i64 i, .pointer (some ⟨ρ b, 0, none⟩)] w fun e w' => e = .returned (.tuple #[]) ∧ DTo G B n y.g ρ w w' (S.goneAt i b) := by
  have hnd := ok.aln i hi
  have hitb : blkOf w (ρ b) = some (.cells #[.string (S.it b).key, (S.it b).v, .int .u64 (S.it b).ch, .bool (S.it b).inn, .int .i64 (S.it b).pins] 133 (0, 0)) := h.its b hb
  obtain ⟨w1, hw1⟩ : ∃ w1, w1 = w.setCell ⟨ρ b, 3, none⟩ (.bool false) := ⟨_, rfl⟩
  have hc1 : Chg (fun k => k = ρ b) w w1 := by rw [hw1]; exact chg_cell _ _ _ _
  have hI : DItAt w1 (ρ b) (S.it b).off := by rw [hw1]; exact Blk.set (t := 133) hitb 3 (.bool false)
  have d1 := h.put_it hb hc1 hI
  have hs1 : w1.heap.size = w.heap.size := by rw [hw1]; simp
  have k2 : (y.lcells n S)[i]? = some (.slice (y.la i) (S.sh i).al.length (y.lc i)) := by
    have := h.lcell hi
    rw [h.lrow] at this; exact this
  have k3 : (y.wcells n S)[i]? = some (.slice (y.wa i) (S.sh i).wt.length (y.wc i)) := by
    have := h.wcell hi
    rw [h.wrow] at this; exact this
  have hD : ∀ c ∈ S.its, IsD w1 (ρ c) := fun c hc => (d1.its c hc).d
  have hlen : ∀ {l : List Nat}, l.Nodup → (∀ c ∈ l, c ∈ S.its) → l.length ≤ 8796093022000 := fun hnd hs => by have := nodup_len hnd hs; have := ok.itn; omega
  have hwi : ∀ c ∈ (S.sh i).wt, c ∈ S.its := fun c hc => ok.al i hi c (ok.sub i hi c hc)
  refine (dgone_raw y.g y.lr y.wr i n (ρ b) _ _ _ (y.lcells n S) (y.wcells n S) (S.it b) (y.la i) (y.wa i) _ _ (y.lc i) (y.wc i) (Less ((S.sh i).al.map ρ) (ρ b)) (Less ((S.sh i).wt.map ρ) (ρ b)) w hitb h.blk h.lrow h.wrow k2 k3 hi
    (blk_ty_ne hitb h.blk (by decide)) (blk_ty_ne hitb h.lrow (by decide)) (blk_ty_ne hitb h.wrow (by decide)) h.ne (blk_ty_ne h.blk h.lrow (by decide)) (blk_ty_ne h.blk h.wrow (by decide)) ?_ ?_).mono ?_
  · intro W hW
    rw [← hw1, ← hs1] at hW
    refine (dwithout_at (d1.L i hi) (by rw [List.length_map]) (fun z hz => by
      obtain ⟨c, hc, rfl⟩ := List.mem_map.1 hz
      exact hD c (ok.al i hi c hc)) (hD b hb) (by rw [List.length_map]; exact hlen hnd (ok.al i hi)) W hW).mono ?_
    rintro e w' ⟨A, m, c, rfl, ⟨h1, h2⟩, h3⟩
    exact ⟨A, m, c, rfl, ⟨A, m, c, rfl, h1, h2⟩, h3⟩
  · intro W hW
    rw [← hw1, ← hs1] at hW
    refine (dwithout_at (d1.W i hi) (by rw [List.length_map]) (fun z hz => by
      obtain ⟨c, hc, rfl⟩ := List.mem_map.1 hz
      exact hD c (hwi c hc)) (hD b hb) (by rw [List.length_map]; exact hlen (ok.wtn i hi) hwi) W hW).mono ?_
    rintro e w' ⟨A, m, c, rfl, ⟨h1, h2⟩, h3⟩
    exact ⟨A, m, c, rfl, ⟨A, m, c, rfl, h1, h2⟩, h3⟩
  rintro e w' ⟨rfl, wa, wb, wc, vL, vW, ha, ⟨A1, m1, c1, rfl, rfl, o1⟩, hbb, ⟨A2, m2, c2, rfl, rfl, o2⟩, hcc, rfl⟩
  rw [← hw1, ← hs1] at ha
  rw [less_map (fun c hc e => h.inj c (ok.al i hi c hc) b hb e)] at o1 ⊢
  rw [less_map (fun c hc e => h.inj c (hwi c hc) b hb e)] at o2 ⊢
  rw [List.length_map] at o1 o2 ⊢
  rw [List.length_map]
  have hbc := bl_then (bl_then ha hbb) hcc
  have hsz : w.heap.size ≤ wc.heap.size := by have := hbc.size; omega
  have o1' := own_below o1 hcc
  have d3 := d1.below hbc
  have hsa := ha.size
  have hsb := hbb.size
  have hgrow : ∀ k, more G w wc k → B ≤ k ∧ k < wc.heap.size := by
    rintro k (hk | ⟨hk, hk2⟩)
    · have := h.lt k hk; omega
    · have hg := h.lt _ h.gb.1
      omega
  have d4 := d3.grow (G' := more G w wc) (fun k hk => .inl hk) hgrow
  have hpa : ∀ k, rowOf y.pa = some k → k < w.heap.size := fun k hk => (h.lt k (h.gb.2.2.2.2.2 k hk)).2
  have hc4 : Chg (fun k => k = y.lr) wc (wc.setCell ⟨y.lr, i, none⟩ (.slice A1 (less (S.sh i).al b).length c1)) := chg_cell _ _ _ _
  have d5 := d4.put_al (al := less (S.sh i).al b) (A := A1) (c := c1) hi hc4 (Blk.set (t := 127) d4.lrow i _) (own_chg (own_base o1' (by have := h.lt _ h.gb.1; omega)) hc4 (fun k hk e => by
      have h1 := (o1'.lt k hk).1
      have h2 := (h.lt _ h.gb.2.1).2
      have e : k = y.lr := e
      omega)) (fun k hk => by
    have hk' : (Value.slice A1 (less (S.sh i).al b).length c1).ownBlock = some k := by rw [rowOf_eq]; exact hk
    have h1 := o1'.lt k hk'
    exact ⟨.inr ⟨by omega, h1.2⟩, fun e => by have := hpa k e; omega⟩)
  have hc5 : Chg (fun k => k = y.wr) (wc.setCell ⟨y.lr, i, none⟩ (.slice A1 (less (S.sh i).al b).length c1)) ((wc.setCell ⟨y.lr, i, none⟩ (.slice A1 (less (S.sh i).al b).length c1)).setCell ⟨y.wr, i, none⟩ (.slice A2 (less (S.sh i).wt b).length c2)) := chg_cell _ _ _ _
  have hb5 := Blk.set (t := 127) d5.wrow i (.slice A2 (less (S.sh i).wt b).length c2)
  have d6 := d5.put_wt (wt := less (S.sh i).wt b) (A := A2) (c := c2) hi hc5 hb5 (own_chg (own_chg (own_base o2 (by have := h.lt _ h.gb.1; omega)) hc4 (fun k hk e => by
      have h1 := (o2.lt k hk).1
      have h2 := (h.lt _ h.gb.2.1).2
      have e : k = y.lr := e
      omega)) hc5 (fun k hk e => by
      have h1 := (o2.lt k hk).1
      have h2 := (h.lt _ h.gb.2.2.1).2
      have e : k = y.wr := e
      omega)) (fun k hk => by
    have hk' : (Value.slice A2 (less (S.sh i).wt b).length c2).ownBlock = some k := by rw [rowOf_eq]; exact hk
    have h1 := o2.lt k hk'
    exact ⟨.inr ⟨by omega, h1.2⟩, fun e => by have := hpa k e; omega⟩)
  refine ⟨rfl, _, ?_, DAt.same (S' := S.goneAt i b) (d6.grow (fun k hk => ?_) (fun k hk => ?_)) rfl rfl rfl rfl rfl ?_ ?_ (fun _ _ => rfl), ?_⟩
  · rfl
  · rcases hk with hk | hk
    · exact .inl hk
    · exact .inr (by simpa using hk)
  · have := hgrow k (by
      rcases hk with hk | hk
      · exact .inl hk
      · exact .inr (by simpa using hk))
    simpa using this
  · intro j
    show (putAt S.sh i _ j).al = (putAt (putAt S.sh i _) i _ j).al
    unfold putAt
    by_cases e : j = i
    · rw [if_pos e, if_pos e]
      show less (S.sh i).al b = (putAt S.sh i _ i).al
      rw [putAt_same]
    · rw [if_neg e, if_neg e, if_neg e]
  · intro j
    show (putAt S.sh i _ j).wt = (putAt (putAt S.sh i _) i _ j).wt
    unfold putAt
    by_cases e : j = i
    · rw [if_pos e, if_pos e]; rfl
    · rw [if_neg e, if_neg e, if_neg e]
  · refine (((hc1.mono (G := G) (fun k _ e => by rw [show k = ρ b from e]; exact h.gb.2.2.2.1 b hb)).below hbc).setCell (p := ⟨y.lr, i, none⟩) (fun _ => h.gb.2.1) _).setCell (p := ⟨y.wr, i, none⟩) (fun _ => h.gb.2.2.1) _
end
end Go.Proofs.Ytbiaelaaihieeaa
/- The document's cache: out, makes. -/
namespace Go.Proofs.Ytbiaelaaihieeaa
open Go.RowKit
section
variable {G : Nat → Prop} {B : Nat} {w w' : World} {n g : Nat} {y : DL} {S S' : CS} {ρ : Nat → Nat}
theorem DTo.same (h : DTo G B n g ρ w w' S) (h1 : S'.room = S.room) (h2 : S'.st = S.st) (h3 : S'.last = S.last) (h4 : S'.pins = S.pins) (h5 : S'.its = S.its) (h6 : ∀ i, (S'.sh i).al = (S.sh i).al) (h7 : ∀ i, (S'.sh i).wt = (S.sh i).wt) (h8 : ∀ b ∈ S.its, S'.it b = S.it b) : DTo G B n g ρ w w' S' := by
  obtain ⟨y', e, d, c⟩ := h
  exact ⟨y', e, d.same h1 h2 h3 h4 h5 h6 h7 h8, c⟩
theorem out_same0 (S : CS) (i b : Nat) (hp : (S.it b).pins = 0) : (∀ j, ((S.outAt i b).sh j).al = ((({ S with it := upd S.it b (S.it b).off } : CS).goneAt i b).sh j).al) ∧ (∀ j, ((S.outAt i b).sh j).wt = ((({ S with it := upd S.it b (S.it b).off } : CS).goneAt i b).sh j).wt) ∧ ∀ c, (S.outAt i b).it c = (({ S with it := upd S.it b (S.it b).off } : CS).goneAt i b).it c := by
  have e : (S.sh i).outOf b (S.it b) = _ := if_pos hp
  refine ⟨fun j => ?_, fun j => ?_, fun c => ?_⟩
  · show (putAt S.sh i ((S.sh i).outOf b (S.it b)) j).al = (putAt S.sh i _ j).al
    rw [e]
    unfold putAt; split <;> rfl
  · show (putAt S.sh i ((S.sh i).outOf b (S.it b)) j).wt = (putAt S.sh i _ j).wt
    rw [e]
    unfold putAt; split <;> rfl
  · show upd S.it b (S.it b).off c = upd (upd S.it b (S.it b).off) b (upd S.it b (S.it b).off b).off c
    by_cases h : c = b
    · subst h; rw [upd_same, upd_same]; rfl
    · rw [upd_ne _ _ h, upd_ne _ _ h, upd_ne _ _ h]
set_option maxHeartbeats 1600000 in
theorem dout_any (i b : Nat) (h : DAt G B w n y S ρ) (ok : DOk n S) (hi : i < n) (hb : b ∈ S.its) (hl : S.last < 8796093022000) :
    Calls Try.prog 88 #[.pointer (some ⟨y.g, 0, none⟩), .int .i64 i, .pointer (some ⟨ρ b, 0, none⟩)] w fun e w' => e = .returned (.tuple #[]) ∧ DTo G B n y.g ρ w w' (S.outAt i b) := by
  refine calls_of fun R HR => ?_
  have hitb : blkOf w (ρ b) = some (.cells #[.string (S.it b).key, (S.it b).v, .int .u64 (S.it b).ch, .bool (S.it b).inn, .int .i64 (S.it b).pins] 133 (0, 0)) := h.its b hb
  have lit := Blk.lt hitb
  have hc1 : Chg (fun k => k = ρ b) w (w.setCell ⟨ρ b, 3, none⟩ (.bool false)) := chg_cell _ _ _ _
  have hI : DItAt (w.setCell ⟨ρ b, 3, none⟩ (.bool false)) (ρ b) (S.it b).off := Blk.set (t := 133) hitb 3 (.bool false)
  have d1 := h.put_it hb hc1 hI
  have hcG : Chg G w (w.setCell ⟨ρ b, 3, none⟩ (.bool false)) := hc1.mono (fun k _ e => by rw [show k = ρ b from e]; exact h.gb.2.2.2.1 b hb)
  by_cases hp : (S.it b).pins = 0
  · have Hg := hid (dgone_any i b d1 ⟨ok.al, ok.sub, ok.wtn, ok.aln, ok.itn⟩ hi hb hl)
    have hp' : ((S.it b).pins == 0) = true := by rw [beq_iff_eq]; exact hp
    have Hp := hid hp; have H := hid h; have HcG := hid hcG
    clear hp h hc1 hI d1 ok hi hb hl hcG
    go_enter Try.func88, Try.ntmps88
    go_wp2_with (go_at_call 92; refine Hg.out.mono ?_; rintro e w2 ⟨rfl, hto⟩; have Hto := hid hto; clear hto)
    go_end0
    refine HR.out _ _ ⟨rfl, ?_⟩
    obtain ⟨s1, s2, s3⟩ := out_same0 S i b Hp.out
    exact (Hto.out.trans H.out.lt H.out.base (fun k hk => .inl hk) HcG.out).same rfl rfl rfl rfl rfl s1 s2 (fun c _ => s3 c)
  · have hp' : ((S.it b).pins == 0) = false := by rw [beq_eq_false_iff_ne]; exact hp
    have Hp := hid hp; have H := hid h; have HcG := hid hcG; have D1 := hid d1
    clear hp h hc1 hI d1 ok hi hb hl hcG
    go_enter Try.func88, Try.ntmps88
    go_wp2
    go_end0
    refine HR.out _ _ ⟨rfl, ?_⟩
    have e : (S.sh i).outOf b (S.it b) = _ := if_neg Hp.out
    refine ((DTo.refl D1.out).trans H.out.lt H.out.base (fun k hk => .inl hk) HcG.out).same rfl rfl rfl rfl rfl (fun j => ?_) (fun j => ?_) (fun c _ => rfl)
    · show (putAt S.sh i ((S.sh i).outOf b (S.it b)) j).al = (S.sh j).al
      rw [e]; unfold putAt; split
      · rename_i e; rw [e]
      · rfl
    · show (putAt S.sh i ((S.sh i).outOf b (S.it b)) j).wt = (S.sh j).wt
      rw [e]; unfold putAt; split
      · rename_i e; rw [e]
      · rfl
end
end Go.Proofs.Ytbiaelaaihieeaa
/- The document's cache: makes. -/
namespace Go.Proofs.Ytbiaelaaihieeaa
open Go.RowKit
section
variable {more room : Int} {T0 T : Sh} {I0 I : Nat → It}
theorem Made.nil (h : Made more room T0 I0 T I) (hw : T0.wt = []) : T = T0 ∧ I = I0 := by
  cases h with
  | none => exact ⟨rfl, rfl⟩
  | fits => exact ⟨rfl, rfl⟩
  | step h1 => rw [hw] at h1; cases h1
theorem Made.stop (h : Made more room T0 I0 T I) (hl : addTop (usedOf T0 I0) more ≤ room) : T = T0 ∧ I = I0 := by
  cases h with
  | none => exact ⟨rfl, rfl⟩
  | fits => exact ⟨rfl, rfl⟩
  | step _ h1 => omega
theorem Made.go {b : Nat} {r : List Nat} (h : Made more room T0 I0 T I) (hw : T0.wt = b :: r) (hl : room < addTop (usedOf T0 I0) more) : Made more room (T0.gone b (I0 b)) (upd I0 b (I0 b).off) T I := by
  cases h with
  | none _ _ h => rw [hw] at h; cases h
  | fits _ _ h => omega
  | step h1 _ h2 => rw [hw] at h1; injection h1 with h1 _; rw [h1]; exact h2
end
theorem gone_turn (S : CS) (i : Nat) (T : Sh) (I : Nat → It) (b : Nat) : (S.turn i T I).goneAt i b = S.turn i (T.gone b (I b)) (upd I b (I b).off) := by
  unfold CS.goneAt
  rw [turn_turn, turn_sh]
  rfl
def Nod (n : Nat) (S : CS) : Prop := ∀ i, i < n → (S.sh i).al.Nodup
theorem Nod.turn {n i : Nat} {S : CS} {T : Sh} {I : Nat → It} (h : Nod n S) (hT : T.al.Nodup) : Nod n (S.turn i T I) := fun j hj => by
  show (putAt S.sh i T j).al.Nodup
  unfold putAt; split
  · exact hT
  · exact h j hj
theorem Nod.gone {n i b : Nat} {S : CS} (h : Nod n S) (hi : i < n) : Nod n (S.goneAt i b) := h.turn (less_nodup (h i hi) b)
section
variable {G : Nat → Prop} {B : Nat} {w w' : World} {n g : Nat} {y : DL} {S S' : CS} {ρ : Nat → Nat}
def DMakesRel (G : Nat → Prop) (B n g : Nat) (ρ : Nat → Nat) (w : World) (S : CS) (i : Nat) (mr : Int) (T : Sh) (I : Nat → It) (gk : Nat) (wr : World) : Prop :=
  ∃ T0 I0, gk = T0.wt.length ∧ Made mr (S.room / n) T0 I0 T I ∧ COk n (S.turn i T0 I0) ∧ Nod n (S.turn i T0 I0) ∧ DTo G B n g ρ w wr (S.turn i T0 I0)
set_option maxHeartbeats 3200000 in
theorem dmakes_any (i : Nat) (mr : Int) {T : Sh} {I : Nat → It} (h : DAt G B w n y S ρ) (ok : COk n S) (hnd : Nod n S) (hi : i < n) (hn : n ≤ 64) (hm : 0 ≤ mr ∧ mr ≤ 18446744073709551615) (hl : S.last < 8796093022000) (hmd : Made mr (S.room / n) (S.sh i) S.it T I) :
    Calls Try.prog 84 #[.pointer (some ⟨y.g, 0, none⟩), .int .i64 i, .int .u64 mr] w fun e w' => e = .returned (.tuple #[]) ∧ DTo G B n y.g ρ w w' (S.turn i T I) := by
  refine calls_of fun R HR => ?_
  obtain ⟨g, hg⟩ : ∃ g, g = y.g := ⟨_, rfl⟩
  have H0 : Hid (DMakesRel G B n g ρ w S i mr T I (S.sh i).wt.length w) := hid ⟨S.sh i, S.it, rfl, hmd, by rw [turn_self]; exact ok, by rw [turn_self]; exact hnd, by rw [turn_self, hg]; exact DTo.refl h⟩
  have HG := hid h.lt; have HB := hid h.base
  have hr0 := ok.room
  rw [← hg] at HR ⊢
  have Hm := hid hm; have Hl := hid hl; have Hi := hid hi
  have hi0 : (0 : Int) ≤ (i : Int) := Int.natCast_nonneg _
  have hi1 : (i : Int) < (n : Int) := by omega
  have hn0 : (0 : Int) < (n : Int) := by omega
  have hn1 : (n : Int) ≤ 64 := by omega
  have hnw : IntKind.u64.wrap (n : Int) = (n : Int) := by unfold IntKind.wrap; simp [IntKind.bits, IntKind.signed]; omega
  have hnz : ((n : Int) == 0) = false := by rw [beq_eq_false_iff_ne]; omega
  obtain ⟨q, hq⟩ : ∃ q, q = S.room / (n : Int) := ⟨_, rfl⟩
  have HQ := hid hq
  clear hq
  clear h ok hnd hmd hg hm hl
  go_enter Try.func84, Try.ntmps84
  go_wp2
  go_loopg [6] (S.sh i).wt.length (fun gk v6 wr => DMakesRel G B n g ρ w S i mr T I gk wr)
  case atStart => exact H0.out
  case round =>
    clear H0
    obtain ⟨T0, I0, rfl, hmd, ok, hnd, y', hyg, hd, hc⟩ := hrel
    obtain ⟨wo, hwo⟩ : ∃ wo : World, wo = wr := ⟨_, rfl⟩
    subst hwo
    have hb := hd.blk
    have lg := Blk.lt hb
    have lw := Blk.lt hd.wrow
    have k0 := hd.wcell Hi.out
    have hshi : (S.turn i T0 I0).sh i = T0 := turn_sh _ _ _ _
    rw [hshi] at k0
    rw [hyg] at hb lg
    have hW := hd.W i Hi.out
    rw [hshi] at hW
    have Hd := hid hd; have Hc := hid hc; have Ok := hid ok; have Hnd := hid hnd; have Hmd := hid hmd; have Hyg := hid hyg; have Hsh := hid hshi
    clear hd hc ok hnd hmd hyg hshi
    rcases hw : T0.wt with _ | ⟨b, r⟩
    · rw [hw] at k0
      obtain ⟨e1, e2⟩ := Hmd.out.nil hw
      have E1 := hid e1; have E2 := hid e2
      clear hw e1 e2 hW
      go_wp2
      go_quiet (fail)
      go_wp2
      go_end0
      refine HR.out _ _ ⟨rfl, ?_⟩
      rw [E1.out, E2.out]
      exact ⟨y', Hyg.out, Hd.out.below (bl_drewN (Below.refl _ _) _), Hc.out.drewN _⟩
    · have hlen : (0 : Int) < (T0.wt.length : Int) := by rw [hw]; simp
      have hlen' : 0 < T0.wt.length := by rw [hw]; simp
      have hu0 := chs_nonneg (Ok.out.ok i Hi.out).ch
      have hcp := cap_range hu0
      have hus : usedOf ((S.turn i T0 I0).sh i) (S.turn i T0 I0).it = usedOf T0 I0 := by rw [Hsh.out]; rfl
      have Hu : Hid (∀ m, Calls Try.prog 86 #[.pointer (some ⟨g, 0, none⟩), .int .i64 i] (wo.drewN m) fun e w' => e = .returned (.int .u64 (usedOf T0 I0)) ∧ w' = wo.drewN m) := hid (fun m => by
        have := dused_any (more G w wo) B n y' (S.turn i T0 I0) ρ i (wo.drewN m) (Hd.out.below (bl_drewN (Below.refl _ _) m)) Ok.out Hi.out (by omega) (by
          have h1 := (DOk.of Ok.out Hnd.out).len Hi.out
          have h2 := Hl.out
          have e : (S.turn i T0 I0).last = S.last := rfl
          omega)
        rw [Hyg.out, hus] at this
        exact this)
      have hcu : 0 ≤ usedOf T0 I0 ∧ usedOf T0 I0 ≤ 18446744073709551615 := by rw [← hus]; exact hcp
      obtain ⟨a, hl0, hA, la, k1⟩ := own_ptr hW hlen'
      have hb0 : (T0.wt.map ρ)[0]'hl0 = ρ b := by simp [hw]
      rw [hb0] at k1
      have hbw : b ∈ T0.wt := by rw [hw]; exact List.mem_cons_self ..
      have hbw2 : b ∈ ((S.turn i T0 I0).sh i).wt := by rw [Hsh.out]; exact hbw
      have hbi := Ok.out.wt_its Hi.out b hbw2
      have hbk := Ok.out.alk i Hi.out b ((Ok.out.ok i Hi.out).sub b hbw2)
      have hb0p := Ok.out.w0 i Hi.out b hbw2
      have Hg : Hid (∀ m, Calls Try.prog 92 #[.pointer (some ⟨g, 0, none⟩), .int .i64 i, .pointer (some ⟨ρ b, 0, none⟩)] (wo.drewN m) fun e w' => e = .returned (.tuple #[]) ∧ DTo (more G w wo) B n g ρ (wo.drewN m) w' (S.turn i (T0.gone b (I0 b)) (upd I0 b (I0 b).off))) := hid (fun m => by
        have := dgone_any i b (Hd.out.below (bl_drewN (Below.refl _ _) m)) (DOk.of Ok.out Hnd.out) Hi.out hbi Hl.out
        rw [Hyg.out, gone_turn] at this
        exact this)
      have Ok2 : Hid (COk n (S.turn i (T0.gone b (I0 b)) (upd I0 b (I0 b).off))) := hid (by
        have := Ok.out.gone Hi.out hbk hb0p
        rw [gone_turn] at this
        exact this)
      have Nd2 : Hid (Nod n (S.turn i (T0.gone b (I0 b)) (upd I0 b (I0 b).off))) := hid (by
        have := Hnd.out.gone (b := b) Hi.out
        rw [gone_turn] at this
        exact this)
      have Hbw := hid hbw
      have Hw := hid hw
      rw [hA] at k0
      obtain ⟨m, hmm⟩ : ∃ m, m = T0.wt.length := ⟨_, rfl⟩
      rw [← hmm] at k0 hlen hlen'
      have hd1 : decide (0 < m) = true := by simpa using hlen'
      have Hmm := hid hmm
      obtain ⟨u, hu⟩ : ∃ u, u = usedOf T0 I0 := ⟨_, rfl⟩
      rw [← hu] at Hu hcu
      have HU := hid hu
      have Hp := hid (fun W => dplus_any u mr W hcu Hm.out)
      obtain ⟨rm, hrm⟩ : ∃ rm, rm = (S.turn i T0 I0).room := ⟨_, rfl⟩
      rw [← hrm] at hb
      have hquo : IntKind.u64.wrap (rm.tdiv (n : Int)) = q := by
        have e : rm = S.room := hrm
        have h0 : (0 : Int) ≤ rm / (n : Int) := Int.ediv_nonneg (by omega) (by omega)
        have h1 : rm / (n : Int) ≤ rm := Int.ediv_le_self _ (by omega)
        rw [Int.tdiv_eq_ediv_of_nonneg (by omega), HQ.out, ← e]
        unfold IntKind.wrap
        simp [IntKind.bits, IntKind.signed]
        omega
      clear hrm
      clear hw hl0 hA hb0 hbw hbw2 hbi hbk hb0p hus hcp hu0 hmm hu hW
      by_cases hlt : q < addTop u mr
      · go_wp2
        go_quiet ((first | (go_at_call 86; exact Calls.quiet_of_same (Hu.out _)) | (go_at_call 85; exact Calls.quiet_of_same (Hp.out _))))
        go_wp2_with (go_at_call 92; refine (Hg.out _).mono ?_; rintro e w2 ⟨rfl, hto⟩; have Hto := hid hto; clear hto)
        go_roundg (T0.gone b (I0 b)).wt.length
        case measure => exact less_lt Hbw.out
        case rel => exact ⟨_, _, rfl, Hmd.out.go Hw.out (by rw [← HU.out, ← HQ.out]; exact hlt), Ok2.out, Nd2.out, Hto.out.trans HG.out HB.out (fun k hk => hk) (Hc.out.drewN _)⟩
      · go_wp2
        go_quiet ((first | (go_at_call 86; exact Calls.quiet_of_same (Hu.out _)) | (go_at_call 85; exact Calls.quiet_of_same (Hp.out _))))
        go_wp2
        go_end0
        refine HR.out _ _ ⟨rfl, ?_⟩
        obtain ⟨e1, e2⟩ := Hmd.out.stop (by rw [← HU.out, ← HQ.out]; omega)
        rw [e1, e2]
        exact ⟨y', Hyg.out, Hd.out.below (bl_drewN (Below.refl _ _) _), Hc.out.drewN _⟩
end
end Go.Proofs.Ytbiaelaaihieeaa
/- The document's cache: pins. -/
namespace Go.Proofs.Ytbiaelaaihieeaa
open Go.RowKit
section
variable {G : Nat → Prop} {B : Nat} {w w' : World} {n g : Nat} {y : DL} {S S' : CS} {ρ : Nat → Nat}
/-- The row of pins has been laid anew. -/
theorem DAt.put_pins {G' : Nat → Prop} (h : DAt G B w n y S ρ) (hGG : ∀ k, G k → G' k) (hlt' : ∀ k, G' k → B ≤ k ∧ k < w'.heap.size) (hc : Chg (fun k => k = y.g ∨ rowOf y.pa = some k) w w') {last : Int} {pins : List (Int × Nat)} {A : Option Addr} {c : Nat}
    (hb : blkOf w' y.g = some (.cells #[.int .i64 n, .int .u64 S.room, .bool S.st, .slice (some ⟨y.lr, 0, none⟩) n n, .slice (some ⟨y.wr, 0, none⟩) n n, .slice A last.toNat c] 129 (0, 0)))
    (hown : w'.ownsRow B 134 1 (.slice A last.toNat c) last.toNat (pinCells { S with last := last, pins := pins } ρ)) (hG : ∀ k, rowOf A = some k → G' k ∧ ∀ i, i < n → rowOf (y.la i) ≠ some k ∧ rowOf (y.wa i) ≠ some k) :
    DAt G' B w' n { y with pa := A, pc := c } { S with last := last, pins := pins } ρ := by
  obtain ⟨g1, g2, g3, g4, g5, g6⟩ := h.gb
  have hpr : ∀ {k : Nat} {t : TypeId} {cs : Array Value}, blkOf w k = some (.cells cs t (0, 0)) → t ≠ 129 → t ≠ 134 → ¬ (k = y.g ∨ rowOf y.pa = some k) := by
    rintro k t cs hk h1 h2 (rfl | e)
    · rw [h.blk] at hk; injection hk with hk; injection hk with _ e _; exact h1 e.symm
    · exact own_ne_blk h.pin (g := k) (t := t) (cs := cs) hk (Ne.symm h2) (by rw [rowOf_eq]; exact e)
  have hng : ∀ {m c : Nat} {A : Option Addr} {xs : List Value}, w.ownsRow B 134 1 (.slice A m c) m xs → rowOf A ≠ some y.g := fun ho e => own_ne_blk ho (g := y.g) h.blk (by decide) (by rw [rowOf_eq]; exact e)
  refine ⟨hb, (hc.block _ (Blk.lt h.lrow) (hpr h.lrow (by decide) (by decide))).trans h.lrow, (hc.block _ (Blk.lt h.wrow) (hpr h.wrow (by decide) (by decide))).trans h.wrow, h.ne,
    fun i hi => own_chg (h.L i hi) hc (fun k hk => ?_), fun i hi => own_chg (h.W i hi) hc (fun k hk => ?_),
    fun b hb => (hc.block _ (Blk.lt (h.its b hb)) (hpr (h.its b hb) (by decide) (by decide))).trans (h.its b hb), h.inj, hown,
    fun i hi k hk => (hG k hk).2 i hi, ⟨hGG _ g1, hGG _ g2, hGG _ g3, fun b hb => hGG _ (g4 b hb), fun i hi k hk => hGG _ (g5 i hi k hk), fun k hk => (hG k hk).1⟩, hlt'⟩
  · rw [rowOf_eq] at hk
    rintro (rfl | e)
    · exact hng (h.L i hi) hk
    · exact (h.pl i hi k e).1 hk
  · rw [rowOf_eq] at hk
    rintro (rfl | e)
    · exact hng (h.W i hi) hk
    · exact (h.pl i hi k e).2 hk
theorem lookP_snoc {l : List (Int × Nat)} {k0 k : Int} {b : Nat} : lookP (l ++ [(k0, b)]) k = (lookP l k).or (if k0 = k then some b else none) := by
  unfold lookP
  rw [List.find?_append]
  cases h : l.find? (fun p => decide (p.1 = k)) with
  | some p => rfl
  | none =>
    by_cases e : k0 = k
    · simp [e]
    · simp [e]
theorem lookP_big {l : List (Int × Nat)} {k : Int} (h : ∀ p ∈ l, p.1 < k) : lookP l k = none := by
  cases hl : lookP l k with
  | none => rfl
  | some b => have := h _ (lookP_some hl); simp at this
theorem pinCells_pin (hl : 0 ≤ S.last) (hp : ∀ p ∈ S.pins, p.1 ≤ S.last) (b : Nat) : pinCells (S.pinned b) ρ = pinCells S ρ ++ [.pointer (some ⟨ρ b, 0, none⟩)] := by
  have e : (S.pinned b).last.toNat = S.last.toNat + 1 := by show (S.last + 1).toNat = _; omega
  unfold pinCells
  rw [e, List.range_succ, List.map_append]
  congr 1
  · apply List.map_congr_left
    intro k hk
    rw [List.mem_range] at hk
    unfold pinCell
    have : lookP (S.pinned b).pins ((k : Int) + 1) = lookP S.pins ((k : Int) + 1) := by
      show lookP (S.pins ++ [(S.last + 1, b)]) _ = _
      rw [lookP_snoc, if_neg (by omega)]
      cases lookP S.pins ((k : Int) + 1) <;> rfl
    rw [this]
  · rw [List.map_cons, List.map_nil]
    unfold pinCell
    have : lookP (S.pinned b).pins ((S.last.toNat : Int) + 1) = some b := by
      show lookP (S.pins ++ [(S.last + 1, b)]) _ = _
      rw [lookP_snoc, if_pos (by omega), lookP_big (fun p hp' => by have := hp p hp'; omega)]
      rfl
    rw [this]
theorem pinCells_it (I : Nat → It) : pinCells { S with it := I } ρ = pinCells S ρ := rfl
theorem dpins_after {w1 w5 : World} {b : Nat} {A2 : Option Addr} {c2 : Nat} (d1 : DAt G B w1 n y S ρ) (hl : 0 ≤ S.last) (hp : ∀ p ∈ S.pins, p.1 ≤ S.last)
    (hown : w5.ownsRow B 134 1 (.slice A2 (S.last.toNat + 1) c2) (S.last.toNat + 1) (pinCells S ρ ++ [.pointer (some ⟨ρ b, 0, none⟩)])) (hg : (w1.alloc (.cells #[.pointer (some ⟨ρ b, 0, none⟩)] 134)).grownBy w5 (Value.slice y.pa S.last.toNat y.pc).ownBlock)
    (hat : (Value.slice A2 (S.last.toNat + 1) c2).ownBlock = (Value.slice y.pa S.last.toNat y.pc).ownBlock ∨ (Value.slice A2 (S.last.toNat + 1) c2).ownBlock = some (w1.alloc (.cells #[.pointer (some ⟨ρ b, 0, none⟩)] 134)).heap.size) :
    blkOf w5 y.g = some (.cells #[.int .i64 n, .int .u64 S.room, .bool S.st, .slice (some ⟨y.lr, 0, none⟩) n n, .slice (some ⟨y.wr, 0, none⟩) n n, .slice y.pa S.last.toNat y.pc] 129 (0, 0)) ∧
      (∃ y', y'.g = y.g ∧ DAt (more G w1 (w5.setCell ⟨y.g, 5, none⟩ (.slice A2 (S.last.toNat + 1) c2))) B (w5.setCell ⟨y.g, 5, none⟩ (.slice A2 (S.last.toNat + 1) c2)) n y' { S with last := S.last + 1, pins := S.pins ++ [(S.last + 1, b)] } ρ) ∧
      Chg G w1 (w5.setCell ⟨y.g, 5, none⟩ (.slice A2 (S.last.toNat + 1) c2)) := by
  obtain ⟨g1, g2, g3, g4, g5, g6⟩ := d1.gb
  have hlt5 := hg.size
  simp at hlt5
  have hc5 : Chg (fun k => rowOf y.pa = some k) w1 w5 := Chg.grown (F := fun k => rowOf y.pa = some k) ((Chg.refl _ w1).alloc _) hg (fun k hk _ => by rw [rowOf_eq] at hk; exact hk)
  have hgpa : rowOf y.pa ≠ some y.g := fun e => own_ne_blk d1.pin (g := y.g) d1.blk (by decide) (by rw [rowOf_eq]; exact e)
  have hb5 : blkOf w5 y.g = _ := (hc5.block _ (Blk.lt d1.blk) hgpa).trans d1.blk
  have hc6 : Chg (fun k => k = y.g ∨ rowOf y.pa = some k) w1 (w5.setCell ⟨y.g, 5, none⟩ (.slice A2 (S.last.toNat + 1) c2)) := (hc5.mono (G := fun k => k = y.g ∨ rowOf y.pa = some k) (fun _ _ h => .inr h)).setCell (p := ⟨y.g, 5, none⟩) (fun _ => .inl rfl) _
  have hl1 : (S.last + 1).toNat = S.last.toNat + 1 := by omega
  have hA2 : ∀ k, rowOf A2 = some k → rowOf y.pa = some k ∨ (w1.heap.size ≤ k ∧ k < w5.heap.size) := fun k hk => by
    have hk' : (Value.slice A2 (S.last.toNat + 1) c2).ownBlock = some k := by rw [rowOf_eq]; exact hk
    rcases hat with e | e
    · rw [hk', rowOf_eq] at e; exact .inl e.symm
    · rw [hk'] at e; injection e with e
      have := hown.lt k hk'
      simp at e
      exact .inr ⟨by omega, this.2⟩
  have hA2g : rowOf A2 ≠ some y.g := fun e => (hA2 _ e).elim hgpa (fun h => by have := d1.lt _ g1; omega)
  refine ⟨hb5, ⟨{ y with pa := A2, pc := c2 }, rfl, ?_⟩, hc6.mono (fun k _ hk => hk.elim (fun e => by rw [e]; exact g1) (fun e => g6 k e))⟩
  · have hsz : (w5.setCell ⟨y.g, 5, none⟩ (.slice A2 (S.last.toNat + 1) c2)).heap.size = w5.heap.size := by simp
    have hmo : more G w1 (w5.setCell ⟨y.g, 5, none⟩ (.slice A2 (S.last.toNat + 1) c2)) = more G w1 w5 := by funext k; unfold more; rw [hsz]
    rw [hmo]
    refine d1.put_pins (fun k hk => .inl hk) (fun k hk => ?_) hc6 ?_ ?_ (fun k hk => ⟨?_, fun i hi => ⟨fun e => ?_, fun e => ?_⟩⟩)
    · rw [hsz]
      rcases hk with hk | hk
      · have := d1.lt k hk; omega
      · have := d1.base; omega
    · rw [hl1, blk_set_same, hb5]; rfl
    · rw [hl1]
      have e : pinCells ({ S with last := S.last + 1, pins := S.pins ++ [(S.last + 1, b)] } : CS) ρ = pinCells S ρ ++ [.pointer (some ⟨ρ b, 0, none⟩)] := pinCells_pin (ρ := ρ) hl hp b
      rw [e]
      exact own_set hown (p := ⟨y.g, 5, none⟩) (by rw [rowOf_eq]; exact hA2g) _
    · exact (hA2 k hk).elim (fun e => .inl (g6 k e)) (fun e => .inr e)
    · exact (hA2 k hk).elim (fun e2 => (d1.pl i hi k e2).1 e) (fun e2 => by have := d1.lt k (g5 i hi k (.inl e)); omega)
    · exact (hA2 k hk).elim (fun e2 => (d1.pl i hi k e2).2 e) (fun e2 => by have := d1.lt k (g5 i hi k (.inr e)); omega)
set_option maxHeartbeats 1600000 in
theorem dpins_any (b : Nat) (h : DAt G B w n y S ρ) (hb : b ∈ S.its) (hp : ∀ p ∈ S.pins, p.1 ≤ S.last) (hl0 : 0 ≤ S.last) (hl : S.last < 8796093022000) (h2 : 0 ≤ (S.it b).pins) (h3 : (S.it b).pins ≤ S.last) :
    Calls Try.prog 89 #[.pointer (some ⟨y.g, 0, none⟩), .pointer (some ⟨ρ b, 0, none⟩)] w fun e w' => e = .returned (.int .i64 (S.last + 1)) ∧ DTo G B n y.g ρ w w' (S.pinned b) := by
  refine calls_of fun R HR => ?_
  have hitb : blkOf w (ρ b) = some (.cells #[.string (S.it b).key, (S.it b).v, .int .u64 (S.it b).ch, .bool (S.it b).inn, .int .i64 (S.it b).pins] 133 (0, 0)) := h.its b hb
  have lit := Blk.lt hitb
  obtain ⟨w1, hw1⟩ : ∃ w1, w1 = w.setCell ⟨ρ b, 4, none⟩ (.int .i64 ((S.it b).pins + 1)) := ⟨_, rfl⟩
  have hc1 : Chg (fun k => k = ρ b) w w1 := by rw [hw1]; exact chg_cell _ _ _ _
  have hI : DItAt w1 (ρ b) { S.it b with pins := (S.it b).pins + 1 } := by rw [hw1]; exact Blk.set (t := 133) hitb 4 _
  have d1 := h.put_it hb hc1 hI
  have hcG : Chg G w w1 := hc1.mono (fun k _ e => by rw [show k = ρ b from e]; exact h.gb.2.2.2.1 b hb)
  have D1 := hid d1; have H := hid h; have HcG := hid hcG; have Hp := hid hp
  have hbg := d1.blk
  have lg := Blk.lt hbg
  obtain ⟨m, hm⟩ : ∃ m : Nat, m = S.last.toNat := ⟨_, rfl⟩
  have hmi : (m : Int) + 1 = S.last + 1 := by omega
  have hmN : m ≤ 8796093022000 := by omega
  have HM := hid hm; have Hmi := hid hmi
  have ho := hid d1.pin
  have hb1 := hid d1.base
  have Hl0 := hid hl0
  have hbg2 : blkOf w1 y.g = some (.cells #[.int .i64 n, .int .u64 S.room, .bool S.st, .slice (some ⟨y.lr, 0, none⟩) n n, .slice (some ⟨y.wr, 0, none⟩) n n, .slice y.pa m y.pc] 129 (0, 0)) := by rw [hm]; exact hbg
  obtain ⟨i0, hi0, hz0, hz1, hz2⟩ := info_parts Try.info134c
  have Hw1 := hid hw1
  clear hmi hm hc1 hI d1 hcG h hp hl0 hb hbg
  go_enter Try.func89, Try.ntmps89
  go_upto_region 2 with fail
  rw [← Hw1.out]
  clear hw1 hitb lit
  go_wp2_with (at_builtin; refine wpList_append_rd _ rfl (.tmp 16) (.tmp 18) _ rfl B 134 i0 _ 1 8 Try.underlying127 hi0 hz0 hz1 hz2 rfl (by decide) (.slice y.pa m y.pc) m (pinCells S ρ) rfl ?ho (w1.heap.size + 1) (some ⟨w1.heap.size, 0, none⟩) 1 1 [.pointer (some ⟨ρ b, 0, none⟩)] rfl ?hr ?h1 ?h63 ?hb ?hbase ?hk; case' hk => (intro v2 w5 hown5 hg5 hat5; obtain ⟨A2, c2, rfl, _⟩ := own_shape hown5; have hz := dpins_after (b := b) (A2 := A2) (c2 := c2) (w5 := w5) D1.out Hl0.out Hp.out (by rw [← HM.out]; exact hown5) (by rw [← HM.out]; exact hg5) (by rw [← HM.out]; exact hat5); rw [← HM.out] at hz; have s5 := hz.1; have ls5 := Blk.lt s5; have Hz := hid hz.2; clear hz hown5 hg5 hat5))
  case ho => have := ho.out; rw [← HM.out] at this; exact this.alloc _
  case hr => exact rd_new w1 134 1 1 [.pointer (some ⟨ρ b, 0, none⟩)] rfl
  case h1 => simp [Value.oneCell']
  case h63 => simp only [maxLen]; omega
  case hb => omega
  case hbase => have := hb1.out; simp; omega
  refine HR.out _ _ ⟨?_, ?_⟩
  · have := Hmi.out
    first | rw [← this]; rfl | (congr 2)
  · obtain ⟨⟨y', e', d'⟩, c'⟩ := Hz.out
    exact DTo.trans (G1 := G) H.out.lt H.out.base (fun k hk => .inl hk) HcG.out ⟨y', e', d', c'⟩
end
end Go.Proofs.Ytbiaelaaihieeaa
/- The document's cache: find. -/
namespace Go.Proofs.Ytbiaelaaihieeaa
open Go.RowKit
/-- The first entry of a shard that is in and has this key. -/
def hitB (S : CS) (key : ByteArray) (b : Nat) : Bool := (S.it b).inn && decide ((S.it b).key = key)
def CS.fnd (S : CS) (i : Nat) (key : ByteArray) : Option Nat := (S.sh i).al.find? (hitB S key)
def ptrO (ρ : Nat → Nat) : Option Nat → Value
  | some b => .pointer (some ⟨ρ b, 0, none⟩)
  | none => .pointer none
theorem find_at {l : List Nat} {p : Nat → Bool} {j : Nat} (h : j < l.length) (hno : ∀ k (hk : k < l.length), k < j → p l[k] = false) (hy : p l[j] = true) : l.find? p = some l[j] := by
  rw [List.find?_eq_some_iff_getElem]
  refine ⟨hy, j, h, rfl, fun k hk => ?_⟩
  rw [hno k (by omega) hk]; rfl
theorem find_no {l : List Nat} {p : Nat → Bool} (hno : ∀ k (hk : k < l.length), p l[k] = false) : l.find? p = none := by
  rw [List.find?_eq_none]
  intro x hx
  obtain ⟨k, hk, rfl⟩ := List.mem_iff_getElem.1 hx
  rw [hno k hk]; decide
theorem own_ptrs' {w : World} {B : Nat} {A : Option Addr} {m c : Nat} {l : List Nat} (h : w.ownsRow B 134 1 (.slice A m c) m (ptrs l)) (hm : 0 < m) : ∃ b, A = some ⟨b, 0, none⟩ ∧ b < w.heap.size ∧ ∀ j (hj : j < l.length), j < m → (blkOf w b).bind (cellAt j) = some (.pointer (some ⟨l[j], 0, none⟩)) := by
  obtain ⟨b, hl, ea, lb, _⟩ := own_ptr h hm
  refine ⟨b, ea, lb, fun j hj hjm => ?_⟩
  obtain ⟨b', hl', ea', lb', k'⟩ := own_ptr h hjm
  rw [ea] at ea'
  injection ea' with ea'
  injection ea' with ea'
  rw [ea']; exact k'
section
variable {G : Nat → Prop} {B : Nat} {w w' : World} {n g : Nat} {y : DL} {S S' : CS} {ρ : Nat → Nat}
def DFindRel (w : World) (S : CS) (key : ByteArray) (al : List Nat) (gk : Nat) (v6 : Value) (wr : World) : Prop :=
  ∃ j m : Nat, j ≤ al.length ∧ gk = al.length - j ∧ v6 = .int .i64 j ∧ wr = w.drewN m ∧ ∀ k (hk : k < al.length), k < j → hitB S key al[k] = false
set_option maxHeartbeats 1600000 in
theorem dfind_any (key : ByteArray) (h : DAt G B w n y S ρ) (ok : DOk n S) (h0 : 0 < n) (h1 : n ≤ 64) (hk : key.size ≤ maxLen) (hl : S.last < 8796093022000) :
    Calls Try.prog 87 #[.pointer (some ⟨y.g, 0, none⟩), .string key] w fun e w' => e = .returned (ptrO ρ (S.fnd (sidx n key) key)) ∧ ∃ m, w' = w.drewN m := by
  refine calls_of fun R HR => ?_
  have hb := h.blk
  have lg := Blk.lt hb
  have hs := sidx_lt h0 key
  obtain ⟨s, hse⟩ : ∃ s, s = sidx n key := ⟨_, rfl⟩
  have Hsh : Hid (∀ m, Calls Try.prog 37 #[.pointer (some ⟨y.g, 0, none⟩), .string key] (w.drewN m) fun e w' => e = .returned (.int .i64 (s : Int)) ∧ w' = w.drewN m) := hid (fun m => by rw [hse]; exact dshard_any y.g key n _ (w.drewN m) hb rfl h0 h1 hk)
  rw [← hse] at hs HR
  have k0 := h.lcell hs
  have lr := Blk.lt h.lrow
  have hrow := h.L s hs
  unfold CS.fnd at HR
  have hal : ∀ b ∈ (S.sh s).al, b ∈ S.its := ok.al s hs
  have hlen : ((S.sh s).al.length : Int) ≤ S.last := ok.len hs
  obtain ⟨al, hale⟩ : ∃ al, al = (S.sh s).al := ⟨_, rfl⟩
  rw [← hale] at HR k0 hrow hal hlen
  have hlenN : al.length ≤ 9223372036854775807 := by omega
  have hs0 : (0 : Int) ≤ (s : Int) := Int.natCast_nonneg _
  have hs1 : (s : Int) < (n : Int) := by omega
  have H := hid h; have Hal := hid hal
  clear h ok hse hal hlen hl hk
  rcases Nat.eq_zero_or_pos al.length with hz | hz
  · have hz' : al = [] := List.eq_nil_of_length_eq_zero hz
    rw [hz] at k0
    rw [hz'] at HR
    clear hz hz' hrow hale
    go_enter Try.func87, Try.ntmps87
    go_wp2
    go_quiet ((go_at_call 37; exact Calls.quiet_of_same (Hsh.out _)))
    go_wp2
    go_loop [6] (fun v => v = .int .i64 0) (fun _ => 0)
    case atStart => rfl
    case round =>
      obtain rfl := hrel
      go_wp2
      exact HR.out _ _ ⟨rfl, _, rfl⟩
  obtain ⟨b, ea, lb, hcells⟩ := own_ptrs' hrow hz
  rw [ea] at k0
  have Hcells := hid hcells
  clear hrow hale ea hcells hz
  go_enter Try.func87, Try.ntmps87
  go_wp2
  go_quiet ((go_at_call 37; exact Calls.quiet_of_same (Hsh.out _)))
  go_wp2
  go_loopg [6] al.length (fun gk v6 wr => DFindRel w S key al gk v6 wr)
  case atStart => exact ⟨0, _, Nat.zero_le _, rfl, rfl, rfl, fun k _ h => absurd h (Nat.not_lt_zero k)⟩
  case round =>
    obtain ⟨j, m, hj, rfl, rfl, rfl, hno⟩ := hrel
    have Hno := hid hno
    clear hno
    by_cases hlt : j < al.length
    · have kb := Hcells.out j (by rw [List.length_map]; exact hlt) hlt
      rw [List.getElem_map] at kb
      have hx : al[j] ∈ al := List.getElem_mem hlt
      have hit := H.out.its _ (Hal.out _ hx)
      obtain ⟨x, hxe⟩ : ∃ x, x = al[j] := ⟨_, rfl⟩
      rw [← hxe] at kb hit
      have hj0 : (0 : Int) ≤ (j : Int) := Int.natCast_nonneg _
      have hj1 : (j : Int) < (al.length : Int) := by omega
      unfold DItAt itCells at hit
      have lit := Blk.lt hit
      have Hxe := hid hxe
      clear hx hxe
      cases hin : (S.it x).inn with
      | false =>
        rw [hin] at hit
        have Hh : Hid (hitB S key x = false) := hid (by unfold hitB; rw [hin]; rfl)
        clear hin
        go_wp2
        go_roundg (al.length - (j + 1))
        case measure => omega
        case rel =>
          refine ⟨j + 1, _, by omega, rfl, by go_num, rfl, fun k hk hkj => ?_⟩
          rcases Nat.lt_or_ge k j with h | h
          · exact Hno.out k hk h
          · obtain rfl : k = j := by omega
            rw [← Hxe.out]; exact Hh.out
      | true =>
        rw [hin] at hit
        by_cases hkk : (S.it x).key = key
        · have Hh : Hid (hitB S key x = true) := hid (by unfold hitB; rw [hin, hkk]; simp)
          rw [hkk] at hit
          clear hin hkk
          go_wp2
          refine HR.out _ _ ⟨?_, _, rfl⟩
          rw [find_at hlt (fun k hk hkj => Hno.out k hk hkj) (by rw [← Hxe.out]; exact Hh.out), ← Hxe.out]
          rfl
        · have Hh : Hid (hitB S key x = false) := hid (by unfold hitB; rw [hin]; simp [hkk])
          have htl : ((S.it x).key.toList == key.toList) = false := by
            rw [beq_eq_false_iff_ne]
            intro e
            rw [ByteArray.toList_eq, ByteArray.toList_eq] at e
            apply hkk
            cases hk1 : (S.it x).key with
            | mk d1 => cases hk2 : key with
              | mk d2 =>
                rw [hk1, hk2] at e
                exact congrArg _ (Array.toList_inj.1 e)
          clear hin hkk
          go_wp2
          go_roundg (al.length - (j + 1))
          case measure => omega
          case rel =>
            refine ⟨j + 1, _, by omega, rfl, by go_num, rfl, fun k hk hkj => ?_⟩
            rcases Nat.lt_or_ge k j with h | h
            · exact Hno.out k hk h
            · obtain rfl : k = j := by omega
              rw [← Hxe.out]; exact Hh.out
    · obtain rfl : j = al.length := by omega
      go_wp2
      refine HR.out _ _ ⟨?_, _, rfl⟩
      rw [find_no (fun k hk => Hno.out k hk hk)]
      rfl
end
end Go.Proofs.Ytbiaelaaihieeaa
/- Plain laws: what is in is known by its key, and how many are in. -/
namespace Go.Proofs.Ytbiaelaaihieeaa
theorem key_inj {l : List (ByteArray × Nat)} (h : (l.map (·.1)).Nodup) {k : ByteArray} {b c : Nat} (hb : (k, b) ∈ l) (hc : (k, c) ∈ l) : b = c := by
  induction l with
  | nil => cases hb
  | cons p l ih =>
    simp only [List.map_cons, List.nodup_cons] at h
    have hm : ∀ {d}, (k, d) ∈ l → k ∈ l.map (·.1) := fun hd => List.mem_map.2 ⟨_, hd, rfl⟩
    rcases List.mem_cons.1 hb with e1 | hb1
    · rcases List.mem_cons.1 hc with e | hc1
      · rw [← e1] at e; injection e with _ e; exact e.symm
      · rw [← e1] at h; exact absurd (hm hc1) h.1
    · rcases List.mem_cons.1 hc with e | hc1
      · rw [← e] at h; exact absurd (hm hb1) h.1
      · exact ih h.2 hb1 hc1
theorem out_nodup {l : List (ByteArray × Nat)} (h : (l.map (·.1)).Nodup) (k : ByteArray) : ((out l k).map (·.1)).Nodup := h.sublist (List.filter_sublist.map _)
/-- What is in stands under its key; keys stand once, entries too. -/
structure KOk (n : Nat) (S : CS) : Prop where
  nod : ∀ i, i < n → ((S.sh i).inm.map (·.1)).Nodup
  inv : ∀ i, i < n → ∀ b ∈ (S.sh i).al, (S.it b).inn = true → ((S.it b).key, b) ∈ (S.sh i).inm
  aln : Nod n S
section
variable {n : Nat} {S : CS}
theorem KOk.turn (k : KOk n S) {i : Nat} {T : Sh} {I : Nat → It} (h1 : (T.inm.map (·.1)).Nodup) (h2 : ∀ b ∈ T.al, (I b).inn = true → ((I b).key, b) ∈ T.inm) (h3 : T.al.Nodup)
    (h4 : ∀ c, (I c).inn = true → (S.it c).inn = true ∧ (I c).key = (S.it c).key) : KOk n (S.turn i T I) := by
  refine ⟨fun j hj => ?_, fun j hj b hb hi => ?_, k.aln.turn h3⟩
  · show ((putAt S.sh i T j).inm.map _).Nodup
    unfold putAt; split
    · exact h1
    · exact k.nod j hj
  · show ((I b).key, b) ∈ (putAt S.sh i T j).inm
    have hb : b ∈ (putAt S.sh i T j).al := hb
    unfold putAt at hb ⊢
    split at hb
    · rename_i e
      rw [if_pos e]; exact h2 b hb hi
    · rename_i e
      rw [if_neg e]
      obtain ⟨h5, h6⟩ := h4 b hi
      rw [h6]; exact k.inv j hj b hb h5
theorem off_inn {I : Nat → It} {b c : Nat} (h : (upd I b (I b).off c).inn = true) : c ≠ b ∧ upd I b (I b).off c = I c := by
  by_cases e : c = b
  · subst e; rw [upd_same] at h; cases h
  · exact ⟨e, upd_ne I _ e⟩
theorem KOk.drop (k : KOk n S) {i b : Nat} (hi : i < n) {T : Sh} (hs : T.al.Sublist (S.sh i).al) (hT : T.inm = (S.sh i).inm ∨ (T.inm = out (S.sh i).inm (S.it b).key ∧ ((S.it b).key, b) ∈ (S.sh i).inm)) : KOk n (S.turn i T (upd S.it b (S.it b).off)) := by
  refine k.turn ?_ (fun c hc hin => ?_) ((k.aln i hi).sublist hs) (fun c hc => by obtain ⟨_, e⟩ := off_inn hc; rw [e] at hc ⊢; exact ⟨hc, rfl⟩)
  · rcases hT with e | ⟨e, _⟩
    · rw [e]; exact k.nod i hi
    · rw [e]; exact out_nodup (k.nod i hi) _
  · obtain ⟨hne, e⟩ := off_inn hin
    rw [e] at hin ⊢
    have hm := k.inv i hi c (hs.subset hc) hin
    rcases hT with e2 | ⟨e2, hb⟩
    · rw [e2]; exact hm
    · rw [e2, mem_out]
      exact ⟨hm, fun ek => hne (by rw [show ((S.it c).key, c).1 = (S.it c).key from rfl] at ek; rw [ek] at hm; exact key_inj (k.nod i hi) hm hb)⟩
theorem less_sub (l : List Nat) (x : Nat) : (less l x).Sublist l := List.filter_sublist
theorem KOk.gone (k : KOk n S) {i b : Nat} (hi : i < n) (hb : b ∈ (S.sh i).al ∨ (S.it b).inn = false) : KOk n (S.goneAt i b) := by
  refine k.drop hi (less_sub _ _) ?_
  show (if (S.it b).inn = true then out (S.sh i).inm (S.it b).key else (S.sh i).inm) = _ ∨ _
  by_cases h : (S.it b).inn = true
  · rcases hb with hb | hb
    · refine .inr ⟨?_, k.inv i hi b hb h⟩
      show (if (S.it b).inn = true then out (S.sh i).inm (S.it b).key else (S.sh i).inm) = _
      rw [if_pos h]
    · rw [hb] at h; cases h
  · exact .inl (if_neg h)
theorem KOk.out (k : KOk n S) {i b : Nat} (hi : i < n) (hb : ((S.it b).key, b) ∈ (S.sh i).inm) : KOk n (S.outAt i b) := by
  by_cases hp : (S.it b).pins = 0
  · have e : (S.sh i).outOf b (S.it b) = _ := if_pos hp
    unfold CS.outAt
    rw [e]
    exact k.drop hi (less_sub _ _) (.inr ⟨rfl, hb⟩)
  · have e : (S.sh i).outOf b (S.it b) = _ := if_neg hp
    unfold CS.outAt
    rw [e]
    exact k.drop hi (List.Sublist.refl _) (.inr ⟨rfl, hb⟩)
theorem KOk.made {more room : Int} {T0 T : Sh} {I0 I : Nat → It} (h : Made more room T0 I0 T I) : ∀ {S : CS} {i : Nat}, i < n → COk n (S.turn i T0 I0) → KOk n (S.turn i T0 I0) → KOk n (S.turn i T I) := by
  induction h with
  | none => exact fun _ _ h => h
  | fits => exact fun _ _ h => h
  | @step T0 I0 b r T I hw _ _ ih =>
    intro S i hi ok kk
    have hb : b ∈ ((S.turn i T0 I0).sh i).wt := by rw [turn_sh, hw]; exact List.mem_cons_self ..
    have hk := ok.alk i hi b ((ok.ok i hi).sub b hb)
    have h1 := ok.gone hi hk (ok.w0 i hi b hb)
    have h2 := kk.gone (b := b) hi (.inl ((ok.ok i hi).sub b hb))
    rw [gone_turn] at h1 h2
    exact ih hi h1 h2
theorem KOk.madeAt (k : KOk n S) (ok : COk n S) {i : Nat} (hi : i < n) {more room : Int} {T : Sh} {I : Nat → It} (h : Made more room (S.sh i) S.it T I) : KOk n (S.turn i T I) :=
  KOk.made h hi (by rw [turn_self]; exact ok) (by rw [turn_self]; exact k)
theorem KOk.wt (k : KOk n S) {i : Nat} (hi : i < n) (l : List Nat) : KOk n (S.turn i { S.sh i with wt := l } S.it) :=
  k.turn (k.nod i hi) (k.inv i hi) (k.aln i hi) (fun _ h => ⟨h, rfl⟩)
theorem KOk.same {S' : CS} (k : KOk n S) (h1 : S'.sh = S.sh) (h2 : ∀ c, (S'.it c).inn = (S.it c).inn ∧ (S'.it c).key = (S.it c).key) : KOk n S' :=
  ⟨fun i hi => by rw [h1]; exact k.nod i hi, fun i hi b hb h => by rw [h1] at hb ⊢; rw [(h2 b).2]; exact k.inv i hi b hb (by rw [← (h2 b).1]; exact h), fun i hi => by rw [h1]; exact k.aln i hi⟩
theorem KOk.pinned (k : KOk n S) (b : Nat) : KOk n (S.pinned b) := k.same rfl (fun c => by
  show (upd S.it b _ c).inn = _ ∧ (upd S.it b _ c).key = _
  by_cases e : c = b
  · subst e; rw [upd_same]; exact ⟨rfl, rfl⟩
  · rw [upd_ne _ _ e]; exact ⟨rfl, rfl⟩)
theorem KOk.unpinned (k : KOk n S) (p : Int) (b : Nat) : KOk n (S.unpinned p b) := k.same rfl (fun c => by
  show (upd S.it b _ c).inn = _ ∧ (upd S.it b _ c).key = _
  by_cases e : c = b
  · subst e; rw [upd_same]; exact ⟨rfl, rfl⟩
  · rw [upd_ne _ _ e]; exact ⟨rfl, rfl⟩)
theorem KOk.room (k : KOk n S) (r : Int) : KOk n { S with room := r } := k.same rfl (fun _ => ⟨rfl, rfl⟩)
theorem KOk.added (k : KOk n S) {i nb : Nat} (hi : i < n) {a : It} (ha : ∀ j, j < n → ∀ c ∈ (S.sh j).al, c ∈ S.its) (hn : nb ∉ S.its) (hk : ∀ p ∈ (S.sh i).inm, p.1 ≠ a.key) : KOk n (S.added i nb a) := by
  have hne : ∀ j, j < n → ∀ c ∈ (S.sh j).al, c ≠ nb := fun j hj c hc e => hn (by rw [← e]; exact ha j hj c hc)
  refine ⟨fun j hj => ?_, fun j hj c hc hin => ?_, fun j hj => ?_⟩
  · show ((putAt S.sh i _ j).inm.map _).Nodup
    unfold putAt; split
    · show (((S.sh i).inm ++ [(a.key, nb)]).map (·.1)).Nodup
      rw [List.map_append, List.nodup_append]
      refine ⟨k.nod i hi, by simp, fun x hx y hy => ?_⟩
      obtain ⟨p, hp, rfl⟩ := List.mem_map.1 hx
      obtain rfl : y = a.key := by simpa using hy
      exact hk p hp
    · exact k.nod j hj
  · have hc : c ∈ (putAt S.sh i _ j).al := hc
    have hin : (upd S.it nb a c).inn = true := hin
    show ((upd S.it nb a c).key, c) ∈ (putAt S.sh i _ j).inm
    unfold putAt at hc ⊢
    split at hc
    · rename_i e
      rw [if_pos e]
      have hc : c ∈ (S.sh i).al ++ [nb] := hc
      show ((upd S.it nb a c).key, c) ∈ (S.sh i).inm ++ [(a.key, nb)]
      rcases List.mem_append.1 hc with hc | hc
      · rw [upd_ne _ _ (hne i hi c hc)] at hin ⊢
        exact List.mem_append_left _ (k.inv i hi c hc hin)
      · obtain rfl : c = nb := by simpa using hc
        rw [upd_same]
        exact List.mem_append_right _ (by simp)
    · rename_i e
      rw [if_neg e]
      rw [upd_ne _ _ (hne j hj c hc)] at hin ⊢
      exact k.inv j hj c hc hin
  · show (putAt S.sh i _ j).al.Nodup
    unfold putAt; split
    · show ((S.sh i).al ++ [nb]).Nodup
      rw [List.nodup_append]
      refine ⟨k.aln i hi, by simp, fun x hx y hy => ?_⟩
      obtain rfl : y = nb := by simpa using hy
      exact hne i hi x hx
    · exact k.aln j hj
/-- What the document finds is what the program finds. -/
theorem fnd_look (ok : COk n S) (k : KOk n S) {i : Nat} (hi : i < n) (key : ByteArray) : S.fnd i key = look (S.sh i).inm key := by
  unfold CS.fnd
  cases hl : look (S.sh i).inm key with
  | some b =>
    have hm := look_some hl
    obtain ⟨h1, h2, h3⟩ := ok.inm i hi _ hm
    cases hf : (S.sh i).al.find? (hitB S key) with
    | none =>
      have := List.find?_eq_none.1 hf b h1
      exfalso; apply this
      unfold hitB; rw [h3, h2]; simp
    | some c =>
      have hc := List.find?_some hf
      have hcm := List.mem_of_find?_eq_some hf
      unfold hitB at hc
      rw [Bool.and_eq_true, decide_eq_true_eq] at hc
      have := k.inv i hi c hcm hc.1
      rw [hc.2] at this
      rw [key_inj (k.nod i hi) this hm]
  | none =>
    rw [List.find?_eq_none]
    intro c hc hh
    unfold hitB at hh
    rw [Bool.and_eq_true, decide_eq_true_eq] at hh
    have := k.inv i hi c hc hh.1
    exact look_none hl _ this hh.2
/-- As many are in as stand under keys. -/
theorem inn_count (ok : COk n S) (k : KOk n S) {i : Nat} (hi : i < n) : ((S.sh i).al.filter fun b => (S.it b).inn).length = (S.sh i).inm.length := by
  have h1 : (((S.sh i).inm.map (·.2))).Nodup := by
    have hk := k.nod i hi
    have hin := ok.inm i hi
    revert hk hin
    generalize (S.sh i).inm = l
    intro hk hin
    induction l with
    | nil => simp
    | cons p l ih =>
      simp only [List.map_cons, List.nodup_cons] at hk ⊢
      refine ⟨fun hm => ?_, ih hk.2 (fun q hq => hin q (List.mem_cons_of_mem _ hq))⟩
      obtain ⟨q, hq, e⟩ := List.mem_map.1 hm
      have e1 := (hin p (List.mem_cons_self ..)).2.1
      have e2 := (hin q (List.mem_cons_of_mem _ hq)).2.1
      rw [e] at e2
      exact hk.1 (List.mem_map.2 ⟨q, hq, by rw [← e1, ← e2]⟩)
  have h2 : ((S.sh i).al.filter fun b => (S.it b).inn).Nodup := (k.aln i hi).sublist List.filter_sublist
  have a := nodup_len h1 (l' := (S.sh i).al.filter fun b => (S.it b).inn) (fun y hy => by
    obtain ⟨p, hp, rfl⟩ := List.mem_map.1 hy
    obtain ⟨q1, _, q3⟩ := ok.inm i hi p hp
    exact List.mem_filter.2 ⟨q1, q3⟩)
  have b := nodup_len h2 (l' := (S.sh i).inm.map (·.2)) (fun y hy => by
    obtain ⟨q1, q3⟩ := List.mem_filter.1 hy
    exact List.mem_map.2 ⟨_, k.inv i hi y q1 q3, rfl⟩)
  rw [List.length_map] at a b
  omega
end
end Go.Proofs.Ytbiaelaaihieeaa
