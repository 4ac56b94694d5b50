/- CacheActs, parts T1, E1, E2, E3, E5: what the document's cache does, in one memory with the program's. -/
import Derived.StillTailTactics
import Derived.Deep.RegionHeld3
import Derived.Test.YtbiaelaaihieeaaC6
import Derived.Test.YtbiaelaaihieeaaC12
import Derived.Deep.Onto
set_option linter.unusedVariables false
set_option linter.unusedSimpArgs false
set_option maxRecDepth 100000
/- A region that draws its order: a condition on the world holds till a named store has come; whatever the first store waits for may be taken first. -/
namespace Go.Proofs.Ytbiaelaaihieeaa

section
variable {P : Program} {ops : Array Oper} {Q : Exit → Act → World → Prop} {md : Region.Mode} {S : World → Prop} {t : Nat}

/-- Whatever order is picked; as long as operation t has not come, S holds behind each one. -/
def wpAnyG (P : Program) (md : Region.Mode) (ops : Array Oper) (Q : Exit → Act → World → Prop) (S : World → Prop) (t : Nat) : Nat → Array Bool → Act → World → Prop
  | 0, listed, a, w => Region.ready md ops listed = [] ∧ Q .normal a w
  | fuel + 1, listed, a, w =>
    (Region.ready md ops listed = [] → Q .normal a w) ∧
    ∀ i ∈ Region.ready md ops listed, wpOp P ops Q i (fun a' w' => ((listed.setIfInBounds i true).getD t false = false → S w') ∧ wpAnyG P md ops Q S t fuel (listed.setIfInBounds i true) a' w') a w

theorem wpAny_of_G : ∀ (fuel : Nat) (listed : Array Bool) (a : Act) (w : World), wpAnyG P md ops Q S t fuel listed a w → wpAny P md ops Q fuel listed a w
  | 0, _, _, _, h => h
  | fuel + 1, _, _, _, h => ⟨h.1, fun i hi => wpOp_mono (fun a' w' h' => wpAny_of_G fuel _ a' w' h'.2) (h.2 i hi)⟩

/-- What has come up has come up behind what it waits for. -/
structure ClosedIn (md : Region.Mode) (ops : Array Oper) (listed : Array Bool) : Prop where
  size : listed.size = ops.size
  closed : ∀ j oj, ops[j]? = some oj → listed.getD j false = true → ∀ e ∈ oj.after, Region.binds md e = true → listed.getD e.on false = true
theorem ClosedIn.set {i : Nat} {listed : Array Bool} (inv : ClosedIn md ops listed) (hi : i ∈ Region.ready md ops listed) : ClosedIn md ops (listed.setIfInBounds i true) := by
  obtain ⟨_, oi, hoi, hall⟩ := mem_ready.1 hi
  refine ⟨by simp [inv.size], fun j oj hj hl e he hb => ?_⟩
  by_cases hij : i = j
  · subst hij
    have : oj = oi := Option.some.inj (hj.symm.trans hoi)
    subst this
    exact getD_set_true (hall e he hb)
  · rw [getD_set_ne false hij] at hl
    exact getD_set_true (inv.closed j oj hj hl e he hb)
/-- All but those of ex that stand ahead of t are waited for by t. -/
def sinkX (md : Region.Mode) (ops : Array Oper) (t : Nat) (ex : List Nat) : Bool :=
  (List.range t).all fun i => ex.contains i || (List.range (t + 1)).any fun j => decide (i < j) && !ex.contains j && Region.waitsFor md ops j i
theorem sink_waits {ex : List Nat} {listed : Array Bool} (hs : sinkX md ops t ex = true) (ht : t < ops.size) (inv : ClosedIn md ops listed) :
    ∀ (d i : Nat), t - i = d → i < t → ex.contains i = false → listed.getD i true = false → t ∉ Region.ready md ops listed ∧ listed.getD t false = false := by
  intro d
  induction d using Nat.strongRecOn with
  | _ d ih =>
    intro i hd hi hx hun
    have h1 := List.all_eq_true.1 hs i (List.mem_range.2 hi)
    rw [hx, Bool.false_or] at h1
    obtain ⟨j, hj, hj2⟩ := List.any_eq_true.1 h1
    simp only [Bool.and_eq_true, decide_eq_true_eq, Bool.not_eq_true'] at hj2
    obtain ⟨⟨hij, hjx⟩, hw⟩ := hj2
    obtain ⟨oj, hoj, e, he, hb, hon⟩ := Region.waitsFor_spec hw
    have hjle : j ≤ t := by have := List.mem_range.1 hj; omega
    have hjl : listed.getD j false = false := by
      cases hl : listed.getD j false with
      | false => rfl
      | true =>
        have h2 := inv.closed j oj hoj hl e he hb
        rw [hon, getD_both hun] at h2
        cases h2
    by_cases hjt : j = t
    · subst hjt
      refine ⟨fun hr => ?_, hjl⟩
      obtain ⟨_, o', ho', hall⟩ := mem_ready.1 hr
      have : o' = oj := Option.some.inj (ho'.symm.trans hoj)
      subst this
      have h2 := hall e he hb
      rw [hon, getD_both hun] at h2
      cases h2
    · have hjs : j < listed.size := by rw [inv.size]; omega
      exact ih (t - j) (by omega) j rfl (by omega) hjx (getD_in hjs hjl)

theorem wpAnyG_first {i : Nat} {oi : Oper} {v : Value} {S' : World → Prop} (hi : ops[i]? = some oi) (hsel : ∀ (j : Nat) (o : Oper) cs b, ops[j]? = some o → o.op ≠ .select cs b)
    (hQ : ∀ c a w, Q (.panic c) (a.put oi.dst v) w → Q (.panic c) a w) (hit : i ≠ t)
    (hS' : ∀ listed w, ClosedIn md ops listed → listed.getD i true = false → (listed.getD t false = false → S w) → S' w) :
    ∀ (fuel : Nat) (listed : Array Bool) (a : Act) (w : World), ClosedIn md ops listed →
      (∀ j oj, ops[j]? = some oj → j ≠ i → listed.getD j true = false → (∀ e ∈ oj.after, Region.binds md e = true → e.on ≠ i) → oi.apart ops oj = true) →
      i ∈ Region.ready md ops listed → YieldsIf P ops S' oi v a → (listed.getD t false = false → S w) →
      wpAnyG P md ops Q S t fuel (listed.setIfInBounds i true) (a.put oi.dst v) w → wpAnyG P md ops Q S t (fuel + 1) listed a w := by
  intro fuel
  induction fuel with
  | zero =>
    intro listed a w inv _ hr hy hS H
    refine ⟨fun h => (by rw [h] at hr; cases hr), fun j hj => ?_⟩
    by_cases hji : j = i
    · subst hji; exact hy.wpOp hi (hS' listed w inv (mem_ready.1 hr).1 hS) ⟨fun h => hS (by rw [getD_set_ne false hit] at h; exact h), H⟩
    · have := ready_mono hj hji
      rw [H.1] at this
      cases this
  | succ fuel ih =>
    intro listed a w inv hfree hr hy hS H
    refine ⟨fun h => (by rw [h] at hr; cases hr), fun j hj => ?_⟩
    by_cases hji : j = i
    · subst hji; exact hy.wpOp hi (hS' listed w inv (mem_ready.1 hr).1 hS) ⟨fun h => hS (by rw [getD_set_ne false hit] at h; exact h), H⟩
    · have h1 := H.2 j (ready_mono hj hji)
      obtain ⟨hjun, oj, hoj, hall⟩ := mem_ready.1 hj
      have hun := (mem_ready.1 hr).1
      have hnot : ∀ e ∈ oj.after, Region.binds md e = true → e.on ≠ i := fun e he hb heq => by
        have h1 := hall e he hb
        rw [heq, getD_both hun] at h1
        cases h1
      have h2 := wpOp_putIf hoj (hfree j oj hoj hji hjun hnot) (fun cs b => hsel i oi cs b hi) (fun cs b => hsel j oj cs b hoj) hQ hy h1
      have hfree' : ∀ k ok, ops[k]? = some ok → k ≠ i → (listed.setIfInBounds j true).getD k true = false →
          (∀ e ∈ ok.after, Region.binds md e = true → e.on ≠ i) → oi.apart ops ok = true := fun k ok hk hki hun hno => by
        refine hfree k ok hk hki ?_ hno
        by_cases hjk : j = k
        · subst hjk; exact hjun
        · rw [getD_set_ne true hjk] at hun; exact hun
      refine wpOp_mono (fun a' w' h3 => ?_) h2
      have hSw : (listed.setIfInBounds j true).getD t false = false → S w' := fun h => h3.2.1 (by
        rw [Array.setIfInBounds_comm _ _ (Ne.symm hji), getD_set_ne false hit]; exact h)
      refine ⟨hSw, ih (listed.setIfInBounds j true) a' w' (inv.set hj) hfree' (ready_mono hr (Ne.symm hji)) h3.1 hSw ?_⟩
      rw [Array.setIfInBounds_comm _ _ hji]
      exact h3.2.2

def tailB (md : Region.Mode) (ops : Array Oper) (t : Nat) (ex : List Nat) : Bool := Region.noSelect ops && sinkX md ops t ex && decide (t < ops.size)
def takeB (md : Region.Mode) (ops : Array Oper) (t : Nat) (ex : List Nat) (i : Nat) (listed : Array Bool) : Bool := decide (i < t) && !ex.contains i && Region.free md ops listed i && (Region.ready md ops listed).contains i
def pureB (md : Region.Mode) (ops : Array Oper) (t : Nat) (i : Nat) (listed : Array Bool) : Bool := decide (i ≠ t) && Region.free md ops listed i && (Region.ready md ops listed).contains i
/-- The walk through the region. -/
def GoT (P : Program) (md : Region.Mode) (ops : Array Oper) (Q : Exit → Act → World → Prop) (S : World → Prop) (t : Nat) (ex : List Nat) (f : Nat) (listed : Array Bool) (a : Act) (w : World) : Prop :=
  tailB md ops t ex = true → ClosedIn md ops listed → (listed.getD t false = false → S w) → wpAnyG P md ops Q S t f listed a w

/-- Operation i is taken first: what it yields hangs on S alone. -/
theorem GoT.take (i : Nat) {ex : List Nat} {f : Nat} {oi : Oper} {v : Value} {listed : Array Bool} {a : Act} {w : World} (hi : ops[i]? = some oi) (hB : takeB md ops t ex i listed = true)
    (hQ : ∀ c a w, Q (.panic c) (a.put oi.dst v) w → Q (.panic c) a w) (hy : YieldsIf P ops S oi v a)
    (h : GoT P md ops Q S t ex f (listed.setIfInBounds i true) (a.put oi.dst v) w) : GoT P md ops Q S t ex (f + 1) listed a w := fun ht inv hS => by
  have ht' := ht
  simp only [tailB, Bool.and_eq_true, decide_eq_true_eq] at ht
  obtain ⟨⟨t1, t2⟩, t4⟩ := ht
  simp only [takeB, Bool.and_eq_true, decide_eq_true_eq, Bool.not_eq_true'] at hB
  obtain ⟨⟨⟨b1, b0⟩, b2⟩, b3⟩ := hB
  have hr : i ∈ Region.ready md ops listed := by simpa using b3
  have hit : i ≠ t := by omega
  refine wpAnyG_first (S' := S) hi (Region.noSelect_spec t1) hQ hit (fun l u hl hu hs => hs (sink_waits t2 t4 hl _ i rfl b1 b0 hu).2) f listed a w inv (Region.free_spec hi b2) hr hy hS (h ht' (inv.set hr) (fun hh => hS ?_))
  rw [getD_set_ne false hit] at hh
  exact hh
/-- Operation i is taken first: it asks no memory. -/
theorem GoT.pure (i : Nat) {ex : List Nat} {f : Nat} {oi : Oper} {v : Value} {listed : Array Bool} {a : Act} {w : World} (hi : ops[i]? = some oi) (hB : pureB md ops t i listed = true)
    (hQ : ∀ c a w, Q (.panic c) (a.put oi.dst v) w → Q (.panic c) a w) (hy : YieldsIf P ops (fun _ => True) oi v a)
    (h : GoT P md ops Q S t ex f (listed.setIfInBounds i true) (a.put oi.dst v) w) : GoT P md ops Q S t ex (f + 1) listed a w := fun ht inv hS => by
  have ht' := ht
  simp only [tailB, Bool.and_eq_true, decide_eq_true_eq] at ht
  obtain ⟨⟨t1, t2⟩, t4⟩ := ht
  simp only [pureB, Bool.and_eq_true, decide_eq_true_eq] at hB
  obtain ⟨⟨hit, b2⟩, b3⟩ := hB
  have hr : i ∈ Region.ready md ops listed := by simpa using b3
  refine wpAnyG_first (S' := fun _ => True) hi (Region.noSelect_spec t1) hQ hit (fun _ _ _ _ _ => trivial) f listed a w inv (Region.free_spec hi b2) hr hy hS (h ht' (inv.set hr) (fun hh => hS ?_))
  rw [getD_set_ne false hit] at hh
  exact hh
theorem GoT.done {ex : List Nat} {listed : Array Bool} {a : Act} {w : World} (hr : Region.ready md ops listed = []) (h : Q .normal a w) : ∀ f, GoT P md ops Q S t ex f listed a w
  | 0 => fun _ _ _ => ⟨hr, h⟩
  | _ + 1 => fun _ _ _ => ⟨fun _ => h, by rw [hr]; simp⟩
/-- Each of the operations rs comes up next. -/
def AllT (P : Program) (md : Region.Mode) (ops : Array Oper) (Q : Exit → Act → World → Prop) (S : World → Prop) (t : Nat) (ex : List Nat) (f : Nat) (listed : Array Bool) (a : Act) (w : World) (rs : List Nat) : Prop :=
  ∀ i ∈ rs, wpOp P ops Q i (fun a' w' => ((listed.setIfInBounds i true).getD t false = false → S w') ∧ GoT P md ops Q S t ex f (listed.setIfInBounds i true) a' w') a w
theorem AllT.nil {ex : List Nat} {f : Nat} {listed : Array Bool} {a : Act} {w : World} : AllT P md ops Q S t ex f listed a w [] := fun _ h => by cases h
theorem AllT.cons {ex : List Nat} {f i : Nat} {listed : Array Bool} {a : Act} {w : World} {o : Oper} {rs : List Nat} (ho : ops[i]? = some o)
    (h : ∀ K' : Act → World → Prop, Shut (∀ a w, ((listed.setIfInBounds i true).getD t false = false → S w) → GoT P md ops Q S t ex f (listed.setIfInBounds i true) a w → K' a w) → if Region.wanted o (yielded ops a.tmps) = true then Oper.wp P o a w K' Q else K' (a.put o.dst undef) w)
    (hs : AllT P md ops Q S t ex f listed a w rs) : AllT P md ops Q S t ex f listed a w (i :: rs) := fun j hj => by
  rcases List.mem_cons.1 hj with rfl | hj
  · exact wpOp_step ho (fun K' hK => h K' (fun a w hS hW => hK a w ⟨hS, hW⟩))
  · exact hs j hj
theorem GoT.all {ex : List Nat} {f : Nat} (rs : List Nat) {listed : Array Bool} {a : Act} {w : World} (hr : Region.ready md ops listed = rs) (hne : rs.isEmpty = false)
    (h : AllT P md ops Q S t ex f listed a w rs) : GoT P md ops Q S t ex (f + 1) listed a w := fun ht inv hS => by
  refine ⟨fun h0 => ?_, fun i hi => ?_⟩
  · rw [hr] at h0; rw [h0] at hne; simp at hne
  · have hi' := hi
    rw [hr] at hi
    exact wpOp_mono (fun a' w' h' => ⟨h'.1, h'.2 ht (inv.set hi') h'.1⟩) (h i hi)
end

/-- The beginning: t is the first store; ex those ahead of it that it does not wait for. -/
theorem wp_region_T {P : Program} {Q : Exit → Act → World → Prop} (S : World → Prop) (t : Nat) (ex : List Nat) {id : Nat} {a : Act} {w : World} {l : List Oper} (hm : P.follows .mixedOrders = true) (ht : tailB .any l.toArray t ex = true) (hS : S w.drew)
    (h : GoT P .any l.toArray Q S t ex l.length (Array.replicate l.length false) a w.drew) : (Code.region id l.toArray true).wp P Q a w := by
  have inv0 : ClosedIn .any l.toArray (Array.replicate l.length false) :=
    ⟨by simp, fun j oj _ hl => (by rw [getD_replicate_false] at hl; cases hl)⟩
  have H := h ht inv0 (fun _ => hS)
  refine wp_region_any hm ?_
  have := wpAny_of_G _ _ _ _ H
  simpa using this
end Go.Proofs.Ytbiaelaaihieeaa
/- The document's cache: plus, without, Shard. -/
namespace Go.Proofs.Ytbiaelaaihieeaa
open Go.RowKit

theorem dplus_any (a b : Int) (w : World) (ha : 0 ≤ a ∧ a ≤ 18446744073709551615) (hb : 0 ≤ b ∧ b ≤ 18446744073709551615) :
    Calls Try.prog 85 #[.int .u64 a, .int .u64 b] w fun e w' => e = .returned (.int .u64 (addTop a b)) ∧ w' = w := by
  refine calls_of fun R HR => ?_
  by_cases h : a + b ≤ 18446744073709551615
  · have hw : IntKind.u64.wrap (a + b) = a + b := by unfold IntKind.wrap; simp [IntKind.bits, IntKind.signed]; omega
    have hlt : ¬ a + b < a := by omega
    go_enter Try.func85, Try.ntmps85
    go_wp2
    refine HR.out _ _ ⟨?_, rfl⟩
    have : addTop a b = a + b := by unfold addTop; split <;> omega
    rw [this]
  · have hw : IntKind.u64.wrap (a + b) = a + b - 18446744073709551616 := by unfold IntKind.wrap; simp [IntKind.bits, IntKind.signed]; omega
    have hlt : a + b - 18446744073709551616 < a := by omega
    go_enter Try.func85, Try.ntmps85
    go_wp2
    refine HR.out _ _ ⟨?_, rfl⟩
    have : addTop a b = 18446744073709551615 := by unfold addTop; split <;> omega
    rw [this]
/-- Block b is an entry of the document's. -/
def IsD (w : World) (b : Nat) : Prop := ∃ c, blkOf w b = some (.cells c 133 (0, 0))
theorem IsD.c {w : World} {b : Nat} (h : IsD w b) : IsC w b := by obtain ⟨c, h⟩ := h; exact ⟨c, _, h⟩
theorem Try.info133 : (Try.prog.info? 133).map (fun i => i.size) = some 5 := by kernel_rfl
theorem info133 : ∃ i, Try.prog.info? 133 = some i ∧ i.size ≠ 0 := by
  have := Try.info133
  cases h : Try.prog.info? 133 with
  | none => rw [h] at this; cases this
  | some i => rw [h] at this; simp only [Option.map_some, Option.some.injEq] at this; exact ⟨i, rfl, by omega⟩
theorem neq_ptr {w : World} {y x : Nat} (hy : IsC w y) (hx : IsC w x) : (binOp .neq 134 (.pointer (some ⟨y, 0, none⟩)) (.pointer (some ⟨x, 0, none⟩))).run Try.prog w = .ok (.bool (decide (y ≠ x))) w := by
  obtain ⟨i, hi, hs⟩ := info133
  by_cases h : y = x
  · subst h
    have hh : ∀ d : Nat, (Op.equalIn (d + 1) 134 (.pointer (some ⟨y, 0, none⟩)) (.pointer (some ⟨y, 0, none⟩))).run Try.prog w = .ok true w := fun d => by
      simp [Op.equalIn, run_underlying Try.underlying134, sizeOf, typeInfo, hi, run_sameAddr_same]
    simp only [binOp]
    simp [Op.equal, Op.maxDepth, hh 9999]
  · obtain ⟨cy, ty, hy⟩ := hy
    obtain ⟨cx, tx, hx⟩ := hx
    have hne : (⟨y, 0, none⟩ : Addr) ≠ ⟨x, 0, none⟩ := fun e => h (by injection e)
    have hh : ∀ d : Nat, (Op.equalIn (d + 1) 134 (.pointer (some ⟨y, 0, none⟩)) (.pointer (some ⟨x, 0, none⟩))).run Try.prog w = .ok false w := fun d => by
      simp [Op.equalIn, run_underlying Try.underlying134, sizeOf, typeInfo, hi, hs, run_sameAddr_other w hne hy hx]
    simp only [binOp]
    simp [Op.equal, Op.maxDepth, hh 9999, h]
/-- A row that is fresh or empty. -/
def NewRow (B : Nat) (w : World) (A : Option Addr) : Prop := ∀ b, (Value.slice A 0 0).ownBlock = some b → B ≤ b ∧ b < w.heap.size
def WithoutRel (w : World) (l : List Nat) (x : Nat) (gk : Nat) (v5 v6 : Value) (wr : World) : Prop :=
  ∃ (j : Nat) (A : Option Addr) (c : Nat), j ≤ l.length ∧ gk = l.length - j ∧ v5 = .slice A (less (l.take j) x).length c ∧ v6 = .int .i64 j ∧ wr.ownsRow w.heap.size 134 1 (.slice A (less (l.take j) x).length c) (less (l.take j) x).length (ptrs (less (l.take j) x)) ∧ Below w.heap.size w wr
theorem Try.info134c : (Try.prog.info? 134).map (fun i => (i.zero, i.size, i.bytes)) = some (some (.pointer none), 1, 8) := by kernel_rfl
theorem keys_below' {w wo w5 : World} {e : TypeId} {A : Option Addr} {j c : Nat} {xs : List Value} {ob : Obj} (hown : wo.ownsRow w.heap.size e 1 (.slice A j c) j xs) (hbl : Below w.heap.size w wo) (hg : (wo.alloc ob).grownBy w5 (Value.slice A j c).ownBlock) : Below w.heap.size w w5 := by
  have hc : Chg (fun k => (Value.slice A j c).ownBlock = some k) (wo.alloc ob) w5 := Chg.grown (F := fun k => (Value.slice A j c).ownBlock = some k) (Chg.refl _ _) hg (fun k hk _ => hk)
  have hs := hbl.size
  refine (bl_alloc hbl ob).trans (hc.to_below (by rw [World.size_alloc]; omega) (fun k hk hf => ?_))
  have := (hown.lt k hf).1
  omega
set_option maxHeartbeats 1600000 in
theorem dwithout_any (A : Option Addr) (c : Nat) (l : List Nat) (x : Nat) (w : World) (hr : Rd w w.heap.size 1 A l.length (ptrs l)) (hl : ∀ y ∈ l, IsD w y) (hx : IsD w x) (hn : l.length ≤ 8796093022000) :
    Calls Try.prog 90 #[.slice A l.length c, .pointer (some ⟨x, 0, none⟩)] w fun e w' => ∃ A' c', e = .returned (.slice A' (less l x).length c') ∧ w'.ownsRow w.heap.size 134 1 (.slice A' (less l x).length c') (less l x).length (ptrs (less l x)) ∧ Below w.heap.size w w' := by
  refine calls_of fun R HR => ?_
  have Hr := hid hr; have Hl := hid hl; have Hx := hid hx; have HN := hid hn
  have hn2 : l.length ≤ 9223372036854775807 := by omega
  clear hr hl hx hn
  go_enter Try.func90, Try.ntmps90
  go_wp2
  go_loopg [5, 6] l.length (fun gk v5 v6 wr => WithoutRel w l x gk v5 v6 wr)
  case atStart =>
    refine ⟨0, some ⟨w.heap.size, 0, none⟩, 0, Nat.zero_le _, rfl, rfl, rfl, ?_, bl_alloc (Below.refl _ _) _⟩
    exact World.ownsRow_made w #[] 0 (by omega) (by simp [maxLen]) (by simp)
  case round =>
    obtain ⟨j, A2, c2, hj, rfl, rfl, rfl, hown, hbl⟩ := hrel
    obtain ⟨wo, hwo⟩ : ∃ wo : World, wo = wr := ⟨_, rfl⟩
    subst hwo
    have Hown := hid hown
    have Hbl := hid hbl
    clear hown hbl
    by_cases hlt : j < l.length
    · obtain ⟨b, o, hl2, rfl, lb, kb⟩ := ptr_at (Hr.out) hlt
      have kb2 : (blkOf wo b).bind (cellAt (o + j)) = some (.pointer (some ⟨l[j], 0, none⟩)) := by rw [bl_at Hbl.out b lb]; exact kb
      obtain ⟨y, hy⟩ : ∃ y, y = l[j] := ⟨_, rfl⟩
      have hyd : IsD wo y := by
        obtain ⟨cy, h⟩ := Hl.out y (by rw [hy]; exact List.getElem_mem hl2)
        exact ⟨cy, (bl_at Hbl.out y (Blk.lt h)).trans h⟩
      have hxd : IsD wo x := by
        obtain ⟨cx, h⟩ := Hx.out
        exact ⟨cx, (bl_at Hbl.out x (Blk.lt h)).trans h⟩
      have hneq := neq_ptr hyd.c hxd.c
      have htk := less_take (x := x) hlt
      rw [← hy] at kb2 htk
      have hj0 : (0 : Int) ≤ (j : Int) := Int.natCast_nonneg _
      have hj1 : (j : Int) < (l.length : Int) := by omega
      have hln : (less (l.take j) x).length ≤ j := Nat.le_trans (less_le _ _) (by rw [List.length_take]; omega)
      obtain ⟨i9, hi9, hz0, hz1, hz2⟩ := info_parts Try.info134c
      have Htk := hid htk
      have Hln := hid hln
      clear kb hyd hxd hy htk hln
      by_cases hyx : y = x
      · subst hyx
        rw [decide_eq_false (by simp)] at hneq
        go_wp2
        go_roundg (l.length - (j + 1))
        case measure => omega
        case rel =>
          have ht := Htk.out
          simp only [if_true, List.append_nil] at ht
          exact ⟨j + 1, A2, c2, by omega, rfl, by rw [ht], by go_num, by rw [ht]; exact Hown.out, Hbl.out⟩
      · rw [decide_eq_true hyx] at hneq
        go_wp2_with (at_builtin; refine wpList_append_rd _ rfl (.tmp 20) (.tmp 25) _ rfl w.heap.size 134 i9 _ 1 8 Try.underlying127 hi9 hz0 hz1 hz2 rfl (by decide) (.slice A2 (less (l.take j) x).length c2) (less (l.take j) x).length (ptrs (less (l.take j) x)) rfl ?ho (wo.heap.size + 1) (some ⟨wo.heap.size, 0, none⟩) 1 1 [.pointer (some ⟨y, 0, none⟩)] rfl ?hr ?h1 ?h63 ?hb ?hbase ?hk; case' hk => (intro v2 w5 hown5 hg5 hat5; obtain ⟨A3, c3, rfl, _⟩ := own_shape hown5; have Hown5 := hid hown5; have Hg5 := hid hg5; clear hown5 hg5 hat5))
        case ho => exact Hown.out.alloc _
        case hr => exact rd_new wo 134 1 1 [.pointer (some ⟨y, 0, none⟩)] rfl
        case h1 => simp [Value.oneCell']
        case h63 => have := HN.out; have := Hln.out; simp only [maxLen]; omega
        case hb => have := HN.out; have := Hln.out; omega
        case hbase => have := Hbl.out.size; simp; omega
        go_roundg (l.length - (j + 1))
        case measure => omega
        case rel =>
          have ht := Htk.out
          rw [if_neg hyx] at ht
          have he : (less (l.take (j + 1)) x).length = (less (l.take j) x).length + 1 := by rw [ht]; simp
          refine ⟨j + 1, A3, c3, by omega, rfl, by rw [he], by go_num, ?_, keys_below' Hown.out Hbl.out Hg5.out⟩
          rw [he, ht]
          have := Hown5.out
          simpa [ptrs] using this
    · obtain rfl : j = l.length := by omega
      go_wp2
      refine HR.out _ _ ⟨A2, c2, ?_, ?_, Hbl.out⟩
      · rw [List.take_of_length_le (Nat.le_refl _)]; rfl
      · have := Hown.out
        rw [List.take_of_length_le (Nat.le_refl _)] at this
        exact this
def DHashRel (w1 : World) (key : ByteArray) (gk : Nat) (v5 v6 : Value) (wr : World) : Prop :=
  ∃ i : Nat, i ≤ key.size ∧ gk = key.size - i ∧ v6 = .int .i64 i ∧ v5 = .int .u32 (hashOf (key.data.toList.take i)) ∧ wr = w1
set_option maxHeartbeats 1600000 in
theorem dshard_any (g : Nat) (key : ByteArray) (n : Nat) (cs : Array Value) (w : World) (hb : blkOf w g = some (.cells cs 129 (0, 0))) (hc : cs[0]? = some (.int .i64 n))
    (h0 : 0 < n) (h1 : n ≤ 64) (hk : key.size ≤ maxLen) :
    Calls Try.prog 37 #[.pointer (some ⟨g, 0, none⟩), .string key] w fun e w' => e = .returned (.int .i64 (sidx n key)) ∧ w' = w := by
  refine calls_of fun R HR => ?_
  have lg := Blk.lt hb
  have e1 : (blkOf w g).bind (cellAt 0) = some (.int .i64 n) := by rw [hb]; exact hc
  clear hb hc
  simp only [maxLen] at hk
  go_enter Try.func37, Try.ntmps37
  go_wp2
  go_loopg [5, 6] key.size (fun gk v5 v6 wr => DHashRel w key gk v5 v6 wr)
  case atStart => exact ⟨0, Nat.zero_le _, rfl, rfl, rfl, rfl⟩
  case round =>
    obtain ⟨i, hi, rfl, rfl, rfl, rfl⟩ := hrel
    obtain ⟨h, hh⟩ : ∃ h, h = hashOf (key.data.toList.take i) := ⟨_, rfl⟩
    have hr := hash_range (key.data.toList.take i)
    rw [← hh] at hr ⊢
    have Hh := hid hh
    clear hh
    have hi0 : (0 : Int) ≤ (i : Int) := Int.natCast_nonneg _
    by_cases hlt : i < key.size
    · have hi1 : (i : Int) < (key.size : Int) := by omega
      have hts : key.data.toList.take (i + 1) = key.data.toList.take i ++ [key.data.toList[i]'(by simpa using hlt)] := List.take_succ_eq_append_getElem (by simpa using hlt)
      obtain ⟨y, hy⟩ : ∃ y, y = key.data.toList[i]'(by simpa using hlt) := ⟨_, rfl⟩
      have hky : key[i] = y := by rw [hy]; simp; rfl
      have Hky := hid hky
      rw [← hy] at hts
      have Hts := hid hts
      have hy8 : ((y.toNat : Int)) ≤ 255 := by have := y.toNat_lt; omega
      have Hy8 := hid hy8
      clear hy hts hky hy8
      go_wp2
      go_roundg (key.size - (i + 1))
      case measure => omega
      case rel =>
        refine ⟨i + 1, by omega, rfl, by go_num, ?_, rfl⟩
        rw [Hts.out, hash_snoc, ← Hh.out, Hky.out]
        have h8 := Hy8.out
        have e1 : (y.toNat : Int) % 4294967296 = y.toNat := by omega
        rw [e1]
        unfold hstep IntKind.wrap
        simp [IntKind.bits, IntKind.signed]
    · obtain rfl : i = key.size := by omega
      have hn : IntKind.u32.wrap (n : Int) = (n : Int) := by unfold IntKind.wrap; simp [IntKind.bits, IntKind.signed]; omega
      have hn0 : ((n : Int) == 0) = false := by rw [beq_eq_false_iff_ne]; omega
      go_wp2
      refine HR.out _ _ ⟨?_, rfl⟩
      have hm1 := Int.emod_lt_of_pos h (show (0 : Int) < n by omega)
      have hm2 := Int.emod_nonneg h (show (n : Int) ≠ 0 by omega)
      have hx : ((sidx n key : Nat) : Int) = h % (n : Int) := by
        have e : h = hashOf key.data.toList := by rw [Hh.out, List.take_of_length_le (by simp)]
        unfold sidx
        rw [← e]; omega
      have hw : wrap64 (h % (n : Int)) = (sidx n key : Int) := by rw [hx]; unfold wrap64; omega
      rw [hw]; rfl
end Go.Proofs.Ytbiaelaaihieeaa
/- The document's cache whole: where it lies; used. -/
namespace Go.Proofs.Ytbiaelaaihieeaa
open Go.RowKit

/-- Where the document's cache lies: its own block, its two rows of rows, each shard's rows, the row of pins. -/
structure DL where
  g : Nat
  lr : Nat
  wr : Nat
  la : Nat → Option Addr
  lc : Nat → Nat
  wa : Nat → Option Addr
  wc : Nat → Nat
  pa : Option Addr
  pc : Nat
def DL.lcells (y : DL) (n : Nat) (S : CS) : Array Value := ((List.range n).map fun i => Value.slice (y.la i) (S.sh i).al.length (y.lc i)).toArray
def DL.wcells (y : DL) (n : Nat) (S : CS) : Array Value := ((List.range n).map fun i => Value.slice (y.wa i) (S.sh i).wt.length (y.wc i)).toArray
/-- What the k-th cell of the row of pins holds. -/
def pinCell (S : CS) (ρ : Nat → Nat) (k : Nat) : Value := match lookP S.pins (k + 1) with
  | some b => .pointer (some ⟨ρ b, 0, none⟩)
  | none => .pointer none
def pinCells (S : CS) (ρ : Nat → Nat) : List Value := (List.range S.last.toNat).map (pinCell S ρ)
/-- An entry of the document's. -/
def DItAt (w : World) (b : Nat) (i : It) : Prop := blkOf w b = some (.cells (itCells i) 133 (0, 0))
theorem DItAt.d {w : World} {b : Nat} {i : It} (h : DItAt w b i) : IsD w b := ⟨_, h⟩
/-- The document's cache holds what S holds, its entries named anew by ρ; G: its blocks, and more. -/
structure DAt (G : Nat → Prop) (B : Nat) (w : World) (n : Nat) (y : DL) (S : CS) (ρ : Nat → Nat) : Prop where
  blk : blkOf w y.g = some (.cells #[.int .i64 n, .int .u64 S.room, .bool S.st, .slice (some ⟨y.lr, 0, none⟩) n n, .slice (some ⟨y.wr, 0, none⟩) n n, .slice y.pa S.last.toNat y.pc] 129 (0, 0))
  lrow : blkOf w y.lr = some (.cells (y.lcells n S) 127 (0, 0))
  wrow : blkOf w y.wr = some (.cells (y.wcells n S) 127 (0, 0))
  ne : y.lr ≠ y.wr
  L : ∀ i, i < n → w.ownsRow B 134 1 (.slice (y.la i) (S.sh i).al.length (y.lc i)) (S.sh i).al.length (ptrs ((S.sh i).al.map ρ))
  W : ∀ i, i < n → w.ownsRow B 134 1 (.slice (y.wa i) (S.sh i).wt.length (y.wc i)) (S.sh i).wt.length (ptrs ((S.sh i).wt.map ρ))
  its : ∀ b ∈ S.its, DItAt w (ρ b) (S.it b)
  inj : ∀ b ∈ S.its, ∀ c ∈ S.its, ρ b = ρ c → b = c
  pin : w.ownsRow B 134 1 (.slice y.pa S.last.toNat y.pc) S.last.toNat (pinCells S ρ)
  pl : ∀ i, i < n → ∀ k, rowOf y.pa = some k → rowOf (y.la i) ≠ some k ∧ rowOf (y.wa i) ≠ some k
  gb : G y.g ∧ G y.lr ∧ G y.wr ∧ (∀ b ∈ S.its, G (ρ b)) ∧ (∀ i, i < n → ∀ k, rowOf (y.la i) = some k ∨ rowOf (y.wa i) = some k → G k) ∧ ∀ k, rowOf y.pa = some k → G k
  lt : ∀ k, G k → B ≤ k ∧ k < w.heap.size
section
variable {G : Nat → Prop} {B : Nat} {w w' : World} {n : Nat} {y : DL} {S : CS} {ρ : Nat → Nat}
theorem DAt.chg (h : DAt G B w n y S ρ) {F : Nat → Prop} (hc : Chg F w w') (hF : ∀ k, G k → ¬ F k) : DAt G B w' n y S ρ := by
  obtain ⟨g1, g2, g3, g4, g5, g6⟩ := h.gb
  exact ⟨(hc.block _ (Blk.lt h.blk) (hF _ g1)).trans h.blk, (hc.block _ (Blk.lt h.lrow) (hF _ g2)).trans h.lrow, (hc.block _ (Blk.lt h.wrow) (hF _ g3)).trans h.wrow, h.ne,
    fun i hi => own_chg (h.L i hi) hc (fun k hk => hF k (g5 i hi k (.inl (by rw [rowOf_eq] at hk; exact hk)))),
    fun i hi => own_chg (h.W i hi) hc (fun k hk => hF k (g5 i hi k (.inr (by rw [rowOf_eq] at hk; exact hk)))),
    fun b hb => (hc.block _ (Blk.lt (h.its b hb)) (hF _ (g4 b hb))).trans (h.its b hb), h.inj,
    own_chg h.pin hc (fun k hk => hF k (g6 k (by rw [rowOf_eq] at hk; exact hk))), h.pl, h.gb, fun k hk => ⟨(h.lt k hk).1, Nat.lt_of_lt_of_le (h.lt k hk).2 hc.size⟩⟩
theorem DAt.below (h : DAt G B w n y S ρ) (hb : Below w.heap.size w w') : DAt G B w' n y S ρ := h.chg (F := fun _ => False) (Chg.of_below hb) (fun _ _ h => h)
theorem DAt.lcell (h : DAt G B w n y S ρ) {i : Nat} (hi : i < n) : (blkOf w y.lr).bind (cellAt i) = some (.slice (y.la i) (S.sh i).al.length (y.lc i)) := by
  rw [h.lrow]
  show (y.lcells n S)[i]? = _
  simp [DL.lcells, hi]
theorem DAt.wcell (h : DAt G B w n y S ρ) {i : Nat} (hi : i < n) : (blkOf w y.wr).bind (cellAt i) = some (.slice (y.wa i) (S.sh i).wt.length (y.wc i)) := by
  rw [h.wrow]
  show (y.wcells n S)[i]? = _
  simp [DL.wcells, hi]
/-- One pointer of an own row. -/
theorem own_ptr {A : Option Addr} {m c : Nat} {l : List Nat} (h : w.ownsRow B 134 1 (.slice A m c) m (ptrs l)) {j : Nat} (hj : j < m) : ∃ b, ∃ hl : j < l.length, A = some ⟨b, 0, none⟩ ∧ b < w.heap.size ∧ (blkOf w b).bind (cellAt j) = some (.pointer (some ⟨l[j], 0, none⟩)) := by
  obtain ⟨b, o, hl, e, lb, k0⟩ := ptr_at (Rd.of_own h) hj
  have ho : o = 0 := by
    rcases h.2 with ⟨h0, _⟩ | ⟨g', cap, cur, hv, _⟩
    · rw [e] at h0; cases h0
    · rw [e] at hv; injection hv with hv; injection hv with hv; injection hv
  subst ho
  rw [Nat.zero_add] at k0
  exact ⟨b, hl, e, lb, k0⟩
end
theorem chs_take (I : Nat → It) {l : List Nat} {j : Nat} (h : j < l.length) : chs I (l.take (j + 1)) = chs I (l.take j) + (I l[j]).ch := by
  unfold chs
  rw [List.take_succ_eq_append_getElem h, List.map_append, List.sum_append]
  simp
def DUsedRel (w : World) (I : Nat → It) (al : List Nat) (gk : Nat) (v5 v6 : Value) (wr : World) : Prop :=
  ∃ j : Nat, j ≤ al.length ∧ gk = al.length - j ∧ v6 = .int .i64 j ∧ v5 = .int .u64 (cap (chs I (al.take j))) ∧ wr = w
set_option maxHeartbeats 1600000 in
theorem dused_any (G : Nat → Prop) (B n : Nat) (y : DL) (S : CS) (ρ : Nat → Nat) (i : Nat) (w : World) (h : DAt G B w n y S ρ) (ok : COk n S) (hi : i < n) (hn : n ≤ 64) (hl : (S.sh i).al.length ≤ 9223372036854775807) :
    Calls Try.prog 86 #[.pointer (some ⟨y.g, 0, none⟩), .int .i64 i] w fun e w' => e = .returned (.int .u64 (usedOf (S.sh i) S.it)) ∧ w' = w := by
  refine calls_of fun R HR => ?_
  have H := hid h; have Ok := hid ok; have Hi := hid hi; have Hl := hid hl
  have hb := h.blk
  have lg := Blk.lt hb
  have llr := Blk.lt h.lrow
  have k0 := h.lcell hi
  obtain ⟨al, hal⟩ : ∃ al, al = (S.sh i).al := ⟨_, rfl⟩
  have hch : ChOk S.it al := by rw [hal]; exact (ok.ok i hi).ch
  have hai : ∀ b ∈ al, b ∈ S.its := by rw [hal]; exact ok.al i hi
  have hrow := h.L i hi
  unfold usedOf at HR
  rw [← hal] at k0 hrow hl HR
  have Hch := hid hch; have Hai := hid hai; have Hrow := hid hrow
  have hi0 : (0 : Int) ≤ (i : Int) := Int.natCast_nonneg _
  have hi1 : (i : Int) < (n : Int) := by omega
  clear h ok hi hal hch hai hrow
  go_enter Try.func86, Try.ntmps86
  go_wp2
  go_loopg [5, 6] al.length (fun gk v5 v6 wr => DUsedRel w S.it al gk v5 v6 wr)
  case atStart => exact ⟨0, Nat.zero_le _, rfl, rfl, rfl, rfl⟩
  case round =>
    obtain ⟨j, hj, rfl, rfl, rfl, rfl⟩ := hrel
    by_cases hlt : j < al.length
    · obtain ⟨b, hl2, ea, lb, kb⟩ := own_ptr Hrow.out hlt
      rw [List.length_map] at hl2
      rw [List.getElem_map] at kb
      have hx : al[j] ∈ al := List.getElem_mem hl2
      have hit := H.out.its _ (Hai.out _ hx)
      have hcx := Hch.out _ hx
      have htk := chs_take S.it hl2
      obtain ⟨x, hxe⟩ : ∃ x, x = al[j] := ⟨_, rfl⟩
      rw [← hxe] at kb hit hcx htk
      have hnn := chs_nonneg (I := S.it) (l := al.take j) (fun b hb => Hch.out b (List.mem_of_mem_take hb))
      have hcp := cap_range hnn
      have Hp := hid (dplus_any (cap (chs S.it (al.take j))) (S.it x).ch)
      have Htk := hid htk
      have Hnn := hid hnn
      have hj0 : (0 : Int) ≤ (j : Int) := Int.natCast_nonneg _
      have hj1 : (j : Int) < (al.length : Int) := by omega
      unfold DItAt itCells at hit
      rw [ea] at k0
      clear hx hxe htk hnn ea
      go_wp2_with (go_at_call 85; refine (Hp.out _ hcp hcx).mono ?_; rintro e w2 ⟨rfl, rfl⟩)
      go_roundg (al.length - (j + 1))
      case measure => omega
      case rel => exact ⟨j + 1, by omega, rfl, by go_num, by rw [cap_add Hnn.out hcx.1, ← Htk.out], rfl⟩
    · obtain rfl : j = al.length := by omega
      go_wp2
      exact HR.out _ _ ⟨by rw [List.take_of_length_le (Nat.le_refl _)]; rfl, rfl⟩
end Go.Proofs.Ytbiaelaaihieeaa
/- The document's cache: what is stored; gone. -/
namespace Go.Proofs.Ytbiaelaaihieeaa
open Go.RowKit

theorem set_range (n i : Nat) (f : Nat → Value) (v : Value) : ((List.range n).map f).toArray.setIfInBounds i v = ((List.range n).map fun j => if j = i then v else f j).toArray := by
  apply Array.ext_getElem?
  intro j
  rw [Array.getElem?_setIfInBounds]
  by_cases hj : j < n
  · by_cases e : i = j
    · subst e; simp [hj]
    · simp [hj, e, Ne.symm e]
  · by_cases e : i = j
    · subst e; simp [hj]
    · simp [hj, e]
section
variable {G G' : Nat → Prop} {B : Nat} {w w' : World} {n : Nat} {y : DL} {S S' : CS} {ρ : Nat → Nat}
/-- What was there, and what is new. -/
def more (G : Nat → Prop) (w w' : World) (k : Nat) : Prop := G k ∨ (w.heap.size ≤ k ∧ k < w'.heap.size)
theorem DAt.grow (h : DAt G B w n y S ρ) (hG : ∀ k, G k → G' k) (hlt : ∀ k, G' k → B ≤ k ∧ k < w.heap.size) : DAt G' B w n y S ρ := by
  obtain ⟨g1, g2, g3, g4, g5, g6⟩ := h.gb
  exact ⟨h.blk, h.lrow, h.wrow, h.ne, h.L, h.W, h.its, h.inj, h.pin, h.pl, ⟨hG _ g1, hG _ g2, hG _ g3, fun b hb => hG _ (g4 b hb), fun i hi k hk => hG _ (g5 i hi k hk), fun k hk => hG _ (g6 k hk)⟩, hlt⟩
/-- What a cache's tables hold is no part of the document's. -/
theorem DAt.same (h : DAt G B w n y S ρ) (h1 : S'.room = S.room) (h2 : S'.st = S.st) (h3 : S'.last = S.last) (h4 : S'.pins = S.pins) (h5 : S'.its = S.its) (h6 : ∀ i, (S'.sh i).al = (S.sh i).al) (h7 : ∀ i, (S'.sh i).wt = (S.sh i).wt) (h8 : ∀ b ∈ S.its, S'.it b = S.it b) : DAt G B w n y S' ρ := by
  have e1 : y.lcells n S' = y.lcells n S := by unfold DL.lcells; simp only [h6]
  have e2 : y.wcells n S' = y.wcells n S := by unfold DL.wcells; simp only [h7]
  have e3 : pinCells S' ρ = pinCells S ρ := by unfold pinCells pinCell; rw [h3, h4]
  exact ⟨by rw [h1, h2, h3]; exact h.blk, by rw [e1]; exact h.lrow, by rw [e2]; exact h.wrow, h.ne, fun i hi => by rw [h6]; exact h.L i hi, fun i hi => by rw [h7]; exact h.W i hi,
    fun b hb => by rw [h5] at hb; rw [h8 b hb]; exact h.its b hb, by rw [h5]; exact h.inj, by rw [h3, e3]; exact h.pin, h.pl, by rw [h5]; exact h.gb, h.lt⟩
/-- An entry has been turned. -/
theorem DAt.put_it (h : DAt G B w n y S ρ) {b : Nat} (hb : b ∈ S.its) {j : It} (hc : Chg (fun k => k = ρ b) w w') (hI : DItAt w' (ρ b) j) : DAt G B w' n y { S with it := upd S.it b j } ρ := by
  have hd := h.its b hb
  have hne : ∀ {k : Nat} {t : TypeId} {cs : Array Value}, blkOf w k = some (.cells cs t (0, 0)) → t ≠ 133 → k ≠ ρ b := by
    rintro k t cs hk ht rfl
    rw [hd] at hk; injection hk with hk; injection hk with _ e _; exact ht e.symm
  have hown : ∀ {m c : Nat} {A : Option Addr} {xs : List Value}, w.ownsRow B 134 1 (.slice A m c) m xs → ∀ k, (Value.slice A m c).ownBlock = some k → ¬ k = ρ b := fun ho k hk e => own_ne_blk ho hd (by decide) (by rw [hk, e])
  exact ⟨(hc.block _ (Blk.lt h.blk) (hne h.blk (by decide))).trans h.blk, (hc.block _ (Blk.lt h.lrow) (hne h.lrow (by decide))).trans h.lrow, (hc.block _ (Blk.lt h.wrow) (hne h.wrow (by decide))).trans h.wrow, h.ne,
    fun i hi => own_chg (h.L i hi) hc (hown (h.L i hi)), fun i hi => own_chg (h.W i hi) hc (hown (h.W i hi)),
    fun c hc' => by
      show DItAt w' (ρ c) (upd S.it b j c)
      by_cases e : c = b
      · rw [e, upd_same]; exact hI
      · rw [upd_ne _ _ e]; exact (hc.block _ (Blk.lt (h.its c hc')) (fun e2 => e (h.inj c hc' b hb e2))).trans (h.its c hc'), h.inj,
    own_chg h.pin hc (hown h.pin), h.pl, h.gb, fun k hk => ⟨(h.lt k hk).1, Nat.lt_of_lt_of_le (h.lt k hk).2 hc.size⟩⟩
theorem DAt.row_keeps (h : DAt G B w n y S ρ) {r : Nat} {cs : Array Value} (hr : blkOf w r = some (.cells cs 127 (0, 0))) (hc : Chg (fun k => k = r) w w') :
    blkOf w' y.g = blkOf w y.g ∧ (∀ i, i < n → w'.ownsRow B 134 1 (.slice (y.la i) (S.sh i).al.length (y.lc i)) (S.sh i).al.length (ptrs ((S.sh i).al.map ρ))) ∧ (∀ i, i < n → w'.ownsRow B 134 1 (.slice (y.wa i) (S.sh i).wt.length (y.wc i)) (S.sh i).wt.length (ptrs ((S.sh i).wt.map ρ))) ∧
      (∀ b ∈ S.its, DItAt w' (ρ b) (S.it b)) ∧ w'.ownsRow B 134 1 (.slice y.pa S.last.toNat y.pc) S.last.toNat (pinCells S ρ) := by
  have hne : ∀ {k : Nat} {t : TypeId} {cs : Array Value}, blkOf w k = some (.cells cs t (0, 0)) → t ≠ 127 → k ≠ r := by
    rintro k t cs hk ht rfl
    rw [hr] at hk; injection hk with hk; injection hk with _ e _; exact ht e.symm
  have hown : ∀ {m c : Nat} {A : Option Addr} {xs : List Value}, w.ownsRow B 134 1 (.slice A m c) m xs → ∀ k, (Value.slice A m c).ownBlock = some k → ¬ k = r := fun ho k hk e => own_ne_blk ho hr (by decide) (by rw [hk, e])
  exact ⟨hc.block _ (Blk.lt h.blk) (hne h.blk (by decide)), fun i hi => own_chg (h.L i hi) hc (hown (h.L i hi)), fun i hi => own_chg (h.W i hi) hc (hown (h.W i hi)), fun b hb => (hc.block _ (Blk.lt (h.its b hb)) (hne (h.its b hb) (by decide))).trans (h.its b hb), own_chg h.pin hc (hown h.pin)⟩
/-- A shard's row of entries has been laid anew. -/
theorem DAt.put_al (h : DAt G B w n y S ρ) {i : Nat} (hi : i < n) {al : List Nat} {A : Option Addr} {c : Nat} (hc : Chg (fun k => k = y.lr) w w') (hb : blkOf w' y.lr = some (.cells ((y.lcells n S).setIfInBounds i (.slice A al.length c)) 127 (0, 0)))
    (hown : w'.ownsRow B 134 1 (.slice A al.length c) al.length (ptrs (al.map ρ))) (hG : ∀ k, rowOf A = some k → G k ∧ rowOf y.pa ≠ some k) : DAt G B w' n { y with la := putAt y.la i A, lc := putAt y.lc i c } (S.turn i { S.sh i with al := al } S.it) ρ := by
  obtain ⟨k1, k2, k3, k4, k5⟩ := h.row_keeps h.lrow hc
  obtain ⟨g1, g2, g3, g4, g5, g6⟩ := h.gb
  have hwt : ∀ j, ((S.turn i { S.sh i with al := al } S.it).sh j).wt = (S.sh j).wt := fun j => by
    show (putAt S.sh i _ j).wt = _
    unfold putAt; split
    · rename_i e; rw [e]
    · rfl
  have hal : ∀ j, ((S.turn i { S.sh i with al := al } S.it).sh j).al = if j = i then al else (S.sh j).al := fun j => by
    show (putAt S.sh i _ j).al = _
    unfold putAt; split <;> rfl
  refine ⟨k1.trans h.blk, ?_, ?_, h.ne, fun j hj => ?_, fun j hj => by rw [hwt]; exact k3 j hj, k4, h.inj, k5, fun j hj k hk => ⟨?_, (h.pl j hj k hk).2⟩, ⟨g1, g2, g3, g4, fun j hj k hk => ?_, g6⟩, fun k hk => ⟨(h.lt k hk).1, Nat.lt_of_lt_of_le (h.lt k hk).2 hc.size⟩⟩
  · rw [hb]
    congr 2
    unfold DL.lcells
    rw [set_range]
    congr 2
    funext j
    simp only [hal, putAt]
    by_cases e : j = i
    · rw [if_pos e, if_pos e, if_pos e, if_pos e]
    · rw [if_neg e, if_neg e, if_neg e, if_neg e]
  · have e2 : DL.wcells { y with la := putAt y.la i A, lc := putAt y.lc i c } n (S.turn i { S.sh i with al := al } S.it) = y.wcells n S := by unfold DL.wcells; simp only [hwt]
    rw [e2]
    exact (hc.block _ (Blk.lt h.wrow) (fun e => h.ne e.symm)).trans h.wrow
  · rw [hal]
    show w'.ownsRow B 134 1 (.slice (putAt y.la i A j) _ (putAt y.lc i c j)) _ _
    unfold putAt
    by_cases e : j = i
    · rw [if_pos e, if_pos e, if_pos e]; exact hown
    · rw [if_neg e, if_neg e, if_neg e]; exact k2 j hj
  · show rowOf (putAt y.la i A j) ≠ some k
    unfold putAt
    split
    · exact fun e => (hG k e).2 hk
    · exact (h.pl j hj k hk).1
  · have hk : rowOf (putAt y.la i A j) = some k ∨ rowOf (y.wa j) = some k := hk
    unfold putAt at hk
    split at hk
    · exact hk.elim (fun e => (hG k e).1) (fun e => g5 j hj k (.inr e))
    · exact g5 j hj k hk
/-- A shard's row of those that wait has been laid anew. -/
theorem DAt.put_wt (h : DAt G B w n y S ρ) {i : Nat} (hi : i < n) {wt : List Nat} {A : Option Addr} {c : Nat} (hc : Chg (fun k => k = y.wr) w w') (hb : blkOf w' y.wr = some (.cells ((y.wcells n S).setIfInBounds i (.slice A wt.length c)) 127 (0, 0)))
    (hown : w'.ownsRow B 134 1 (.slice A wt.length c) wt.length (ptrs (wt.map ρ))) (hG : ∀ k, rowOf A = some k → G k ∧ rowOf y.pa ≠ some k) : DAt G B w' n { y with wa := putAt y.wa i A, wc := putAt y.wc i c } (S.turn i { S.sh i with wt := wt } S.it) ρ := by
  obtain ⟨k1, k2, k3, k4, k5⟩ := h.row_keeps h.wrow hc
  obtain ⟨g1, g2, g3, g4, g5, g6⟩ := h.gb
  have hal : ∀ j, ((S.turn i { S.sh i with wt := wt } S.it).sh j).al = (S.sh j).al := fun j => by
    show (putAt S.sh i _ j).al = _
    unfold putAt; split
    · rename_i e; rw [e]
    · rfl
  have hwt : ∀ j, ((S.turn i { S.sh i with wt := wt } S.it).sh j).wt = if j = i then wt else (S.sh j).wt := fun j => by
    show (putAt S.sh i _ j).wt = _
    unfold putAt; split <;> rfl
  refine ⟨k1.trans h.blk, ?_, ?_, h.ne, fun j hj => by rw [hal]; exact k2 j hj, fun j hj => ?_, k4, h.inj, k5, fun j hj k hk => ⟨(h.pl j hj k hk).1, ?_⟩, ⟨g1, g2, g3, g4, fun j hj k hk => ?_, g6⟩, fun k hk => ⟨(h.lt k hk).1, Nat.lt_of_lt_of_le (h.lt k hk).2 hc.size⟩⟩
  · have e2 : DL.lcells { y with wa := putAt y.wa i A, wc := putAt y.wc i c } n (S.turn i { S.sh i with wt := wt } S.it) = y.lcells n S := by unfold DL.lcells; simp only [hal]
    rw [e2]
    exact (hc.block _ (Blk.lt h.lrow) h.ne).trans h.lrow
  · rw [hb]
    congr 2
    unfold DL.wcells
    rw [set_range]
    congr 2
    funext j
    simp only [hwt, putAt]
    by_cases e : j = i
    · rw [if_pos e, if_pos e, if_pos e, if_pos e]
    · rw [if_neg e, if_neg e, if_neg e, if_neg e]
  · rw [hwt]
    show w'.ownsRow B 134 1 (.slice (putAt y.wa i A j) _ (putAt y.wc i c j)) _ _
    unfold putAt
    by_cases e : j = i
    · rw [if_pos e, if_pos e, if_pos e]; exact hown
    · rw [if_neg e, if_neg e, if_neg e]; exact k3 j hj
  · show rowOf (putAt y.wa i A j) ≠ some k
    unfold putAt
    split
    · exact fun e => (hG k e).2 hk
    · exact (h.pl j hj k hk).2
  · have hk : rowOf (y.la j) = some k ∨ rowOf (putAt y.wa i A j) = some k := hk
    unfold putAt at hk
    split at hk
    · exact hk.elim (fun e => g5 j hj k (.inl e)) (fun e => (hG k e).1)
    · exact g5 j hj k hk
end
end Go.Proofs.Ytbiaelaaihieeaa
/- The document's cache: pin, Value. -/
namespace Go.Proofs.Ytbiaelaaihieeaa
open Go.RowKit

/-- A pin's entry, in the document's memory. -/
def pinV (S : CS) (ρ : Nat → Nat) (k : Int) : Value := match lookP S.pins k with
  | some b => .pointer (some ⟨ρ b, 0, none⟩)
  | none => .pointer none
section
variable {G : Nat → Prop} {B : Nat} {w : World} {n : Nat} {y : DL} {S : CS} {ρ : Nat → Nat}
theorem lookP_range (ok : COk n S) (h1 : ∀ p ∈ S.pins, 1 ≤ p.1) {k : Int} (h : k < 1 ∨ S.last < k) : lookP S.pins k = none := by
  cases hl : lookP S.pins k with
  | none => rfl
  | some b =>
    have hm := lookP_some hl
    have a1 := (ok.pins _ hm).1
    have a2 := h1 _ hm
    have a1 : k ≤ S.last := a1
    have a2 : 1 ≤ k := a2
    omega
set_option maxHeartbeats 800000 in
theorem dpin_any (k : Int) (h : DAt G B w n y S ρ) (ok : COk n S) (h1 : ∀ p ∈ S.pins, 1 ≤ p.1) (hl : S.last < 8796093022000) :
    Calls Try.prog 91 #[.pointer (some ⟨y.g, 0, none⟩), .int .i64 k] w fun e w' => e = .returned (pinV S ρ k) ∧ w' = w := by
  refine calls_of fun R HR => ?_
  have hb := h.blk
  have lg := Blk.lt hb
  have hl0 := ok.last
  obtain ⟨m, hm⟩ : ∃ m : Nat, m = S.last.toNat := ⟨_, rfl⟩
  have hml : (m : Int) = S.last := by omega
  have hmN : m ≤ 8796093022000 := by omega
  have hpin := h.pin
  have hlk : (k < 1 ∨ S.last < k) → lookP S.pins k = none := lookP_range ok h1
  rw [← hm] at hb hpin
  rw [← hml] at hlk
  clear hl hl0
  by_cases c1 : k < 1
  · have hnone := hlk (.inl c1)
    unfold pinV at HR
    rw [hnone] at HR
    clear hlk hpin h ok h1
    go_enter Try.func91, Try.ntmps91
    go_wp2
    exact HR.out _ _ ⟨rfl, rfl⟩
  · by_cases c2 : (m : Int) < k
    · have hnone := hlk (.inr c2)
      unfold pinV at HR
      rw [hnone] at HR
      clear hlk hpin h ok h1
      go_enter Try.func91, Try.ntmps91
      go_wp2
      exact HR.out _ _ ⟨rfl, rfl⟩
    · obtain ⟨j, rfl⟩ : ∃ j : Nat, k = (j : Int) + 1 := ⟨(k - 1).toNat, by omega⟩
      have hj : j < m := by omega
      have hc : (pinCells S ρ)[j]? = some (pinV S ρ ((j : Int) + 1)) := by
        unfold pinCells
        rw [← hm]
        simp [hj]; rfl
      obtain ⟨V, hV⟩ : ∃ V, V = pinV S ρ ((j : Int) + 1) := ⟨_, rfl⟩
      rw [← hV] at hc HR
      obtain ⟨b, o, ea, lb, hcell⟩ := (Rd.of_own hpin).2 (by omega)
      have hk := cell_at (hcell j _ hc)
      have hj0 : (0 : Int) ≤ (j : Int) := Int.natCast_nonneg _
      have hj1 : (j : Int) < (m : Int) := by omega
      rw [ea] at hb
      have ew : wrap64 ((j : Int) + 1 - 1) = (j : Int) := by unfold wrap64; omega
      have ei : (j : Int) + 1 - 1 = (j : Int) := by omega
      have c2' : ¬ (m : Int) < (j : Int) + 1 := c2
      clear hlk hpin h ok h1 hcell hc hV
      go_enter Try.func91, Try.ntmps91
      go_wp2
      exact HR.out _ _ ⟨rfl, rfl⟩
theorem dvalue_none (k : Int) (h : DAt G B w n y S ρ) (ok : COk n S) (h1 : ∀ p ∈ S.pins, 1 ≤ p.1) (hl : S.last < 8796093022000) (hk : lookP S.pins k = none) :
    Calls Try.prog 68 #[.pointer (some ⟨y.g, 0, none⟩), .int .i64 k] w fun e w' => e = .returned (.tuple #[.int .u64 0, .int .i64 111]) ∧ w' = w := by
  refine calls_of fun R HR => ?_
  have hp := dpin_any k h ok h1 hl
  unfold pinV at hp
  rw [hk] at hp
  have Hp := hid hp
  clear hp h ok h1 hl hk
  go_enter Try.func68, Try.ntmps68
  go_wp2_with (go_at_call 91; refine Hp.out.mono ?_; rintro e w2 ⟨rfl, rfl⟩)
  exact HR.out _ _ ⟨rfl, rfl⟩
theorem dvalue_some (k : Int) (b : Nat) (v : Int) (h : DAt G B w n y S ρ) (ok : COk n S) (h1 : ∀ p ∈ S.pins, 1 ≤ p.1) (hl : S.last < 8796093022000) (hk : lookP S.pins k = some b) (hb : b ∈ S.its) (hv : (S.it b).v = .int .u64 v) :
    Calls Try.prog 68 #[.pointer (some ⟨y.g, 0, none⟩), .int .i64 k] w fun e w' => e = .returned (.tuple #[.int .u64 v, .int .i64 0]) ∧ w' = w := by
  refine calls_of fun R HR => ?_
  have hp := dpin_any k h ok h1 hl
  unfold pinV at hp
  rw [hk] at hp
  have Hp := hid hp
  have hit := h.its b hb
  have lit := Blk.lt hit
  unfold DItAt itCells at hit
  rw [hv] at hit
  clear hp h ok h1 hl hk
  go_enter Try.func68, Try.ntmps68
  go_wp2_with (go_at_call 91; refine Hp.out.mono ?_; rintro e w2 ⟨rfl, rfl⟩)
  exact HR.out _ _ ⟨rfl, rfl⟩
end
end Go.Proofs.Ytbiaelaaihieeaa
