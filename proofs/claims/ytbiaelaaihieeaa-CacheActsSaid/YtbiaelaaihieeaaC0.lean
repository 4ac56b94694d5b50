/- Maps whose keys are pointers, entries laid in two steps, ranging over a map: as lists of pairs. -/
import Derived.Test.YtbiaelaaihieeaaM
import Derived.LaidEqlPtr
import Derived.Maps.RangeWalk
set_option linter.unusedVariables false
set_option linter.unusedSectionVars false
set_option linter.unusedSimpArgs false
namespace Go.Proofs.Ytbiaelaaihieeaa
open Go.RowKit Go.ChangeMaps

/-- A key of a type, in a world, beside the keys that lie in a map. -/
structure KeyIn (P : Program) (kt : TypeId) {κ : Type} [DecidableEq κ] (enc : κ → Value) (w : World) (k : κ) (l : List κ) : Prop where
  check : ∀ b : Bool, (Instr.checkKey b 10000 kt (enc k)).run P w = .ok () w
  bits : Instr.sameBits 10000 (enc k) (enc k) = true
  find : ∀ es : List MapEntry, es.map (·.key) = l.map enc → (Instr.findKey kt (enc k) es).run P w = .ok ((l.findIdx? (fun x => decide (x = k))).bind fun i => es[i]?.map fun e => (i, e.val)) w

/-- A pointer to the head of block b. -/
def ptr (b : Nat) : Value := .pointer (some ⟨b, 0, none⟩)
/-- Block b is cells, none of them shut. -/
def IsC (w : World) (b : Nat) : Prop := ∃ c t, blkOf w b = some (.cells c t (0, 0))
theorem isC_of {w : World} {b : Nat} {c : Array Value} {t : TypeId} (h : blkOf w b = some (.cells c t (0, 0))) : IsC w b := ⟨c, t, h⟩

section
variable {κ : Type} [DecidableEq κ] {P : Program} {kt : TypeId} {enc : κ → Value} {w : World} {k : κ} {l : List κ}
theorem Keys.at (K : Keys P kt enc) (w : World) (k : κ) (l : List κ) : KeyIn P kt enc w k l := ⟨fun b => K.check b k w, K.bits k, fun es h => K.find k l es w h⟩
end
theorem run_equal_ptr {P : Program} {w : World} {tp te : TypeId} {j : TypeInfo} (hp : P.underlying tp = some (.pointer te)) (hte : P.info? te = some j) (hsz : j.size ≠ 0) {a b : Nat} (ha : IsC w a) (hb : IsC w b) :
    (Op.equal tp (ptr a) (ptr b)).run P w = .ok (decide (a = b)) w := by
  obtain ⟨ca, ta, ha⟩ := ha
  obtain ⟨cb, tb, hb⟩ := hb
  by_cases h : a = b
  · subst h
    have h : ∀ d : Nat, (Op.equalIn (d + 1) tp (ptr a) (ptr a)).run P w = .ok true w := fun d => by
      simp [Op.equalIn, ptr, run_underlying hp, sizeOf, typeInfo, hte, run_sameAddr_same]
    simp [Op.equal, Op.maxDepth, h 9999]
  · have hne : (⟨a, 0, none⟩ : Addr) ≠ ⟨b, 0, none⟩ := fun e => h (by injection e)
    have h2 : ∀ d : Nat, (Op.equalIn (d + 1) tp (ptr a) (ptr b)).run P w = .ok false w := fun d => by
      simp [Op.equalIn, ptr, run_underlying hp, sizeOf, typeInfo, hte, hsz, run_sameAddr_other w hne ha hb]
    simp [Op.equal, Op.maxDepth, h2 9999, h]
theorem findAsking_ptr {P : Program} {w : World} {tp te : TypeId} {j : TypeInfo} (hp : P.underlying tp = some (.pointer te)) (hte : P.info? te = some j) (hsz : j.size ≠ 0) {k : Nat} (hk : IsC w k) :
    ∀ (l : List Nat) (es : List MapEntry) (i : Nat), (∀ x ∈ l, IsC w x) → es.map (·.key) = l.map ptr → (Instr.findAsking tp (ptr k) es i).run P w = .ok ((l.findIdx? (fun x => decide (x = k))).bind fun n => es[n]?.map fun e => (i + n, e.val)) w
  | [], [], _, _, _ => rfl
  | [], _ :: _, _, _, h => by simp at h
  | _ :: _, [], _, _, h => by simp at h
  | x :: l, e :: es, i, hl, h => by
    simp only [List.map_cons, List.cons.injEq] at h
    rw [Instr.findAsking, Sem.run_bind, h.1, run_equal_ptr hp hte hsz hk (hl x (List.mem_cons_self ..)), Result.andThen_ok]
    by_cases hx : k = x
    · subst hx
      simp [List.findIdx?_cons]
    · have hx' : ¬ x = k := fun e => hx e.symm
      simp only [hx, decide_false, List.findIdx?_cons, hx']
      simp only [Bool.false_eq_true, if_false]
      rw [findAsking_ptr hp hte hsz hk l es (i + 1) (fun y hy => hl y (List.mem_cons_of_mem _ hy)) h.2]
      cases l.findIdx? (fun x => decide (x = k)) with
      | none => rfl
      | some n => simp [Nat.add_assoc, Nat.add_comm 1 n]
theorem findNow_ptr (kind : TypeDesc) (k : Nat) : ∀ (l : List Nat) (es : List MapEntry) (i : Nat), es.map (·.key) = l.map ptr → l ≠ [] → Instr.findNow kind (ptr k) es i = none
  | [], _, _, _, h => absurd rfl h
  | _ :: _, [], _, h, _ => by simp at h
  | x :: l, e :: es, i, h, _ => by
    simp only [List.map_cons, List.cons.injEq] at h
    rw [Instr.findNow, h.1]
    cases kind <;> rfl
theorem ptr_key {P : Program} {w : World} {tp te : TypeId} {j : TypeInfo} (hp : P.underlying tp = some (.pointer te)) (hte : P.info? te = some j) (hsz : j.size ≠ 0) {k : Nat} {l : List Nat} (hk : IsC w k) (hl : ∀ x ∈ l, IsC w x) :
    KeyIn P tp ptr w k l where
  check b := check_plain b 9999 w (.inr (.inr (.inr ⟨te, hp⟩)))
  bits := by simp [Instr.sameBits, ptr]
  find es h := by
    simp only [Instr.findKey, Sem.run_bind, run_underlying hp, Result.andThen_ok]
    by_cases h0 : l = []
    · subst h0
      have : es = [] := by simpa using h
      subst this
      rfl
    · rw [findNow_ptr _ k l es 0 h h0]
      simp only
      rw [findAsking_ptr hp hte hsz hk l es 0 hl h]
      simp

section
variable {κ : Type} [DecidableEq κ]
/-- Block b is such a map, and the entry of k bears the stamp st. -/
def EntryAt (enc : κ → Value) (w : World) (b : Nat) (l : List (κ × Value)) (k : κ) (st : Nat) : Prop :=
  ∃ es clock i, blkOf w b = some (.map es clock) ∧ es.toList.map (fun e => (e.key, e.val)) = l.map (fun p => (enc p.1, p.2)) ∧ (l.map (·.1)).Nodup ∧ (es.toList.map (·.born)).Nodup ∧ (∀ e ∈ es.toList, e.born < clock) ∧
    ∃ h : i < es.size, es[i].born = st ∧ ∃ h' : i < l.length, l[i].1 = k
theorem EntryAt.of_blk {enc : κ → Value} {w w' : World} {b : Nat} {l : List (κ × Value)} {k : κ} {st : Nat} (h : EntryAt enc w b l k st) (e : blkOf w' b = blkOf w b) : EntryAt enc w' b l k st := by
  unfold EntryAt at *
  rw [e]; exact h
theorem EntryAt.map {enc : κ → Value} {w : World} {b : Nat} {l : List (κ × Value)} {k : κ} {st : Nat} (h : EntryAt enc w b l k st) : MapAt enc w b l := by
  obtain ⟨es, clock, i, hb, hl, hn, hbn, hbl, _⟩ := h
  exact ⟨es, clock, hb, hl, hn, hbn, hbl⟩

section
variable {P : Program} {kt vt T : TypeId} {enc : κ → Value} (ht : P.underlying T = some (.map kt vt)) {w : World} {b : Nat} {l : List (κ × Value)}
include ht
theorem MapAt.run_lookupK (h : MapAt enc w b l) (k : κ) (K : KeyIn P kt enc w k (l.map (·.1))) {z : Value} (hz : (zeroValue vt).run P w = .ok z w) (c : Bool) :
    (Instr.lookup T (.map (some b)) (enc k) c).run P w = .ok (if c then .tuple #[(pget l k).getD z, .bool (pget l k).isSome] else (pget l k).getD z) w := by
  obtain ⟨es, clock, hb, hl, hn, hbn, hbl⟩ := h
  simp only [Instr.lookup, Sem.run_bind, run_underlying ht, Result.andThen_ok, run_getObj_map hb, Sem.run_pure, K.check, K.find es.toList (keys_of hl)]
  rw [pget_idx]
  cases hi : (l.map (·.1)).findIdx? (fun x => decide (x = k)) with
  | none => simp [hz, Result.andThen]
  | some i =>
    have hlt : i < l.length := by
      have := List.findIdx?_eq_some_iff_findIdx_eq.1 hi
      simpa using this.1
    have hle : es.toList.length = l.length := by have := congrArg List.length hl; simpa using this
    have hv : (es.toList[i]?).map (·.val) = (l.map (·.2))[i]? := by rw [← vals_of hl]; simp
    cases he : es.toList[i]? with
    | none => rw [List.getElem?_eq_none_iff] at he; omega
    | some e =>
      rw [he] at hv
      simp only [Option.bind_some, ← hv, Option.map_some, he]
      simp [Result.andThen]
theorem MapAt.run_deleteK (h : MapAt enc w b l) (k : κ) (K : KeyIn P kt enc w k (l.map (·.1))) (ty : TypeId) : ∃ w', (Builtin.delete_ #[T, kt] ty #[.map (some b), enc k]).run P w = .ok (.tuple #[]) w' ∧ MapAt enc w' b (pdel l k) ∧ Chg (fun j => j = b) w w' := by
  obtain ⟨es, clock, hb, hl, hn, hbn, hbl⟩ := h
  have hle : es.toList.length = l.length := by have := congrArg List.length hl; simpa using this
  cases hi : (l.map (·.1)).findIdx? (fun x => decide (x = k)) with
  | none =>
    refine ⟨_, ?_, ?_, chg_put w b (.map es clock)⟩
    · simp [Builtin.delete_, run_underlying ht, run_getObj_map hb, K.check, K.find es.toList (keys_of hl), hi, run_setObj_map _ hb, Result.andThen]
    · exact ⟨_, _, blk_put hb, by rw [pdel_none (idx_none hi)]; exact hl, by rw [pdel_none (idx_none hi)]; exact hn, hbn, hbl⟩
  | some i =>
    obtain ⟨hlt, hk, _⟩ := idx_lt hi
    have hlt' : i < l.length := by simpa using hlt
    have hes : i < es.size := by rw [← Array.length_toList, hle]; exact hlt'
    refine ⟨_, ?_, ?_, chg_put w b (.map (es.eraseIdxIfInBounds i) clock)⟩
    · have he : es.toList[i]? = some es[i] := by simp [hes]
      simp [Builtin.delete_, run_underlying ht, run_getObj_map hb, K.check, K.find es.toList (keys_of hl), hi, he, run_setObj_map _ hb, Result.andThen, hes]
    · have e1 : (es.eraseIdxIfInBounds i).toList = es.toList.eraseIdx i := by simp
      refine ⟨_, _, blk_put hb, ?_, ?_, ?_, ?_⟩
      · rw [pdel_some hn hlt' (by simpa using hk), e1, map_erase, hl, map_erase]
      · rw [pdel_some hn hlt' (by simpa using hk), map_erase]; exact hn.sublist (List.eraseIdx_sublist _ _)
      · rw [e1, map_erase]; exact hbn.sublist (List.eraseIdx_sublist _ _)
      · intro e he
        rw [e1] at he
        exact hbl e ((List.eraseIdx_sublist _ _).subset he)
/-- 'm[k] = ..' in an assignment of several: the entry is laid first; its value comes later. -/
theorem MapAt.run_entry (h : MapAt enc w b l) (k : κ) (K : KeyIn P kt enc w k (l.map (·.1))) {z : Value} (hz : (zeroValue vt).run P w = .ok z w) :
    ∃ (w' : World) (st : Nat) (y : Value), (Instr.mapEntry T (.map (some b)) (enc k)).run P w = .ok (.tuple #[y, .int .i64 st]) w' ∧ EntryAt enc w' b (pput l k y) k st ∧ Chg (fun j => j = b) w w' := by
  obtain ⟨es, clock, hb, hl, hn, hbn, hbl⟩ := h
  have hle : es.toList.length = l.length := by have := congrArg List.length hl; simpa using this
  cases hi : (l.map (·.1)).findIdx? (fun x => decide (x = k)) with
  | none =>
    refine ⟨_, clock, z, ?_, ?_, chg_put w b (.map (es.push { key := enc k, val := z, born := clock }) (clock + 1))⟩
    · simp only [Instr.mapEntry, Sem.run_bind, run_underlying ht, Result.andThen_ok, run_getObj_map hb, K.check, K.find es.toList (keys_of hl), hi, Option.bind_none, hz, run_setObj_map _ hb]
      rfl
    · refine ⟨_, _, es.size, blk_put hb, ?_, ?_, ?_, ?_, by simp, by simp, ?_⟩
      · rw [pput_none (idx_none hi)]; simp [hl]
      · rw [pput_none (idx_none hi)]
        simp only [List.map_append, List.map_cons, List.map_nil]
        rw [List.nodup_append]
        exact ⟨hn, by simp, fun x hx y hy => by simp at hy; subst hy; exact fun e => idx_none hi (e ▸ hx)⟩
      · simp only [Array.toList_push, List.map_append, List.map_cons, List.map_nil]
        rw [List.nodup_append]
        refine ⟨hbn, by simp, fun x hx y hy => ?_⟩
        simp at hy; subst hy
        obtain ⟨e, he, rfl⟩ := List.mem_map.1 hx
        exact Nat.ne_of_lt (hbl e he)
      · intro e he
        simp only [Array.toList_push, List.mem_append, List.mem_singleton] at he
        rcases he with he | rfl
        · exact Nat.lt_succ_of_lt (hbl e he)
        · exact Nat.lt_succ_self _
      · have e1 : es.size = l.length := by rw [← Array.length_toList, hle]
        refine ⟨by rw [pput_none (idx_none hi), e1]; simp, ?_⟩
        simp [pput_none (idx_none hi), e1]
  | some i =>
    obtain ⟨hlt, hk, _⟩ := idx_lt hi
    have hlt' : i < l.length := by simpa using hlt
    have hes : i < es.size := by rw [← Array.length_toList, hle]; exact hlt'
    have hkey : es[i].key = enc k := by
      have h1 : (es.toList.map (·.key))[i]? = ((l.map (·.1)).map enc)[i]? := by rw [keys_of hl]
      have hk' : (l[i]'hlt').1 = k := by simpa using hk
      simpa [hes, hlt', hk'] using h1
    have hval : es[i].val = (l[i]'hlt').2 := by
      have h1 : (es.toList.map (·.val))[i]? = (l.map (·.2))[i]? := by rw [vals_of hl]
      simpa [hes, hlt'] using h1
    have hset : pput l k es[i].val = l := by
      rw [pput_some hn hlt' (by simpa using hk)]
      apply List.ext_getElem
      · simp
      · intro j h1 h2
        rw [List.getElem_set]
        split
        · rename_i e; subst e
          have hk' : (l[i]'hlt').1 = k := by simpa using hk
          rw [hval, ← hk']
        · rfl
    refine ⟨_, es[i].born, es[i].val, ?_, ?_, chg_put w b (.map (es.modify i fun e => { e with key := enc k }) clock)⟩
    · have he : es.toList[i]? = some es[i] := by simp [hes]
      have hst : (Instr.keyThatStays (((es[i]?).map (·.key)).getD (enc k)) (enc k)).run P w = .ok (enc k) w := by
        simp [Instr.keyThatStays, hes, hkey, K.bits]
      simp only [Instr.mapEntry, Sem.run_bind, run_underlying ht, Result.andThen_ok, run_getObj_map hb, K.check, K.find es.toList (keys_of hl), hi, Option.bind_some, he, Option.map_some, hst, run_setObj_map _ hb]
      simp [hes, goInt]
    · have hmod : (es.modify i fun e => { e with key := enc k }) = es := by
        apply Array.ext
        · simp
        · intro j h1 h2
          rw [Array.getElem_modify]
          split
          · rename_i e; subst e
            cases hx : es[i] with
            | mk a b c => rw [hx] at hkey; simp only at hkey; rw [hkey]
          · rfl
      rw [hmod, hset]
      exact ⟨_, _, i, blk_put hb, hl, hn, hbn, hbl, hes, rfl, hlt', by simpa using hk⟩
omit ht in
theorem EntryAt.run_store {k : κ} {st : Nat} (h : EntryAt enc w b l k st) (v : Value) : ∃ w', (Instr.entryStore T (.map (some b)) (.int .i64 st) v).run P w = .ok () w' ∧ MapAt enc w' b (pput l k v) ∧ Chg (fun j => j = b) w w' := by
  obtain ⟨es, clock, i, hb, hl, hn, hbn, hbl, hes, hst, hlt, hk⟩ := h
  have hle : es.toList.length = l.length := by have := congrArg List.length hl; simpa using this
  have hfi : es.findIdx? (fun e => (e.born : Int) == (st : Int)) = some i := by
    rw [Array.findIdx?_eq_some_iff_getElem]
    refine ⟨hes, by simp [hst], fun j hj => ?_⟩
    have hp := List.pairwise_iff_getElem.1 hbn
    have := hp j i (by simp; omega) (by simp; omega) hj
    simp only [List.getElem_map, Array.getElem_toList, hst] at this
    simp only [beq_iff_eq]
    intro e
    exact this (by omega)
  refine ⟨_, ?_, ?_, chg_put w b (.map (es.modify i fun e => { e with val := v }) clock)⟩
  · simp only [Instr.entryStore, Sem.run_bind, run_getObj_map hb, Result.andThen_ok, asInt, asIntOf, Sem.run_pure, hfi, run_setObj_map _ hb]
  · refine ⟨_, _, blk_put hb, ?_, ?_, ?_, ?_⟩
    · rw [pput_some hn hlt hk, Array.toList_modify]
      apply List.ext_getElem
      · simp [hle]
      · intro j h1 h2
        simp only [List.getElem_map, List.getElem_modify, List.getElem_set]
        have h3 : (es.toList.map (fun e => (e.key, e.val)))[j]? = (l.map (fun p => (enc p.1, p.2)))[j]? := by rw [hl]
        have h4 : j < l.length := by simpa using h2
        have h5 : j < es.size := by rw [← Array.length_toList, hle]; exact h4
        have h6 : es[j].key = enc l[j].1 ∧ es[j].val = l[j].2 := by simpa [h4, h5] using h3
        by_cases hij : i = j
        · subst hij; simp [h6.1, hk]
        · simp [if_neg hij, h6.1, h6.2]
    · rw [pput_some hn hlt hk]
      have : (l.set i (k, v)).map (·.1) = l.map (·.1) := by
        apply List.ext_getElem
        · simp
        · intro j h1 h2
          simp only [List.getElem_map, List.getElem_set]
          by_cases hij : i = j
          · subst hij; simpa using hk.symm
          · simp [if_neg hij]
      rw [this]; exact hn
    · have : (es.modify i fun e => { e with val := v }).toList.map (·.born) = es.toList.map (·.born) := by
        rw [Array.toList_modify]
        apply List.ext_getElem
        · simp
        · intro j h1 h2
          simp only [List.getElem_map, List.getElem_modify]
          split <;> rfl
      rw [this]; exact hbn
    · intro e he
      rw [Array.toList_modify] at he
      obtain ⟨j, hj, rfl⟩ := List.mem_iff_getElem.1 he
      rw [List.getElem_modify]
      have := hbl (es.toList[j]'(by simpa using hj)) (List.getElem_mem _)
      split <;> exact this
end
theorem pput_put {l : List (κ × Value)} {k : κ} {u v : Value} : pput (pput l k u) k v = pput l k v := by
  unfold pput
  by_cases h : l.any (fun p => decide (p.1 = k)) = true
  · have h2 : (l.map (fun p => if p.1 = k then (k, u) else p)).any (fun p => decide (p.1 = k)) = true := by
      simp only [List.any_eq_true, decide_eq_true_eq] at h ⊢
      obtain ⟨p, hp, hk⟩ := h
      exact ⟨_, List.mem_map.2 ⟨p, hp, rfl⟩, by rw [if_pos hk]⟩
    rw [if_pos h, if_pos h, if_pos h2, List.map_map]
    apply List.map_congr_left
    intro p _
    simp only [Function.comp]
    by_cases e : p.1 = k
    · simp [e]
    · simp [e]
  · rw [if_neg h, if_neg h, if_pos (by simp)]
    rw [List.map_append]
    congr 1
    · have : ∀ p ∈ l, ¬ p.1 = k := by
        intro p hp e
        exact h (by simp only [List.any_eq_true, decide_eq_true_eq]; exact ⟨p, hp, e⟩)
      conv => rhs; rw [← List.map_id l]
      apply List.map_congr_left
      intro p hp
      rw [if_neg (this p hp)]; rfl
    · simp

theorem filter_erase {α : Type} (f : α → Nat) : ∀ (L : List α) (j : Nat) (h : j < L.length), (L.map f).Nodup → L.filter (fun x => decide (f x ≠ f L[j])) = L.eraseIdx j
  | a :: L, 0, _, hn => by
    simp only [List.map_cons, List.nodup_cons] at hn
    simp only [List.getElem_cons_zero, List.eraseIdx_cons_zero]
    rw [List.filter_cons, if_neg (by simp), List.filter_eq_self]
    intro x hx
    simp only [decide_eq_true_eq]
    exact fun e => hn.1 (by rw [← e]; exact List.mem_map.2 ⟨x, hx, rfl⟩)
  | a :: L, j + 1, h, hn => by
    simp only [List.map_cons, List.nodup_cons] at hn
    simp only [List.getElem_cons_succ, List.eraseIdx_cons_succ]
    have hj : j < L.length := by simpa using h
    rw [List.filter_cons, if_pos, filter_erase f L j hj hn.2]
    simp only [decide_eq_true_eq]
    exact fun e => hn.1 (by rw [e]; exact List.mem_map.2 ⟨_, List.getElem_mem hj, rfl⟩)
/-- 'for .. := range m' under way: todo: what is still to come. -/
def Ranges (enc : κ → Value) (w : World) (b r : Nat) (l todo : List (κ × Value)) : Prop :=
  ∃ es clock since seen c0, blkOf w b = some (.map es clock) ∧ es.toList.map (fun e => (e.key, e.val)) = l.map (fun p => (enc p.1, p.2)) ∧ (l.map (·.1)).Nodup ∧ (es.toList.map (·.born)).Nodup ∧ (∀ e ∈ es.toList, e.born < clock) ∧
    blkOf w r = some (.mapIter (some b) since seen c0) ∧ (∀ x ∈ es.toList, x.born < since) ∧ since ≤ c0 ∧ since ≤ clock ∧ (leftOf es seen).toList.map (fun e => (e.key, e.val)) = todo.map (fun p => (enc p.1, p.2))
theorem Ranges.map {enc : κ → Value} {w : World} {b r : Nat} {l todo : List (κ × Value)} (h : Ranges enc w b r l todo) : MapAt enc w b l := by
  obtain ⟨es, clock, since, seen, c0, hb, hl, hn, hbn, hbl, _⟩ := h
  exact ⟨es, clock, hb, hl, hn, hbn, hbl⟩
theorem Ranges.of_blk {enc : κ → Value} {w w' : World} {b r : Nat} {l todo : List (κ × Value)} (h : Ranges enc w b r l todo) (e : blkOf w' b = blkOf w b) (e' : blkOf w' r = blkOf w r) : Ranges enc w' b r l todo := by
  unfold Ranges at *
  rw [e, e']; exact h
theorem Ranges.iter {enc : κ → Value} {w : World} {b r : Nat} {l todo : List (κ × Value)} (h : Ranges enc w b r l todo) : ∃ m s q c, blkOf w r = some (.mapIter m s q c) := by
  obtain ⟨es, clock, since, seen, c0, _, _, _, _, _, hr, _⟩ := h
  exact ⟨_, _, _, _, hr⟩
section
variable {P : Program} {kt vt T : TypeId} {enc : κ → Value} {w : World} {b r : Nat} {l todo : List (κ × Value)}
theorem MapAt.run_range (ht : P.underlying T = some (.map kt vt)) (h : MapAt enc w b l) :
    ∃ o, (Instr.range T (.map (some b))).run P w = .ok (.pointer (some ⟨w.heap.size, 0, none⟩)) (w.alloc o) ∧ Ranges enc (w.alloc o) b w.heap.size l l := by
  have hlt := h.lt
  obtain ⟨es, clock, hb, hl, hn, hbn, hbl⟩ := h
  refine ⟨_, run_range_map w T kt vt b es clock ht hb, es, clock, clock, #[], clock, ?_, hl, hn, hbn, hbl, ?_, hbl, Nat.le_refl _, Nat.le_refl _, ?_⟩
  · rw [blk_past _ _ _ hlt]; exact hb
  · exact blk_new _ _
  · have : leftOf es #[] = es := by unfold leftOf; simp
    rw [this, hl]
theorem chg_setBlock (w : World) (b : Nat) (o : Obj) : Chg (fun k => k = b) w (setBlock w b o) := chg_put w b o
theorem Ranges.run_next (ty : TypeId) (h : Ranges enc w b r l todo) :
    (todo = [] ∧ (Instr.next (.pointer (some ⟨r, 0, none⟩)) false ty).run P w = .ok (.tuple #[.bool false]) w) ∨
    ∃ (j : Nat) (hj : j < todo.length) (w' : World), (Instr.next (.pointer (some ⟨r, 0, none⟩)) false ty).run P w = .ok (.tuple #[.bool true, enc todo[j].1, todo[j].2]) w' ∧ Ranges enc w' b r l (todo.eraseIdx j) ∧ Chg (fun k => k = r) w w' ∧ w'.heap.size = w.heap.size ∧
      (Instr.entry (.pointer (some ⟨r, 0, none⟩))).run P w' = .ok (.tuple #[enc todo[j].1, todo[j].2]) w' := by
  obtain ⟨es, clock, since, seen, c0, hb, hl, hn, hbn, hbl, hr, hold, hsc, hsk, htd⟩ := h
  rcases run_next_at (P := P) w ty r b since c0 seen es clock hr hb hold hsc with ⟨h0, hrun⟩ | ⟨e, he, w1, hw1, hrun⟩
  · refine .inl ⟨?_, hrun⟩
    have : (leftOf es seen).toList = [] := by simpa using Array.eq_empty_of_size_eq_zero h0
    rw [this] at htd
    simpa using htd.symm
  · obtain ⟨j, hj, hje⟩ := List.mem_iff_getElem.1 he
    have hlen : (leftOf es seen).toList.length = todo.length := by have := congrArg List.length htd; simpa using this
    have hjt : j < todo.length := by omega
    have hkv : e.key = enc todo[j].1 ∧ e.val = todo[j].2 := by
      have h1 : ((leftOf es seen).toList.map (fun e => (e.key, e.val)))[j]? = (todo.map (fun p => (enc p.1, p.2)))[j]? := by rw [htd]
      rw [List.getElem?_map, List.getElem?_map, List.getElem?_eq_getElem hj, List.getElem?_eq_getElem hjt, hje] at h1
      simpa using h1
    have hw1h : w1.heap = w.heap := by rcases hw1 with rfl | rfl <;> rfl
    have hlb : (leftOf es (seen.push e.born)).toList = (leftOf es seen).toList.eraseIdx j := by
      have hsub : ((leftOf es seen).toList.map (·.born)).Nodup := by
        unfold leftOf; rw [Array.toList_filter]
        exact hbn.sublist (List.Sublist.map _ List.filter_sublist)
      rw [← filter_erase (·.born) _ j hj hsub]
      simp only [hje]
      unfold leftOf
      rw [Array.toList_filter, Array.toList_filter, List.filter_filter]
      apply List.filter_congr
      intro x _
      simp only [Array.contains_push]
      by_cases hx : x.born = e.born
      · simp [hx]
      · simp [hx, Ne.symm hx]
    refine .inr ⟨j, hjt, _, by rw [← hkv.1, ← hkv.2]; exact hrun, ?_, ?_, ?_, ?_⟩
    · have hrb : r ≠ b := by
        rintro rfl
        rw [hb] at hr; cases hr
      have hr1 : r < w1.heap.size := by rw [hw1h]; exact (Array.getElem?_eq_some_iff.1 hr).1
      refine ⟨es, clock, since, seen.push e.born, clock, ?_, hl, hn, hbn, hbl, ?_, hold, hsk, hsk, ?_⟩
      · have : blkOf (setBlock w1 r (.mapIter (some b) since (seen.push e.born) clock)) b = blkOf w1 b := by
          simp only [blkOf, setBlock]; rw [Array.getElem?_setIfInBounds_ne hrb]
        rw [this]; unfold blkOf; rw [hw1h]; exact hb
      · simp only [blkOf, setBlock]; simp [hr1]
      · rw [hlb, map_erase, htd, map_erase]
    · have : Chg (fun k => k = r) w1 (setBlock w1 r (.mapIter (some b) since (seen.push e.born) clock)) := chg_setBlock _ _ _
      rcases hw1 with rfl | rfl
      · exact this
      · exact Chg.trans (Chg.refl (fun k => k = r) w).drew this (fun _ _ h => h) (fun _ _ h => h)
    · simp [setBlock, hw1h]
    · have hrb : r ≠ b := by
        rintro rfl
        rw [hb] at hr; cases hr
      have hr1 : r < w1.heap.size := by rw [hw1h]; exact (Array.getElem?_eq_some_iff.1 hr).1
      have hmem : e ∈ es.toList := by
        have := List.mem_of_getElem hje
        simp only [leftOf, Array.toList_filter] at this
        exact (List.mem_filter.1 this).1
      rw [← hkv.1, ← hkv.2]
      refine run_entry_at _ r b since seen es clock e ?_ ?_ hmem hbn
      · simp only [setBlock]; simp [hr1]
      · simp only [setBlock]; rw [Array.getElem?_setIfInBounds_ne hrb, hw1h]; exact hb
end
section
variable {P : Program} {kt vt T : TypeId} {enc : κ → Value} (ht : P.underlying T = some (.map kt vt)) {w : World} {b : Nat} {l : List (κ × Value)} {ops : Array Oper} {rest : List Oper} {o : Oper} {a : Act} {Q : Exit → Act → World → Prop}
include ht
theorem wpList_mgetK (hg : o.guard = none) (m x : Operand) (hop : o.op = Op.lookup T m x false) {z : Value} (hz : (zeroValue vt).run P w = .ok z w)
    (hm : a.eval m = .map (some b)) (h : MapAt enc w b l) (k : κ) (K : KeyIn P kt enc w k (l.map (·.1))) (hx : a.eval x = enc k)
    (hK : wpList P ops Q rest (a.put o.dst ((pget l k).getD z)) w) : wpList P ops Q (o :: rest) a w := by
  refine wpList_plain hg fun K' hK' => ?_
  unfold Oper.wp
  simp [execOp, hop, hm, hx, h.run_lookupK ht k K hz false, Result.andThen]
  exact hK' _ _ hK
theorem wpList_mdelK (hg : o.guard = none) (m x : Operand) (hop : o.op = Op.call { callee := Callee.builtin Builtin.delete, args := #[m, x], argTypes := #[T, kt] }) (hm : a.eval m = .map (some b)) (h : MapAt enc w b l) (k : κ) (K : KeyIn P kt enc w k (l.map (·.1))) (hx : a.eval x = enc k)
    (hK : ∀ w', MapAt enc w' b (pdel l k) → Chg (fun j => j = b) w w' → wpList P ops Q rest (a.put o.dst (.tuple #[])) w') : wpList P ops Q (o :: rest) a w := by
  refine wpList_plain hg fun K' hK' => ?_
  obtain ⟨w', hrun, r1, r2⟩ := h.run_deleteK ht k K o.type
  unfold Oper.wp
  simp [execOp, hop, resolve, invoke, builtin, hm, hx, hrun, Result.andThen]
  exact hK' _ _ (hK w' r1 r2)
theorem wpList_mrange (hg : o.guard = none) (m : Operand) (hop : o.op = Op.range T m) (hm : a.eval m = .map (some b)) (h : MapAt enc w b l)
    (hK : ∀ ob, Ranges enc (w.alloc ob) b w.heap.size l l → wpList P ops Q rest (a.put o.dst (.pointer (some ⟨w.heap.size, 0, none⟩))) (w.alloc ob)) : wpList P ops Q (o :: rest) a w := by
  refine wpList_plain hg fun K' hK' => ?_
  obtain ⟨ob, hrun, h1⟩ := h.run_range ht
  unfold Oper.wp
  simp [execOp, hop, hm, hrun, Result.andThen]
  exact hK' _ _ (hK ob h1)
omit ht in
theorem wpList_mnext {r : Nat} {todo : List (κ × Value)} (hg : o.guard = none) (it : Operand) (hop : o.op = Op.next it false) (hit : a.eval it = .pointer (some ⟨r, 0, none⟩)) (h : Ranges enc w b r l todo)
    (hDone : todo = [] → wpList P ops Q rest (a.put o.dst (.tuple #[.bool false])) w)
    (hMore : ∀ (j : Nat) (hj : j < todo.length) (w' : World), Ranges enc w' b r l (todo.eraseIdx j) → Chg (fun k => k = r) w w' → w'.heap.size = w.heap.size → (Instr.entry (.pointer (some ⟨r, 0, none⟩))).run P w' = .ok (.tuple #[enc todo[j].1, todo[j].2]) w' →
      wpList P ops Q rest (a.put o.dst (.tuple #[.bool true, enc todo[j].1, todo[j].2])) w') : wpList P ops Q (o :: rest) a w := by
  refine wpList_plain hg fun K' hK' => ?_
  unfold Oper.wp
  rcases h.run_next (P := P) o.type with ⟨h0, hrun⟩ | ⟨j, hj, w', hrun, h1, h2, h3, h4⟩
  · simp [execOp, hop, hit, hrun, Result.andThen]
    exact hK' _ _ (hDone h0)
  · simp [execOp, hop, hit, hrun, Result.andThen]
    exact hK' _ _ (hMore j hj w' h1 h2 h3 h4)
end
end
end Go.Proofs.Ytbiaelaaihieeaa
