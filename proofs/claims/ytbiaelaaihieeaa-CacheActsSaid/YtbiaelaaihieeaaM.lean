/- Maps whose keys are told by what they are: what lies in them as a list of pairs. -/
import Derived.Test.YtbiaelaaihieeaaG
import Derived.Maps.OwnSet
set_option linter.unusedVariables false
set_option linter.unusedSectionVars false
set_option linter.unusedSimpArgs false
namespace Go.Proofs.Ytbiaelaaihieeaa
open Go.RowKit

/-- Keys of a type: how they are written, that they may be keys, how one is found. -/
structure Keys (P : Program) (kt : TypeId) {κ : Type} [DecidableEq κ] (enc : κ → Value) : Prop where
  check : ∀ (b : Bool) (k : κ) (w : World), (Instr.checkKey b 10000 kt (enc k)).run P w = .ok () w
  bits : ∀ k : κ, Instr.sameBits 10000 (enc k) (enc k) = true
  find : ∀ (k : κ) (l : List κ) (es : List MapEntry) (w : World), es.map (·.key) = l.map enc → (Instr.findKey kt (enc k) es).run P w = .ok ((l.findIdx? (fun x => decide (x = k))).bind fun i => es[i]?.map fun e => (i, e.val)) w

section
variable {κ : Type} [DecidableEq κ]
theorem findNow_spec (kind : TypeDesc) (enc : κ → Value) (hs : ∀ a b, Instr.sameNow kind (enc a) (enc b) = some (decide (a = b))) (k : κ) :
    ∀ (l : List κ) (es : List MapEntry) (j : Nat), es.map (·.key) = l.map enc → Instr.findNow kind (enc k) es j = some ((l.findIdx? (fun x => decide (x = k))).bind fun i => es[i]?.map fun e => (j + i, e.val))
  | [], [], _, _ => rfl
  | [], _ :: _, _, h => by simp at h
  | _ :: _, [], _, h => by simp at h
  | x :: l, e :: es, j, h => by
    simp only [List.map_cons, List.cons.injEq] at h
    rw [Instr.findNow, h.1, hs]
    by_cases hx : k = x
    · subst hx
      simp [List.findIdx?_cons]
    · have hx' : ¬ x = k := fun e => hx e.symm
      simp only [hx, decide_false, List.findIdx?_cons, hx']
      rw [findNow_spec kind enc hs k l es (j + 1) h.2]
      cases l.findIdx? (fun x => decide (x = k)) with
      | none => rfl
      | some i => simp [Nat.add_assoc, Nat.add_comm 1 i]
theorem check_plain {P : Program} {kt : TypeId} {v : Value} (b : Bool) (n : Nat) (w : World) (h : (∃ q, P.underlying kt = some (.int q)) ∨ P.underlying kt = some .string ∨ P.underlying kt = some .bool ∨ ∃ e, P.underlying kt = some (.pointer e)) : (Instr.checkKey b (n + 1) kt v).run P w = .ok () w := by
  rcases h with ⟨q, h⟩ | h | h | ⟨e, h⟩ <;> simp [Instr.checkKey, run_underlying h]
theorem bytes_beq (a b : ByteArray) : (a == b) = decide (a = b) := by
  rw [Bool.eq_iff_iff, decide_eq_true_iff]
  constructor
  · intro h
    obtain ⟨a⟩ := a
    obtain ⟨b⟩ := b
    have h' : (a == b) = true := h
    rw [beq_iff_eq.1 h']
  · rintro rfl
    obtain ⟨a⟩ := a
    show (a == a) = true
    exact beq_self_eq_true a
theorem int_keys {P : Program} {kt : TypeId} {q : IntKind} (h : P.underlying kt = some (.int q)) : Keys P kt (fun k : Int => .int q k) where
  check b k w := by
    exact check_plain b 9999 w (.inl ⟨q, h⟩)
  bits k := by simp [Instr.sameBits]
  find k l es w hl := by
    simp only [Instr.findKey, Sem.run_bind, run_underlying h, Result.andThen_ok]
    rw [findNow_spec (.int q) (fun k : Int => Value.int q k) (fun a b => by simp only [Instr.sameNow, if_true]; congr 1) k l es 0 hl]
    simp
theorem string_keys {P : Program} {kt : TypeId} (h : P.underlying kt = some .string) : Keys P kt (fun k : ByteArray => .string k) where
  check b k w := by
    exact check_plain b 9999 w (.inr (.inl h))
  bits k := by rw [Instr.sameBits, bytes_beq]; simp
  find k l es w hl := by
    simp only [Instr.findKey, Sem.run_bind, run_underlying h, Result.andThen_ok]
    rw [findNow_spec .string (fun k : ByteArray => Value.string k) (fun a b => by simp [Instr.sameNow, bytes_beq]) k l es 0 hl]
    simp

/-- What a map of pairs has under a key; with one more; without one. -/
def pget (l : List (κ × Value)) (k : κ) : Option Value := (l.find? (fun p => decide (p.1 = k))).map (·.2)
def pput (l : List (κ × Value)) (k : κ) (v : Value) : List (κ × Value) := if l.any (fun p => decide (p.1 = k)) then l.map (fun p => if p.1 = k then (k, v) else p) else l ++ [(k, v)]
def pdel (l : List (κ × Value)) (k : κ) : List (κ × Value) := l.filter (fun p => !decide (p.1 = k))

/-- Block b is a map of just these pairs, each key once. -/
def MapAt (enc : κ → Value) (w : World) (b : Nat) (l : List (κ × Value)) : Prop :=
  ∃ es clock, blkOf w b = some (.map es clock) ∧ es.toList.map (fun e => (e.key, e.val)) = l.map (fun p => (enc p.1, p.2)) ∧ (l.map (·.1)).Nodup ∧ (es.toList.map (·.born)).Nodup ∧ ∀ e ∈ es.toList, e.born < clock

theorem MapAt.lt {enc : κ → Value} {w : World} {b : Nat} {l : List (κ × Value)} (h : MapAt enc w b l) : b < w.heap.size := by
  obtain ⟨es, clock, hb, _⟩ := h
  exact (Array.getElem?_eq_some_iff.1 hb).1
theorem MapAt.of_blk {enc : κ → Value} {w w' : World} {b : Nat} {l : List (κ × Value)} (h : MapAt enc w b l) (e : blkOf w' b = blkOf w b) : MapAt enc w' b l := by
  unfold MapAt at *
  rw [e]; exact h
theorem MapAt.new (enc : κ → Value) (w : World) : MapAt enc (w.alloc (.map #[] 0)) w.heap.size ([] : List (κ × Value)) := ⟨#[], 0, blk_new _ _, rfl, by simp, by simp, by simp⟩
theorem map_ne_blk {enc : κ → Value} {w : World} {b g : Nat} {l : List (κ × Value)} {t : TypeId} {cs : Array Value} (h : MapAt enc w b l) (hg : blkOf w g = some (.cells cs t (0, 0))) : b ≠ g := by
  rintro rfl
  obtain ⟨es, clock, hb, _⟩ := h
  rw [hb] at hg; cases hg
theorem own_ne_map {enc : κ → Value} {w : World} {b : Nat} {l : List (κ × Value)} (h : MapAt enc w b l) {base : Nat} {e : TypeId} {size n : Nat} {v : Value} {xs : List Value} (ho : w.ownsRow base e size v n xs) : v.ownBlock ≠ some b := by
  rcases ho.2 with ⟨rfl, _⟩ | ⟨g', cap, cur, rfl, _, hh, _⟩
  · simp [Value.ownBlock]
  · intro he
    have : g' = b := by simpa [Value.ownBlock] using he
    subst this
    exact map_ne_blk h (g := g') hh rfl

theorem keys_of {enc : κ → Value} {es : List MapEntry} {l : List (κ × Value)} (h : es.map (fun e => (e.key, e.val)) = l.map (fun p => (enc p.1, p.2))) : es.map (·.key) = (l.map (·.1)).map enc := by
  have := congrArg (List.map Prod.fst) h
  simpa [List.map_map, Function.comp_def] using this
theorem vals_of {enc : κ → Value} {es : List MapEntry} {l : List (κ × Value)} (h : es.map (fun e => (e.key, e.val)) = l.map (fun p => (enc p.1, p.2))) : es.map (·.val) = l.map (·.2) := by
  have := congrArg (List.map Prod.snd) h
  simpa [List.map_map, Function.comp_def] using this
theorem pget_idx (l : List (κ × Value)) (k : κ) : pget l k = ((l.map (·.1)).findIdx? (fun x => decide (x = k))).bind fun i => (l.map (·.2))[i]? := by
  induction l with
  | nil => rfl
  | cons p l ih =>
    by_cases h : p.1 = k
    · simp [pget, h, List.findIdx?_cons]
    · have : pget (p :: l) k = pget l k := by simp [pget, h]
      rw [this, ih]
      simp only [List.map_cons, List.findIdx?_cons, h, decide_false]
      cases (List.map (fun x => x.fst) l).findIdx? fun x => decide (x = k) with
      | none => rfl
      | some i => simp

theorem run_getObj_map {P : Program} {w : World} {b : Nat} {es : Array MapEntry} {c : Nat} (h : blkOf w b = some (.map es c)) : (getObj b).run P w = .ok (.map es c) w := by
  unfold blkOf at h
  simp [getObj, Sem.run, h]
theorem run_setObj_map {P : Program} {w : World} {b : Nat} {es : Array MapEntry} {c : Nat} (o : Obj) (h : blkOf w b = some (.map es c)) : (setObj b o).run P w = .ok () { w with heap := w.heap.setIfInBounds b o } := by
  unfold blkOf at h
  simp [setObj, Sem.run, h]
theorem blk_put {w : World} {b : Nat} {o o' : Obj} (h : blkOf w b = some o') : blkOf { w with heap := w.heap.setIfInBounds b o } b = some o := by
  have hlt : b < w.heap.size := (Array.getElem?_eq_some_iff.1 h).1
  simp [blkOf, hlt]
theorem chg_put (w : World) (b : Nat) (o : Obj) : Chg (fun k => k = b) w { w with heap := w.heap.setIfInBounds b o } :=
  ⟨rfl, rfl, rfl, by simp, fun k _ hn => by simp [Array.getElem?_setIfInBounds_ne (fun e => hn e.symm)]⟩

section
variable {P : Program} {kt vt T : TypeId} {enc : κ → Value} (K : Keys P kt enc) (ht : P.underlying T = some (.map kt vt)) {w : World} {b : Nat} {l : List (κ × Value)}
include K ht
theorem MapAt.run_lookup (h : MapAt enc w b l) (k : κ) {z : Value} (hz : (zeroValue vt).run P w = .ok z w) (c : Bool) :
    (Instr.lookup T (.map (some b)) (enc k) c).run P w = .ok (if c then .tuple #[(pget l k).getD z, .bool (pget l k).isSome] else (pget l k).getD z) w := by
  obtain ⟨es, clock, hb, hl, hn, hbn, hbl⟩ := h
  simp only [Instr.lookup, Sem.run_bind, run_underlying ht, Result.andThen_ok, run_getObj_map hb, Sem.run_pure, K.check, K.find k (l.map (·.1)) es.toList w (keys_of hl)]
  rw [pget_idx]
  cases hi : (l.map (·.1)).findIdx? (fun x => decide (x = k)) with
  | none => simp [hz, Result.andThen]
  | some i =>
    have hlt : i < l.length := by
      have := List.findIdx?_eq_some_iff_findIdx_eq.1 hi
      simpa using this.1
    have hle : es.toList.length = l.length := by have := congrArg List.length hl; simpa using this
    have hv : (es.toList[i]?).map (·.val) = (l.map (·.2))[i]? := by rw [← vals_of hl]; simp
    cases he : es.toList[i]? with
    | none => rw [List.getElem?_eq_none_iff] at he; omega
    | some e =>
      rw [he] at hv
      simp only [Option.bind_some, ← hv, Option.map_some, he]
      simp [Result.andThen]
omit K ht in
theorem map_erase {α β : Type} (f : α → β) : ∀ (l : List α) (i : Nat), (l.eraseIdx i).map f = (l.map f).eraseIdx i
  | [], _ => rfl
  | _ :: _, 0 => rfl
  | x :: l, i + 1 => by simp [map_erase f l i]
omit K ht in
theorem idx_lt {l : List κ} {k : κ} {i : Nat} (h : l.findIdx? (fun x => decide (x = k)) = some i) : ∃ hi : i < l.length, l[i] = k ∧ ∀ j, ∀ hj : j < i, l[j] ≠ k := by
  obtain ⟨h1, h2, h3⟩ := List.findIdx?_eq_some_iff_getElem.1 h
  exact ⟨h1, by simpa using h2, fun j hj => by simpa using h3 j hj⟩
omit K ht in
theorem idx_none {l : List κ} {k : κ} (h : l.findIdx? (fun x => decide (x = k)) = none) : k ∉ l := by
  rw [List.findIdx?_eq_none_iff] at h
  intro hk
  simpa using h k hk
omit K ht in
theorem pput_none {l : List (κ × Value)} {k : κ} {v : Value} (h : k ∉ l.map (·.1)) : pput l k v = l ++ [(k, v)] := by
  unfold pput
  rw [if_neg]
  simp only [List.any_eq_true, decide_eq_true_eq, not_exists, not_and]
  intro p hp e
  exact h (List.mem_map.2 ⟨p, hp, e⟩)
omit K ht in
theorem pput_some {l : List (κ × Value)} {k : κ} {v : Value} {i : Nat} (hn : (l.map (·.1)).Nodup) (hi : i < l.length) (hk : (l[i]).1 = k) : pput l k v = l.set i (k, v) := by
  unfold pput
  rw [if_pos (by simp only [List.any_eq_true, decide_eq_true_eq]; exact ⟨l[i], List.getElem_mem hi, hk⟩)]
  apply List.ext_getElem
  · simp
  · intro j h1 h2
    rw [List.getElem_map, List.getElem_set]
    have hj : j < l.length := by simpa using h1
    by_cases hij : i = j
    · subst hij; rw [if_pos hk, if_pos rfl]
    · rw [if_neg hij, if_neg]
      intro e
      have hp := List.pairwise_iff_getElem.1 hn
      rcases Nat.lt_or_gt_of_ne hij with hlt | hlt
      · exact hp i j (by simpa using hi) (by simpa using hj) hlt (by simp [hk, e])
      · exact hp j i (by simpa using hj) (by simpa using hi) hlt (by simp [hk, e])
omit K ht in
theorem pdel_none {l : List (κ × Value)} {k : κ} (h : k ∉ l.map (·.1)) : pdel l k = l := by
  unfold pdel
  rw [List.filter_eq_self]
  intro p hp
  simp only [Bool.not_eq_true', decide_eq_false_iff_not]
  exact fun e => h (List.mem_map.2 ⟨p, hp, e⟩)
omit K ht in
theorem pdel_some {l : List (κ × Value)} {k : κ} {i : Nat} (hn : (l.map (·.1)).Nodup) (hi : i < l.length) (hk : (l[i]).1 = k) : pdel l k = l.eraseIdx i := by
  induction l generalizing i with
  | nil => simp at hi
  | cons p l ih =>
    simp only [List.map_cons, List.nodup_cons] at hn
    cases i with
    | zero =>
      simp only [List.getElem_cons_zero] at hk
      have : pdel (p :: l) k = pdel l k := by simp [pdel, hk]
      rw [this, List.eraseIdx_cons_zero]
      exact pdel_none (by rw [← hk]; exact hn.1)
    | succ i =>
      simp only [List.getElem_cons_succ] at hk
      have hne : p.1 ≠ k := fun e => hn.1 (by rw [e, ← hk]; exact List.mem_map.2 ⟨_, List.getElem_mem _, rfl⟩)
      have : pdel (p :: l) k = p :: pdel l k := by simp [pdel, hne]
      rw [this, List.eraseIdx_cons_succ, ih hn.2 (by simpa using hi) hk]
theorem MapAt.run_update (h : MapAt enc w b l) (k : κ) (v : Value) : ∃ w', (Instr.mapUpdate T (.map (some b)) (enc k) v).run P w = .ok () w' ∧ MapAt enc w' b (pput l k v) ∧ Chg (fun j => j = b) w w' := by
  obtain ⟨es, clock, hb, hl, hn, hbn, hbl⟩ := h
  have hle : es.toList.length = l.length := by have := congrArg List.length hl; simpa using this
  cases hi : (l.map (·.1)).findIdx? (fun x => decide (x = k)) with
  | none =>
    refine ⟨_, ?_, ?_, chg_put w b (.map (es.push { key := enc k, val := v, born := clock }) (clock + 1))⟩
    · simp only [Instr.mapUpdate, Sem.run_bind, run_underlying ht, Result.andThen_ok, run_getObj_map hb, K.check, K.find k (l.map (·.1)) es.toList w (keys_of hl), hi, Option.bind_none, run_setObj_map _ hb]
    · refine ⟨_, _, blk_put hb, ?_, ?_, ?_, ?_⟩
      · rw [pput_none (idx_none hi)]; simp [hl]
      · rw [pput_none (idx_none hi)]
        simp only [List.map_append, List.map_cons, List.map_nil]
        rw [List.nodup_append]
        exact ⟨hn, by simp, fun x hx y hy => by simp at hy; subst hy; exact fun e => idx_none hi (e ▸ hx)⟩
      · simp only [Array.toList_push, List.map_append, List.map_cons, List.map_nil]
        rw [List.nodup_append]
        refine ⟨hbn, by simp, fun x hx y hy => ?_⟩
        simp at hy; subst hy
        obtain ⟨e, he, rfl⟩ := List.mem_map.1 hx
        exact Nat.ne_of_lt (hbl e he)
      · intro e he
        simp only [Array.toList_push, List.mem_append, List.mem_singleton] at he
        rcases he with he | rfl
        · exact Nat.lt_succ_of_lt (hbl e he)
        · exact Nat.lt_succ_self _
  | some i =>
    obtain ⟨hlt, hk, _⟩ := idx_lt hi
    have hlt' : i < l.length := by simpa using hlt
    have hes : i < es.size := by rw [← Array.length_toList, hle]; exact hlt'
    have hkey : es[i].key = enc k := by
      have h1 : (es.toList.map (·.key))[i]? = ((l.map (·.1)).map enc)[i]? := by rw [keys_of hl]
      have hk' : (l[i]'hlt').1 = k := by simpa using hk
      simpa [hes, hlt', hk'] using h1
    refine ⟨_, ?_, ?_, chg_put w b (.map (es.modify i fun e => { e with key := enc k, val := v }) clock)⟩
    · simp only [Instr.mapUpdate, Sem.run_bind, run_underlying ht, Result.andThen_ok, run_getObj_map hb, K.check, K.find k (l.map (·.1)) es.toList w (keys_of hl), hi, Option.bind_some]
      have he : es.toList[i]? = some es[i] := by simp [hes]
      have hst : (Instr.keyThatStays (((es[i]?).map (·.key)).getD (enc k)) (enc k)).run P w = .ok (enc k) w := by
        simp [Instr.keyThatStays, hes, hkey, K.bits]
      simp only [he, Option.map_some, Sem.run_bind, hst, Result.andThen_ok, run_setObj_map _ hb]
    · refine ⟨_, _, blk_put hb, ?_, ?_, ?_, ?_⟩
      · rw [pput_some hn hlt' (by simpa using hk), Array.toList_modify]
        apply List.ext_getElem
        · simp [hle]
        · intro j h1 h2
          simp only [List.getElem_map, List.getElem_modify, List.getElem_set]
          by_cases hij : i = j
          · subst hij; simp
          · simp only [if_neg hij]
            have h3 : (es.toList.map (fun e => (e.key, e.val)))[j]? = (l.map (fun p => (enc p.1, p.2)))[j]? := by rw [hl]
            have h4 : j < l.length := by simpa using h2
            have h5 : j < es.size := by rw [← Array.length_toList, hle]; exact h4
            simpa [h4, h5] using h3
      · rw [pput_some hn hlt' (by simpa using hk)]
        have : (l.set i (k, v)).map (·.1) = l.map (·.1) := by
          apply List.ext_getElem
          · simp
          · intro j h1 h2
            simp only [List.getElem_map, List.getElem_set]
            by_cases hij : i = j
            · subst hij; simpa using hk.symm
            · simp [if_neg hij]
        rw [this]; exact hn
      · have : (es.modify i fun e => { e with key := enc k, val := v }).toList.map (·.born) = es.toList.map (·.born) := by
          rw [Array.toList_modify]
          apply List.ext_getElem
          · simp
          · intro j h1 h2
            simp only [List.getElem_map, List.getElem_modify]
            split <;> rfl
        rw [this]; exact hbn
      · intro e he
        rw [Array.toList_modify] at he
        obtain ⟨j, hj, rfl⟩ := List.mem_iff_getElem.1 he
        rw [List.getElem_modify]
        have := hbl (es.toList[j]'(by simpa using hj)) (List.getElem_mem _)
        split <;> exact this
theorem MapAt.run_delete (h : MapAt enc w b l) (k : κ) (ty : TypeId) : ∃ w', (Builtin.delete_ #[T, kt] ty #[.map (some b), enc k]).run P w = .ok (.tuple #[]) w' ∧ MapAt enc w' b (pdel l k) ∧ Chg (fun j => j = b) w w' := by
  obtain ⟨es, clock, hb, hl, hn, hbn, hbl⟩ := h
  have hle : es.toList.length = l.length := by have := congrArg List.length hl; simpa using this
  cases hi : (l.map (·.1)).findIdx? (fun x => decide (x = k)) with
  | none =>
    refine ⟨_, ?_, ?_, chg_put w b (.map es clock)⟩
    · simp [Builtin.delete_, run_underlying ht, run_getObj_map hb, K.check, K.find k (l.map (·.1)) es.toList w (keys_of hl), hi, run_setObj_map _ hb, Result.andThen]
    · exact ⟨_, _, blk_put hb, by rw [pdel_none (idx_none hi)]; exact hl, by rw [pdel_none (idx_none hi)]; exact hn, hbn, hbl⟩
  | some i =>
    obtain ⟨hlt, hk, _⟩ := idx_lt hi
    have hlt' : i < l.length := by simpa using hlt
    have hes : i < es.size := by rw [← Array.length_toList, hle]; exact hlt'
    refine ⟨_, ?_, ?_, chg_put w b (.map (es.eraseIdxIfInBounds i) clock)⟩
    · have he : es.toList[i]? = some es[i] := by simp [hes]
      simp [Builtin.delete_, run_underlying ht, run_getObj_map hb, K.check, K.find k (l.map (·.1)) es.toList w (keys_of hl), hi, he, run_setObj_map _ hb, Result.andThen, hes]
    · have e1 : (es.eraseIdxIfInBounds i).toList = es.toList.eraseIdx i := by simp
      refine ⟨_, _, blk_put hb, ?_, ?_, ?_, ?_⟩
      · rw [pdel_some hn hlt' (by simpa using hk), e1, map_erase, hl, map_erase]
      · rw [pdel_some hn hlt' (by simpa using hk), map_erase]; exact hn.sublist (List.eraseIdx_sublist _ _)
      · rw [e1, map_erase]; exact hbn.sublist (List.eraseIdx_sublist _ _)
      · intro e he
        rw [e1] at he
        exact hbl e ((List.eraseIdx_sublist _ _).subset he)
omit K in
theorem MapAt.run_len (h : MapAt enc w b l) (ty : TypeId) : (Builtin.len_ #[T] ty #[.map (some b)]).run P w = .ok (.int .i64 l.length) w := by
  obtain ⟨es, clock, hb, hl, _⟩ := h
  have hle : es.size = l.length := by have := congrArg List.length hl; simpa using this
  simp [Builtin.len_, run_underlying ht, run_getObj_map hb, Result.andThen, goInt, hle]
section
variable {ops : Array Oper} {rest : List Oper} {o : Oper} {a : Act} {Q : Exit → Act → World → Prop}
theorem wpList_mlook (hg : o.guard = none) (m x : Operand) (hop : o.op = Op.lookup T m x true) {z : Value} (hz : (zeroValue vt).run P w = .ok z w)
    (hm : a.eval m = .map (some b)) (h : MapAt enc w b l) (k : κ) (hx : a.eval x = enc k)
    (hK : wpList P ops Q rest (a.put o.dst (.tuple #[(pget l k).getD z, .bool (pget l k).isSome])) w) : wpList P ops Q (o :: rest) a w := by
  refine wpList_plain hg fun K' hK' => ?_
  unfold Oper.wp
  simp [execOp, hop, hm, hx, h.run_lookup K ht k hz true, Result.andThen]
  exact hK' _ _ hK
theorem wpList_mlook_some (hg : o.guard = none) (m x : Operand) (hop : o.op = Op.lookup T m x true) {z : Value} (hz : (zeroValue vt).run P w = .ok z w)
    (hm : a.eval m = .map (some b)) (h : MapAt enc w b l) (k : κ) (hx : a.eval x = enc k) (v : Value) (hv : pget l k = some v)
    (hK : wpList P ops Q rest (a.put o.dst (.tuple #[v, .bool true])) w) : wpList P ops Q (o :: rest) a w := by
  refine wpList_mlook K ht hg m x hop hz hm h k hx ?_
  rw [hv]; exact hK
theorem wpList_mget (hg : o.guard = none) (m x : Operand) (hop : o.op = Op.lookup T m x false) {z : Value} (hz : (zeroValue vt).run P w = .ok z w)
    (hm : a.eval m = .map (some b)) (h : MapAt enc w b l) (k : κ) (hx : a.eval x = enc k)
    (hK : wpList P ops Q rest (a.put o.dst ((pget l k).getD z)) w) : wpList P ops Q (o :: rest) a w := by
  refine wpList_plain hg fun K' hK' => ?_
  unfold Oper.wp
  simp [execOp, hop, hm, hx, h.run_lookup K ht k hz false, Result.andThen]
  exact hK' _ _ hK
theorem wpList_mput (hg : o.guard = none) (m x v : Operand) (hop : o.op = Op.mapUpdate T m x v) (hm : a.eval m = .map (some b)) (h : MapAt enc w b l) (k : κ) (hx : a.eval x = enc k) (val : Value) (hv : a.eval v = val)
    (hK : ∀ w', MapAt enc w' b (pput l k val) → Chg (fun j => j = b) w w' → wpList P ops Q rest (a.put o.dst undef) w') : wpList P ops Q (o :: rest) a w := by
  refine wpList_plain hg fun K' hK' => ?_
  obtain ⟨w', hrun, r1, r2⟩ := h.run_update K ht k val
  unfold Oper.wp
  simp [execOp, hop, hm, hx, hv, hrun, Result.andThen]
  exact hK' _ _ (hK w' r1 r2)
theorem wpList_mdel (hg : o.guard = none) (m x : Operand) (hop : o.op = Op.call { callee := Callee.builtin Builtin.delete, args := #[m, x], argTypes := #[T, kt] }) (hm : a.eval m = .map (some b)) (h : MapAt enc w b l) (k : κ) (hx : a.eval x = enc k)
    (hK : ∀ w', MapAt enc w' b (pdel l k) → Chg (fun j => j = b) w w' → wpList P ops Q rest (a.put o.dst (.tuple #[])) w') : wpList P ops Q (o :: rest) a w := by
  refine wpList_plain hg fun K' hK' => ?_
  obtain ⟨w', hrun, r1, r2⟩ := h.run_delete K ht k o.type
  unfold Oper.wp
  simp [execOp, hop, resolve, invoke, builtin, hm, hx, hrun, Result.andThen]
  exact hK' _ _ (hK w' r1 r2)
omit K in
theorem wpList_mlen (hg : o.guard = none) (m : Operand) (hop : o.op = Op.call { callee := Callee.builtin Builtin.len, args := #[m], argTypes := #[T] }) (hm : a.eval m = .map (some b)) (h : MapAt enc w b l)
    (hK : wpList P ops Q rest (a.put o.dst (.int .i64 l.length)) w) : wpList P ops Q (o :: rest) a w := by
  refine wpList_plain hg fun K' hK' => ?_
  unfold Oper.wp
  simp [execOp, hop, resolve, invoke, builtin, hm, h.run_len ht o.type, Result.andThen]
  exact hK' _ _ hK
end
end
end
end Go.Proofs.Ytbiaelaaihieeaa
