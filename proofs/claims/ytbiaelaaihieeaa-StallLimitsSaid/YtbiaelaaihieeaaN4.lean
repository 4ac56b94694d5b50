/- The document's limiter: asks. -/
import Derived.Test.YtbiaelaaihieeaaN3
import Derived.Deep.RegionLaw
set_option linter.unusedVariables false
set_option linter.unusedSimpArgs false
set_option maxRecDepth 100000
namespace Go.Proofs.Ytbiaelaaihieeaa
open Go.RowKit

set_option maxHeartbeats 800000 in
theorem rask_no (g : Nat) (L : Lim) (w : World) (who b : Int) (u : Bool) (ok : L.Ok) (hp : RAt w g L) (h : L.burst < b ∨ 4096 ≤ L.us.length + L.os.length) :
    Calls Try.prog 16 #[.pointer (some ⟨g, 0, none⟩), .int .i64 who, .int .u64 b, .bool u] w fun e w' => e = .returned (.int .i64 2) ∧ ∃ n, w' = w.drewN n := by
  refine calls_of fun R HR => ?_
  obtain ⟨A0, c0, A1, c1, hp⟩ := hp
  have hb := hp.blk
  have hm := ok.many
  by_cases h1 : L.burst < b
  · clear h hp ok
    go_enter Try.func16, Try.ntmps16
    go_wp2
    go_quiet (fail)
    go_wp2
    exact HR.out _ _ ⟨rfl, _, rfl⟩
  · have h2 : (4096 : Int) ≤ (L.us.length : Int) + (L.os.length : Int) := by omega
    have h3 : 4096 ≤ L.us.length + L.os.length := by omega
    have hw : IntKind.i64.wrap ((L.us.length : Int) + (L.os.length : Int)) = (L.us.length : Int) + (L.os.length : Int) := by rw [IntKind.wrap_i64]; omega
    clear h hp ok
    go_enter Try.func16, Try.ntmps16
    go_wp2
    go_quiet (fail)
    go_wp2
    exact HR.out _ _ ⟨rfl, _, rfl⟩
/-- A made row of none, in the block k. -/
theorem own_none {w : World} {k base e sz : Nat} (h : blkOf w k = some (.cells #[] e (0, 0))) (hb : base ≤ k) : w.ownsRow base e sz (.slice (some ⟨k, 0, none⟩) 0 0) 0 [] := by
  refine ⟨by simp, .inr ⟨k, 0, #[], rfl, hb, h, by simp, by simp [maxLen], by simp, by simp⟩⟩
theorem rd_blk {w : World} {k n sz t : Nat} {fr : Nat × Nat} {xs : List Value} (h : blkOf w k = some (.cells xs.toArray t fr)) (hl : xs.length = n * sz) : Rd w (k + 1) sz (some ⟨k, 0, none⟩) n xs :=
  ⟨hl, fun _ => ⟨k, 0, rfl, by omega, fun j u hu => by rw [Nat.zero_add, cell_of_row w k j xs.toArray t fr h]; simpa using hu⟩⟩
theorem rask_end0 {w w4 : World} {g B0 : Nat} {L : Lim} {A0 : Option Addr} {c0 : Nat} {A1 : Option Addr} {c1 : Nat} {A5 : Option Addr} {c5 : Nat} {x : Ask} (hp : RLim w g L A0 c0 A1 c1) (hc : Chg (fun k => k = g) w w4)
    (hb : blkOf w4 g = some (.cells #[.int .u64 L.rate, .int .u64 L.burst, .int .u64 L.left, .slice A0 L.us.length c0, .slice A1 L.os.length c1, .int .i64 L.row] 51 (0, 0)))
    (hown : w4.ownsRow B0 92 3 (.slice A5 (L.us.length + 1) c5) (L.us.length + 1) (asks L.us ++ askCells x)) (hcp : L.us.length + 1 ≤ c5) :
    RAt (w4.setCell ⟨g, 3, none⟩ (.slice A5 (L.us.length + 1) c5)) g { L with us := L.us ++ [x] } ∧ Chg (fun k => k = g) w (w4.setCell ⟨g, 3, none⟩ (.slice A5 (L.us.length + 1) c5)) := by
  have h1 : Chg (fun k => k = g) w4 (w4.setCell ⟨g, 3, none⟩ (.slice A5 (L.us.length + 1) c5)) := Chg.setCell (F := fun k => k = g) (Chg.refl _ w4) (p := ⟨g, 3, none⟩) (fun _ => rfl) _
  have h2 := Chg.trans hc h1 (H := fun k => k = g) (fun _ _ h => h) (fun _ _ h => h)
  have hF : ∀ (W : World) (cs0 : Array Value), blkOf W g = some (.cells cs0 51 (0, 0)) → ∀ k cs fr, blkOf W k = some (.cells cs 92 fr) → ¬ (k = g) := by
    rintro W cs0 h0 k cs fr hk rfl
    rw [h0] at hk
    injection hk with hk
    injection hk with _ ht
    exact absurd ht (by decide)
  have e : (L.us ++ [x]).length = L.us.length + 1 := by simp
  refine ⟨⟨A5, c5, A1, c1, ?_, ?_, hp.rd1.chg h2 (hF _ _ hp.blk), by simpa using hcp, hp.cap1⟩, h2⟩
  · rw [e]; simp [go_sem, hb]
  · have := (Rt.of_own hown).chg h1 (hF _ _ hb)
    rw [e]
    simpa [asks] using this
set_option maxHeartbeats 1600000 in
theorem rask_urgent (g : Nat) (L : Lim) (A0 : Option Addr) (c0 : Nat) (A1 : Option Addr) (c1 : Nat) (w : World) (who b : Int) (ok : L.Ok) (hp : RLim w g L A0 c0 A1 c1) (h1 : b ≤ L.burst) (h2 : L.us.length + L.os.length < 4096) :
    Calls Try.prog 16 #[.pointer (some ⟨g, 0, none⟩), .int .i64 who, .int .u64 b, .bool true] w fun e w' => e = .returned (.int .i64 0) ∧ RAt w' g { L with us := L.us ++ [(who, b, true)] } ∧ Chg (fun k => k = g) w w' := by
  refine calls_of fun R HR => ?_
  have hb := hp.blk
  have lg := Blk.lt hb
  have e1 : ¬ L.burst < b := by omega
  have e2 : ¬ (4096 : Int) ≤ (L.us.length : Int) + (L.os.length : Int) := by omega
  have hw : IntKind.i64.wrap ((L.us.length : Int) + (L.os.length : Int)) = (L.us.length : Int) + (L.os.length : Int) := by rw [IntKind.wrap_i64]; omega
  have Hp := hid hp
  clear ok hp
  obtain ⟨i0, hi0, hz0, hz1, hz2⟩ := info_parts Try.info92
  go_enter Try.func16, Try.ntmps16
  go_wp2
  go_quiet (fail)
  go_wp2
  have Hl := hid lg
  have lg1 : g < w.heap.size + 1 := by omega
  have lg2 : g < w.heap.size + 1 + 1 := by omega
  have ls2 : w.heap.size < w.heap.size + 1 + 1 := by omega
  have Hb := hid hb
  go_region_law ((first
    | (refine step_append_rd _ rfl (.tmp 36) (.tmp 40) _ rfl w.heap.size 92 i0 _ 3 24 Try.underlying49 hi0 hz0 hz1 hz2 rfl (by decide) (.slice (some ⟨w.heap.size + 1, 0, none⟩) 0 0) 0 [] rfl ?_ w.heap.size A0 L.us.length c0 (asks L.us) rfl ?_ ?_ ?_ ?_ ?_ ?_; exact own_none (by simp [go_sem]) (by omega); exact Rd.drewN (Rd.below Hp.out.rd0.rd (bl_alloc (bl_alloc (Below.refl _ _) _) _)) _; exact asks_one _; (simp only [maxLen]; omega); omega; (simp; omega); (intro v2 w2 hown2 hg2 hat2; simp only [Nat.zero_add, List.nil_append] at hown2; obtain ⟨A3, c3, rfl, _⟩ := own_shape hown2; have hba := gr_at hg2 (k := w.heap.size) (by simp; omega) (by simp [Value.ownBlock]); have hbg := (gr_at hg2 (k := g) (by simp; omega) (by simp [Value.ownBlock]; omega)).trans (((bl_alloc (bl_alloc (Below.refl w.heap.size w) _) _).block g Hl.out).trans Hb.out);  simp [go_sem] at hba; have hsz2 := hg2.size; have Hc2 := hid (Chg.grown (F := fun k => k = g) (Chg.drewN (Chg.of_below (bl_alloc (bl_alloc (Below.refl w.heap.size w) _) _)) _) hg2 (fun k hk hlt => by simp [Value.ownBlock] at hk; omega)); have Hown2 := hid hown2; have Hg2 := hid hg2; have Hat2 := hid hat2; clear hown2 hg2 hat2; simp at hsz2))
    | (refine step_append_rd _ rfl (.tmp 36) (.tmp 40) _ rfl w.heap.size 92 i0 _ 3 24 Try.underlying49 hi0 hz0 hz1 hz2 rfl (by decide) (.slice (some ⟨w.heap.size + 1, 0, none⟩) 0 0) 0 [] rfl ?_ w.heap.size A0 L.us.length c0 (asks L.us) rfl ?_ ?_ ?_ ?_ ?_ ?_; exact own_none (by simp [go_sem]) (by omega); exact Rd.drewN (Rd.below Hp.out.rd0.rd (bl_alloc (bl_alloc (bl_alloc (Below.refl _ _) _) _) _)) _; exact asks_one _; (simp only [maxLen]; omega); omega; (simp; omega); (intro v2 w2 hown2 hg2 hat2; simp only [Nat.zero_add, List.nil_append] at hown2; obtain ⟨A3, c3, rfl, _⟩ := own_shape hown2; have hba := gr_at hg2 (k := w.heap.size) (by simp; omega) (by simp [Value.ownBlock]); have hbg := (gr_at hg2 (k := g) (by simp; omega) (by simp [Value.ownBlock]; omega)).trans (((bl_alloc (bl_alloc (bl_alloc (Below.refl w.heap.size w) _) _) _).block g Hl.out).trans Hb.out); have hbp := gr_at hg2 (k := w.heap.size + 2) (by simp) (by simp [Value.ownBlock]); simp [go_sem] at hbp; simp [go_sem] at hba; have hsz2 := hg2.size; have Hc2 := hid (Chg.grown (F := fun k => k = g) (Chg.drewN (Chg.of_below (bl_alloc (bl_alloc (bl_alloc (Below.refl w.heap.size w) _) _) _)) _) hg2 (fun k hk hlt => by simp [Value.ownBlock] at hk; omega)); have Hown2 := hid hown2; have Hg2 := hid hg2; have Hat2 := hid hat2; clear hown2 hg2 hat2; simp at hsz2))
    | (refine step_append_rd _ rfl (.tmp 36) (.tmp 40) _ rfl w.heap.size 92 i0 _ 3 24 Try.underlying49 hi0 hz0 hz1 hz2 rfl (by decide) (.slice (some ⟨w.heap.size + 2, 0, none⟩) 0 0) 0 [] rfl ?_ w.heap.size A0 L.us.length c0 (asks L.us) rfl ?_ ?_ ?_ ?_ ?_ ?_; exact own_none (by simp [go_sem]) (by omega); exact Rd.drewN (Rd.below Hp.out.rd0.rd (bl_alloc (bl_alloc (bl_alloc (Below.refl _ _) _) _) _)) _; exact asks_one _; (simp only [maxLen]; omega); omega; (simp; omega); (intro v2 w2 hown2 hg2 hat2; simp only [Nat.zero_add, List.nil_append] at hown2; obtain ⟨A3, c3, rfl, _⟩ := own_shape hown2; have hba := gr_at hg2 (k := w.heap.size) (by simp; omega) (by simp [Value.ownBlock]); have hbg := (gr_at hg2 (k := g) (by simp; omega) (by simp [Value.ownBlock]; omega)).trans (((bl_alloc (bl_alloc (bl_alloc (Below.refl w.heap.size w) _) _) _).block g Hl.out).trans Hb.out); have hbp := gr_at hg2 (k := w.heap.size + 1) (by simp) (by simp [Value.ownBlock]); simp [go_sem] at hbp; simp [go_sem] at hba; have hsz2 := hg2.size; have Hc2 := hid (Chg.grown (F := fun k => k = g) (Chg.drewN (Chg.of_below (bl_alloc (bl_alloc (bl_alloc (Below.refl w.heap.size w) _) _) _)) _) hg2 (fun k hk hlt => by simp [Value.ownBlock] at hk; omega)); have Hown2 := hid hown2; have Hg2 := hid hg2; have Hat2 := hid hat2; clear hown2 hg2 hat2; simp at hsz2))
    | (refine step_append_rd _ rfl (.tmp 41) (.tmp 43) _ rfl w.heap.size 92 i0 _ 3 24 Try.underlying49 hi0 hz0 hz1 hz2 rfl (by decide) (.slice A3 L.us.length c3) L.us.length (asks L.us) rfl ?_ (w2.heap.size + 1) (some ⟨w2.heap.size, 0, none⟩) 1 1 (askCells (who, b, true)) rfl ?_ ?_ ?_ ?_ ?_ ?_; (first | exact Hown2.out.alloc _ | exact own_drewN (Hown2.out.alloc _) _); refine rd_blk (t := 92) (fr := (0, 0)) ?_ rfl; (simp [go_sem, *, askCells]); (simp [askCells, Value.oneCell']); (simp only [maxLen]; omega); omega; (simp; omega); (intro v4 w4 hown4 hg4 hat4; obtain ⟨A5, c5, rfl, hcp⟩ := own_shape hown4; have hbg4 := gr_at hg4 (k := g) (by simp; omega) (own_ne_cells Hown2.out hbg (by decide)); have hgl2 : g < w2.heap.size := (by omega); simp [go_sem, hbg, hgl2] at hbg4; have hsz4 := hg4.size; simp at hsz4; have Hc4 := hid (Chg.grown (F := fun k => k = g) (Chg.alloc Hc2.out _) hg4 (fun k hk hlt => by have := (Hown2.out.lt k hk).1; omega)); have Hcp := hid hcp; have Hown4 := hid hown4; have Hg4 := hid hg4; have Hat4 := hid hat4; clear hown4 hg4 hat4))
    | (refine step_append_rd _ rfl (.tmp 41) (.tmp 43) _ rfl w.heap.size 92 i0 _ 3 24 Try.underlying49 hi0 hz0 hz1 hz2 rfl (by decide) (.slice A3 L.us.length c3) L.us.length (asks L.us) rfl ?_ (w.heap.size + 1 + 1) (some ⟨w.heap.size + 1, 0, none⟩) 1 1 (askCells (who, b, true)) rfl ?_ ?_ ?_ ?_ ?_ ?_; exact Hown2.out; refine rd_blk (t := 92) (fr := (0, 0)) ?_ rfl; (simp [go_sem, *, askCells]); (simp [askCells, Value.oneCell']); (simp only [maxLen]; omega); omega; omega; (intro v4 w4 hown4 hg4 hat4; obtain ⟨A5, c5, rfl, hcp⟩ := own_shape hown4; have hbg4 := gr_at hg4 (k := g) (by omega) (own_ne_cells Hown2.out hbg (by decide)); have hgl2 : g < w2.heap.size := (by omega); simp [go_sem, hbg, hgl2] at hbg4; have hsz4 := hg4.size;  have Hc4 := hid (Chg.grown (F := fun k => k = g) (Hc2.out) hg4 (fun k hk hlt => by have := (Hown2.out.lt k hk).1; omega)); have Hcp := hid hcp; have Hown4 := hid hown4; have Hg4 := hid hg4; have Hat4 := hid hat4; clear hown4 hg4 hat4))
    | (refine step_append_rd _ rfl (.tmp 41) (.tmp 43) _ rfl w.heap.size 92 i0 _ 3 24 Try.underlying49 hi0 hz0 hz1 hz2 rfl (by decide) (.slice A3 L.us.length c3) L.us.length (asks L.us) rfl ?_ (w.heap.size + 2 + 1) (some ⟨w.heap.size + 2, 0, none⟩) 1 1 (askCells (who, b, true)) rfl ?_ ?_ ?_ ?_ ?_ ?_; exact Hown2.out; refine rd_blk (t := 92) (fr := (0, 0)) ?_ rfl; (simp [go_sem, *, askCells]); (simp [askCells, Value.oneCell']); (simp only [maxLen]; omega); omega; omega; (intro v4 w4 hown4 hg4 hat4; obtain ⟨A5, c5, rfl, hcp⟩ := own_shape hown4; have hbg4 := gr_at hg4 (k := g) (by omega) (own_ne_cells Hown2.out hbg (by decide)); have hgl2 : g < w2.heap.size := (by omega); simp [go_sem, hbg, hgl2] at hbg4; have hsz4 := hg4.size;  have Hc4 := hid (Chg.grown (F := fun k => k = g) (Hc2.out) hg4 (fun k hk hlt => by have := (Hown2.out.lt k hk).1; omega)); have Hcp := hid hcp; have Hown4 := hid hown4; have Hg4 := hid hg4; have Hat4 := hid hat4; clear hown4 hg4 hat4))
    ))
  all_goals
    go_wp2
    exact HR.out _ _ ⟨rfl, rask_end0 Hp.out Hc4.out hbg4 Hown4.out Hcp.out⟩
theorem rask_end1 {w w4 : World} {g B0 : Nat} {L : Lim} {A0 : Option Addr} {c0 : Nat} {A1 : Option Addr} {c1 : Nat} {A5 : Option Addr} {c5 : Nat} {x : Ask} (hp : RLim w g L A0 c0 A1 c1) (hc : Chg (fun k => k = g) w w4)
    (hb : blkOf w4 g = some (.cells #[.int .u64 L.rate, .int .u64 L.burst, .int .u64 L.left, .slice A0 L.us.length c0, .slice A1 L.os.length c1, .int .i64 L.row] 51 (0, 0)))
    (hown : w4.ownsRow B0 92 3 (.slice A5 (L.os.length + 1) c5) (L.os.length + 1) (asks L.os ++ askCells x)) (hcp : L.os.length + 1 ≤ c5) :
    RAt (w4.setCell ⟨g, 4, none⟩ (.slice A5 (L.os.length + 1) c5)) g { L with os := L.os ++ [x] } ∧ Chg (fun k => k = g) w (w4.setCell ⟨g, 4, none⟩ (.slice A5 (L.os.length + 1) c5)) := by
  have h1 : Chg (fun k => k = g) w4 (w4.setCell ⟨g, 4, none⟩ (.slice A5 (L.os.length + 1) c5)) := Chg.setCell (F := fun k => k = g) (Chg.refl _ w4) (p := ⟨g, 4, none⟩) (fun _ => rfl) _
  have h2 := Chg.trans hc h1 (H := fun k => k = g) (fun _ _ h => h) (fun _ _ h => h)
  have hF : ∀ (W : World) (cs0 : Array Value), blkOf W g = some (.cells cs0 51 (0, 0)) → ∀ k cs fr, blkOf W k = some (.cells cs 92 fr) → ¬ (k = g) := by
    rintro W cs0 h0 k cs fr hk rfl
    rw [h0] at hk
    injection hk with hk
    injection hk with _ ht
    exact absurd ht (by decide)
  have e : (L.os ++ [x]).length = L.os.length + 1 := by simp
  refine ⟨⟨A0, c0, A5, c5, ?_, hp.rd0.chg h2 (hF _ _ hp.blk), ?_, hp.cap0, by simpa using hcp⟩, h2⟩
  · rw [e]; simp [go_sem, hb]
  · have := (Rt.of_own hown).chg h1 (hF _ _ hb)
    rw [e]
    simpa [asks] using this
set_option maxHeartbeats 1600000 in
theorem rask_other (g : Nat) (L : Lim) (A0 : Option Addr) (c0 : Nat) (A1 : Option Addr) (c1 : Nat) (w : World) (who b : Int) (ok : L.Ok) (hp : RLim w g L A0 c0 A1 c1) (h1 : b ≤ L.burst) (h2 : L.us.length + L.os.length < 4096) :
    Calls Try.prog 16 #[.pointer (some ⟨g, 0, none⟩), .int .i64 who, .int .u64 b, .bool false] w fun e w' => e = .returned (.int .i64 0) ∧ RAt w' g { L with os := L.os ++ [(who, b, false)] } ∧ Chg (fun k => k = g) w w' := by
  refine calls_of fun R HR => ?_
  have hb := hp.blk
  have lg := Blk.lt hb
  have e1 : ¬ L.burst < b := by omega
  have e2 : ¬ (4096 : Int) ≤ (L.us.length : Int) + (L.os.length : Int) := by omega
  have hw : IntKind.i64.wrap ((L.us.length : Int) + (L.os.length : Int)) = (L.us.length : Int) + (L.os.length : Int) := by rw [IntKind.wrap_i64]; omega
  have Hp := hid hp
  clear ok hp
  obtain ⟨i0, hi0, hz0, hz1, hz2⟩ := info_parts Try.info92
  go_enter Try.func16, Try.ntmps16
  go_wp2
  go_quiet (fail)
  go_wp2
  have Hl := hid lg
  have lg1 : g < w.heap.size + 1 := by omega
  have lg2 : g < w.heap.size + 1 + 1 := by omega
  have ls2 : w.heap.size < w.heap.size + 1 + 1 := by omega
  have Hb := hid hb
  go_region_law ((first
    | (refine step_append_rd _ rfl (.tmp 48) (.tmp 52) _ rfl w.heap.size 92 i0 _ 3 24 Try.underlying49 hi0 hz0 hz1 hz2 rfl (by decide) (.slice (some ⟨w.heap.size + 1, 0, none⟩) 0 0) 0 [] rfl ?_ w.heap.size A1 L.os.length c1 (asks L.os) rfl ?_ ?_ ?_ ?_ ?_ ?_; exact own_none (by simp [go_sem]) (by omega); exact Rd.drewN (Rd.below Hp.out.rd1.rd (bl_alloc (bl_alloc (Below.refl _ _) _) _)) _; exact asks_one _; (simp only [maxLen]; omega); omega; (simp; omega); (intro v2 w2 hown2 hg2 hat2; simp only [Nat.zero_add, List.nil_append] at hown2; obtain ⟨A3, c3, rfl, _⟩ := own_shape hown2; have hba := gr_at hg2 (k := w.heap.size) (by simp; omega) (by simp [Value.ownBlock]); have hbg := (gr_at hg2 (k := g) (by simp; omega) (by simp [Value.ownBlock]; omega)).trans (((bl_alloc (bl_alloc (Below.refl w.heap.size w) _) _).block g Hl.out).trans Hb.out);  simp [go_sem] at hba; have hsz2 := hg2.size; have Hc2 := hid (Chg.grown (F := fun k => k = g) (Chg.drewN (Chg.of_below (bl_alloc (bl_alloc (Below.refl w.heap.size w) _) _)) _) hg2 (fun k hk hlt => by simp [Value.ownBlock] at hk; omega)); have Hown2 := hid hown2; have Hg2 := hid hg2; have Hat2 := hid hat2; clear hown2 hg2 hat2; simp at hsz2))
    | (refine step_append_rd _ rfl (.tmp 48) (.tmp 52) _ rfl w.heap.size 92 i0 _ 3 24 Try.underlying49 hi0 hz0 hz1 hz2 rfl (by decide) (.slice (some ⟨w.heap.size + 1, 0, none⟩) 0 0) 0 [] rfl ?_ w.heap.size A1 L.os.length c1 (asks L.os) rfl ?_ ?_ ?_ ?_ ?_ ?_; exact own_none (by simp [go_sem]) (by omega); exact Rd.drewN (Rd.below Hp.out.rd1.rd (bl_alloc (bl_alloc (bl_alloc (Below.refl _ _) _) _) _)) _; exact asks_one _; (simp only [maxLen]; omega); omega; (simp; omega); (intro v2 w2 hown2 hg2 hat2; simp only [Nat.zero_add, List.nil_append] at hown2; obtain ⟨A3, c3, rfl, _⟩ := own_shape hown2; have hba := gr_at hg2 (k := w.heap.size) (by simp; omega) (by simp [Value.ownBlock]); have hbg := (gr_at hg2 (k := g) (by simp; omega) (by simp [Value.ownBlock]; omega)).trans (((bl_alloc (bl_alloc (bl_alloc (Below.refl w.heap.size w) _) _) _).block g Hl.out).trans Hb.out); have hbp := gr_at hg2 (k := w.heap.size + 2) (by simp) (by simp [Value.ownBlock]); simp [go_sem] at hbp; simp [go_sem] at hba; have hsz2 := hg2.size; have Hc2 := hid (Chg.grown (F := fun k => k = g) (Chg.drewN (Chg.of_below (bl_alloc (bl_alloc (bl_alloc (Below.refl w.heap.size w) _) _) _)) _) hg2 (fun k hk hlt => by simp [Value.ownBlock] at hk; omega)); have Hown2 := hid hown2; have Hg2 := hid hg2; have Hat2 := hid hat2; clear hown2 hg2 hat2; simp at hsz2))
    | (refine step_append_rd _ rfl (.tmp 48) (.tmp 52) _ rfl w.heap.size 92 i0 _ 3 24 Try.underlying49 hi0 hz0 hz1 hz2 rfl (by decide) (.slice (some ⟨w.heap.size + 2, 0, none⟩) 0 0) 0 [] rfl ?_ w.heap.size A1 L.os.length c1 (asks L.os) rfl ?_ ?_ ?_ ?_ ?_ ?_; exact own_none (by simp [go_sem]) (by omega); exact Rd.drewN (Rd.below Hp.out.rd1.rd (bl_alloc (bl_alloc (bl_alloc (Below.refl _ _) _) _) _)) _; exact asks_one _; (simp only [maxLen]; omega); omega; (simp; omega); (intro v2 w2 hown2 hg2 hat2; simp only [Nat.zero_add, List.nil_append] at hown2; obtain ⟨A3, c3, rfl, _⟩ := own_shape hown2; have hba := gr_at hg2 (k := w.heap.size) (by simp; omega) (by simp [Value.ownBlock]); have hbg := (gr_at hg2 (k := g) (by simp; omega) (by simp [Value.ownBlock]; omega)).trans (((bl_alloc (bl_alloc (bl_alloc (Below.refl w.heap.size w) _) _) _).block g Hl.out).trans Hb.out); have hbp := gr_at hg2 (k := w.heap.size + 1) (by simp) (by simp [Value.ownBlock]); simp [go_sem] at hbp; simp [go_sem] at hba; have hsz2 := hg2.size; have Hc2 := hid (Chg.grown (F := fun k => k = g) (Chg.drewN (Chg.of_below (bl_alloc (bl_alloc (bl_alloc (Below.refl w.heap.size w) _) _) _)) _) hg2 (fun k hk hlt => by simp [Value.ownBlock] at hk; omega)); have Hown2 := hid hown2; have Hg2 := hid hg2; have Hat2 := hid hat2; clear hown2 hg2 hat2; simp at hsz2))
    | (refine step_append_rd _ rfl (.tmp 53) (.tmp 55) _ rfl w.heap.size 92 i0 _ 3 24 Try.underlying49 hi0 hz0 hz1 hz2 rfl (by decide) (.slice A3 L.os.length c3) L.os.length (asks L.os) rfl ?_ (w2.heap.size + 1) (some ⟨w2.heap.size, 0, none⟩) 1 1 (askCells (who, b, false)) rfl ?_ ?_ ?_ ?_ ?_ ?_; (first | exact Hown2.out.alloc _ | exact own_drewN (Hown2.out.alloc _) _); refine rd_blk (t := 92) (fr := (0, 0)) ?_ rfl; (simp [go_sem, *, askCells]); (simp [askCells, Value.oneCell']); (simp only [maxLen]; omega); omega; (simp; omega); (intro v4 w4 hown4 hg4 hat4; obtain ⟨A5, c5, rfl, hcp⟩ := own_shape hown4; have hbg4 := gr_at hg4 (k := g) (by simp; omega) (own_ne_cells Hown2.out hbg (by decide)); have hgl2 : g < w2.heap.size := (by omega); simp [go_sem, hbg, hgl2] at hbg4; have hsz4 := hg4.size; simp at hsz4; have Hc4 := hid (Chg.grown (F := fun k => k = g) (Chg.alloc Hc2.out _) hg4 (fun k hk hlt => by have := (Hown2.out.lt k hk).1; omega)); have Hcp := hid hcp; have Hown4 := hid hown4; have Hg4 := hid hg4; have Hat4 := hid hat4; clear hown4 hg4 hat4))
    | (refine step_append_rd _ rfl (.tmp 53) (.tmp 55) _ rfl w.heap.size 92 i0 _ 3 24 Try.underlying49 hi0 hz0 hz1 hz2 rfl (by decide) (.slice A3 L.os.length c3) L.os.length (asks L.os) rfl ?_ (w.heap.size + 1 + 1) (some ⟨w.heap.size + 1, 0, none⟩) 1 1 (askCells (who, b, false)) rfl ?_ ?_ ?_ ?_ ?_ ?_; exact Hown2.out; refine rd_blk (t := 92) (fr := (0, 0)) ?_ rfl; (simp [go_sem, *, askCells]); (simp [askCells, Value.oneCell']); (simp only [maxLen]; omega); omega; omega; (intro v4 w4 hown4 hg4 hat4; obtain ⟨A5, c5, rfl, hcp⟩ := own_shape hown4; have hbg4 := gr_at hg4 (k := g) (by omega) (own_ne_cells Hown2.out hbg (by decide)); have hgl2 : g < w2.heap.size := (by omega); simp [go_sem, hbg, hgl2] at hbg4; have hsz4 := hg4.size;  have Hc4 := hid (Chg.grown (F := fun k => k = g) (Hc2.out) hg4 (fun k hk hlt => by have := (Hown2.out.lt k hk).1; omega)); have Hcp := hid hcp; have Hown4 := hid hown4; have Hg4 := hid hg4; have Hat4 := hid hat4; clear hown4 hg4 hat4))
    | (refine step_append_rd _ rfl (.tmp 53) (.tmp 55) _ rfl w.heap.size 92 i0 _ 3 24 Try.underlying49 hi0 hz0 hz1 hz2 rfl (by decide) (.slice A3 L.os.length c3) L.os.length (asks L.os) rfl ?_ (w.heap.size + 2 + 1) (some ⟨w.heap.size + 2, 0, none⟩) 1 1 (askCells (who, b, false)) rfl ?_ ?_ ?_ ?_ ?_ ?_; exact Hown2.out; refine rd_blk (t := 92) (fr := (0, 0)) ?_ rfl; (simp [go_sem, *, askCells]); (simp [askCells, Value.oneCell']); (simp only [maxLen]; omega); omega; omega; (intro v4 w4 hown4 hg4 hat4; obtain ⟨A5, c5, rfl, hcp⟩ := own_shape hown4; have hbg4 := gr_at hg4 (k := g) (by omega) (own_ne_cells Hown2.out hbg (by decide)); have hgl2 : g < w2.heap.size := (by omega); simp [go_sem, hbg, hgl2] at hbg4; have hsz4 := hg4.size;  have Hc4 := hid (Chg.grown (F := fun k => k = g) (Hc2.out) hg4 (fun k hk hlt => by have := (Hown2.out.lt k hk).1; omega)); have Hcp := hid hcp; have Hown4 := hid hown4; have Hg4 := hid hg4; have Hat4 := hid hat4; clear hown4 hg4 hat4))
    ))
  all_goals
    go_wp2
    exact HR.out _ _ ⟨rfl, rask_end1 Hp.out Hc4.out hbg4 Hown4.out Hcp.out⟩
theorem rask_at {w : World} {g : Nat} {L : Lim} (hp : RAt w g L) (ok : L.Ok) (who b : Int) (u : Bool) :
    Calls Try.prog 16 #[.pointer (some ⟨g, 0, none⟩), .int .i64 who, .int .u64 b, .bool u] w fun e w' => e = .returned (.int .i64 (if L.fits b = true then 0 else 2)) ∧ RAt w' g (L.asked who b u) ∧ Chg (fun k => k = g) w w' := by
  by_cases h : L.fits b = true
  · have h' := h
    simp only [Lim.fits, Bool.and_eq_true, decide_eq_true_eq] at h'
    obtain ⟨A0, c0, A1, c1, hq⟩ := hp
    cases u with
    | true =>
      refine (rask_urgent g L A0 c0 A1 c1 w who b ok hq h'.1 h'.2).mono ?_
      rintro e w' ⟨rfl, h1, h2⟩
      exact ⟨by rw [if_pos h], by simpa [Lim.asked, h] using h1, h2⟩
    | false =>
      refine (rask_other g L A0 c0 A1 c1 w who b ok hq h'.1 h'.2).mono ?_
      rintro e w' ⟨rfl, h1, h2⟩
      exact ⟨by rw [if_pos h], by simpa [Lim.asked, h] using h1, h2⟩
  · refine (rask_no g L w who b u ok hp ?_).mono ?_
    · simp only [Lim.fits, Bool.and_eq_true, decide_eq_true_eq] at h
      omega
    · rintro e w' ⟨rfl, n, rfl⟩
      refine ⟨by rw [if_neg h], ?_, Chg.drewN (Chg.refl _ _) n⟩
      rw [Lim.asked, if_neg h]
      exact hp.drewN n
theorem Lim.Sorts.asked {L : Lim} (h : L.Sorts) (who b : Int) (u : Bool) : (L.asked who b u).Sorts := by
  unfold Lim.asked
  split
  · cases u with
    | true =>
      refine ⟨fun a ha => ?_, h.2⟩
      simp only [if_true, List.mem_append, List.mem_singleton] at ha
      rcases ha with ha | rfl
      · exact h.1 a ha
      · rfl
    | false =>
      refine ⟨h.1, fun a ha => ?_⟩
      simp only [Bool.false_eq_true, if_false, List.mem_append, List.mem_singleton] at ha
      rcases ha with ha | rfl
      · exact h.2 a ha
      · rfl
  · exact h
end Go.Proofs.Ytbiaelaaihieeaa
