/-
  No cell of these rows narrows 'for every input' (looked for: loops, veiled, ifaces, maps, wideKeys, modest, calm, conditions, laid).
  DERIVED. THE GIVEN ROWS OF THIS SEAT. 7 by the template 'for every input the law returns true; each argument reads behind the call as it read before'; 0 by the template 'total and deterministic' (their statements: YtbiaelaaihieeaaTotals.lean).
  GIVEN WITH THE SEED: the statements are not yours to turn. If you find one false, say at which input.
  Laid BY PROGRAM, IN A SANDBOX (cutbox-rows.mjs): the forced cells as the released guide's own fill.sh prints them over the translation 597d2e5dbb5fae94… (all of the seat's roots in one cut). By AI agents, Wed Nov 11 2026. No macro, syntax, notation, axiom, sorry.
-/
import Derived.Test.YtbiaelaaihieeaaChecked
import GoSem.Claim
import GoSem.ClaimJoined
import GoSem.ClaimMapViews
import Derived.JoinedTies
import Derived.KernelRfl
namespace Go.Proofs.Ytbiaelaaihieeaa
/- THE CELL 'sum', in the pinned program and in every row, IS THE sha256 OF THE DUMP (.gsa) THAT YtbiaelaaihieeaaProg.lean LOADS. Nothing in Lean hashes anything: it is a label: what it is worth is what the hold of that sum in a sandbox is worth. -/
noncomputable def Try.pinned : Pinned := { name := "ytbiaelaaihieeaa", sum := "597d2e5dbb5fae949e41bdf8f07914938eb17172929e6adf03cdfb78f1a9bd23", checked := Try.checked }
namespace Rows
def none {H : Type} : Left H := { results := [], args := [] }

/-- 'sedimentlaw20.StallRate': WHATEVER THE INPUT: true; the input reads as it did. -/
def stallRateSpec : ChangeSpec := { name := "stallRate", fn := fun _ => fun
  | [d1, d2, d3] => { results := [.lit (.bool true)], args := [d1, d2, d3] }
  | _ => none }
def stallRateRow : OpenClaim := { program := "ytbiaelaaihieeaa", sum := "597d2e5dbb5fae949e41bdf8f07914938eb17172929e6adf03cdfb78f1a9bd23", func := "sediment/sedimentlaw20.StallRate", spec := "stallRate", inPlace := ["math/bits.Add64"], apart := false }
def StallRateSaid : Prop := stallRateRow.holds Try.pinned (OpenSpec.ofChange stallRateSpec)

/-- ITS FALSE NEIGHBOUR: 'it returns false'. Refute it at one input. -/
def stallRateWrong : ChangeSpec := { name := "stallRate", fn := fun _ => fun
  | [d1, d2, d3] => { results := [.lit (.bool false)], args := [d1, d2, d3] }
  | _ => none }
def StallRateWrongFalsely : Prop := stallRateRow.holds Try.pinned (OpenSpec.ofChange stallRateWrong)

/-- 'sedimentlaw20.StallTurn': WHATEVER THE INPUT: true; the input reads as it did. -/
def stallTurnSpec : ChangeSpec := { name := "stallTurn", fn := fun _ => fun
  | [d1, d2, d3] => { results := [.lit (.bool true)], args := [d1, d2, d3] }
  | _ => none }
def stallTurnRow : OpenClaim := { program := "ytbiaelaaihieeaa", sum := "597d2e5dbb5fae949e41bdf8f07914938eb17172929e6adf03cdfb78f1a9bd23", func := "sediment/sedimentlaw20.StallTurn", spec := "stallTurn", inPlace := ["math/bits.Add64"], apart := false }
def StallTurnSaid : Prop := stallTurnRow.holds Try.pinned (OpenSpec.ofChange stallTurnSpec)

/-- ITS FALSE NEIGHBOUR: 'it returns false'. Refute it at one input. -/
def stallTurnWrong : ChangeSpec := { name := "stallTurn", fn := fun _ => fun
  | [d1, d2, d3] => { results := [.lit (.bool false)], args := [d1, d2, d3] }
  | _ => none }
def StallTurnWrongFalsely : Prop := stallTurnRow.holds Try.pinned (OpenSpec.ofChange stallTurnWrong)

/-- 'sedimentlaw20.StallLimits': WHATEVER THE INPUT: true; the input reads as it did. -/
def stallLimitsSpec : ChangeSpec := { name := "stallLimits", fn := fun _ => fun
  | [d1, d2, d3] => { results := [.lit (.bool true)], args := [d1, d2, d3] }
  | _ => none }
def stallLimitsRow : OpenClaim := { program := "ytbiaelaaihieeaa", sum := "597d2e5dbb5fae949e41bdf8f07914938eb17172929e6adf03cdfb78f1a9bd23", func := "sediment/sedimentlaw20.StallLimits", spec := "stallLimits", inPlace := ["math/bits.Add64"], unfollowed := true, recurses := true, apart := false }
def StallLimitsSaid : Prop := stallLimitsRow.holds Try.pinned (OpenSpec.ofChange stallLimitsSpec)

/-- ITS FALSE NEIGHBOUR: 'it returns false'. Refute it at one input. -/
def stallLimitsWrong : ChangeSpec := { name := "stallLimits", fn := fun _ => fun
  | [d1, d2, d3] => { results := [.lit (.bool false)], args := [d1, d2, d3] }
  | _ => none }
def StallLimitsWrongFalsely : Prop := stallLimitsRow.holds Try.pinned (OpenSpec.ofChange stallLimitsWrong)

/-- 'sedimentlaw11.CacheRoom': WHATEVER THE INPUT: true; the input reads as it did. -/
def cacheRoomSpec : ChangeSpec := { name := "cacheRoom", fn := fun _ => fun
  | [d1, d2] => { results := [.lit (.bool true)], args := [d1, d2] }
  | _ => none }
def cacheRoomRow : OpenClaim := { program := "ytbiaelaaihieeaa", sum := "597d2e5dbb5fae949e41bdf8f07914938eb17172929e6adf03cdfb78f1a9bd23", func := "sediment/sedimentlaw11.CacheRoom", spec := "cacheRoom", unfollowed := true, recurses := true, apart := false }
def CacheRoomSaid : Prop := cacheRoomRow.holds Try.pinned (OpenSpec.ofChange cacheRoomSpec)

/-- ITS FALSE NEIGHBOUR: 'it returns false'. Refute it at one input. -/
def cacheRoomWrong : ChangeSpec := { name := "cacheRoom", fn := fun _ => fun
  | [d1, d2] => { results := [.lit (.bool false)], args := [d1, d2] }
  | _ => none }
def CacheRoomWrongFalsely : Prop := cacheRoomRow.holds Try.pinned (OpenSpec.ofChange cacheRoomWrong)

/-- 'sedimentlaw11.CacheApart': WHATEVER THE INPUT: true; the input reads as it did. -/
def cacheApartSpec : ChangeSpec := { name := "cacheApart", fn := fun _ => fun
  | [d1, d2, d3] => { results := [.lit (.bool true)], args := [d1, d2, d3] }
  | _ => none }
def cacheApartRow : OpenClaim := { program := "ytbiaelaaihieeaa", sum := "597d2e5dbb5fae949e41bdf8f07914938eb17172929e6adf03cdfb78f1a9bd23", func := "sediment/sedimentlaw11.CacheApart", spec := "cacheApart", unfollowed := true, recurses := true, apart := false }
def CacheApartSaid : Prop := cacheApartRow.holds Try.pinned (OpenSpec.ofChange cacheApartSpec)

/-- ITS FALSE NEIGHBOUR: 'it returns false'. Refute it at one input. -/
def cacheApartWrong : ChangeSpec := { name := "cacheApart", fn := fun _ => fun
  | [d1, d2, d3] => { results := [.lit (.bool false)], args := [d1, d2, d3] }
  | _ => none }
def CacheApartWrongFalsely : Prop := cacheApartRow.holds Try.pinned (OpenSpec.ofChange cacheApartWrong)

/-- 'sedimentlaw11.CachePinned': WHATEVER THE INPUT: true; the input reads as it did. -/
def cachePinnedSpec : ChangeSpec := { name := "cachePinned", fn := fun _ => fun
  | [d1, d2, d3] => { results := [.lit (.bool true)], args := [d1, d2, d3] }
  | _ => none }
def cachePinnedRow : OpenClaim := { program := "ytbiaelaaihieeaa", sum := "597d2e5dbb5fae949e41bdf8f07914938eb17172929e6adf03cdfb78f1a9bd23", func := "sediment/sedimentlaw11.CachePinned", spec := "cachePinned", unfollowed := true, recurses := true, apart := false }
def CachePinnedSaid : Prop := cachePinnedRow.holds Try.pinned (OpenSpec.ofChange cachePinnedSpec)

/-- ITS FALSE NEIGHBOUR: 'it returns false'. Refute it at one input. -/
def cachePinnedWrong : ChangeSpec := { name := "cachePinned", fn := fun _ => fun
  | [d1, d2, d3] => { results := [.lit (.bool false)], args := [d1, d2, d3] }
  | _ => none }
def CachePinnedWrongFalsely : Prop := cachePinnedRow.holds Try.pinned (OpenSpec.ofChange cachePinnedWrong)

/-- 'sedimentlaw11.CacheActs': WHATEVER THE INPUT: true; the input reads as it did. -/
def cacheActsSpec : ChangeSpec := { name := "cacheActs", fn := fun _ => fun
  | [d1, d2] => { results := [.lit (.bool true)], args := [d1, d2] }
  | _ => none }
def cacheActsRow : OpenClaim := { program := "ytbiaelaaihieeaa", sum := "597d2e5dbb5fae949e41bdf8f07914938eb17172929e6adf03cdfb78f1a9bd23", func := "sediment/sedimentlaw11.CacheActs", spec := "cacheActs", unfollowed := true, recurses := true, apart := false }
def CacheActsSaid : Prop := cacheActsRow.holds Try.pinned (OpenSpec.ofChange cacheActsSpec)

/-- ITS FALSE NEIGHBOUR: 'it returns false'. Refute it at one input. -/
def cacheActsWrong : ChangeSpec := { name := "cacheActs", fn := fun _ => fun
  | [d1, d2] => { results := [.lit (.bool false)], args := [d1, d2] }
  | _ => none }
def CacheActsWrongFalsely : Prop := cacheActsRow.holds Try.pinned (OpenSpec.ofChange cacheActsWrong)

/- THE SECOND FORM. 'bulk': how many values and letters a reading holds, each counted each time it is reached (what is shared counts as often as it is met; a slice's spare places count too). A statement '..UptoSaid' is the law's where the arguments, and the package variables that the reading takes, are together of bulk at most 1048576: NARROWER than '..Said'. Prove '..Said' where nothing that the law and all that it calls make is longer than what came in: it says more and counts as full. Else prove '..UptoSaid'. A law counts once. -/
mutual
def uptoBulk {H : Type} : DataW H → Nat
  | .lit (.string bytes) => bytes.length + 1
  | .lit _ => 1
  | .nil => 1
  | .ptr d => uptoBulk d + 1
  | .slice elems spare => uptoBulkAll elems + uptoBulkAll spare + 1
  | .agg parts => uptoBulkAll parts + 1
  | .iface _ d => uptoBulk d + 1
  | .map entries => uptoBulkEntries entries + 1
  | .held _ => 1
def uptoBulkAll {H : Type} : List (DataW H) → Nat
  | [] => 0
  | d :: r => uptoBulk d + uptoBulkAll r
def uptoBulkEntries {H : Type} : List (Lit × DataW H) → Nat
  | [] => 0
  | x :: r => uptoBulkEntry x + uptoBulkEntries r
def uptoBulkEntry {H : Type} : Lit × DataW H → Nat
  | (.string bytes, d) => bytes.length + uptoBulk d + 1
  | (_, d) => uptoBulk d + 1
 end
def uptoSmall : (H : Type) → List (DataW H) → Bool := fun _ ds => decide (uptoBulkAll ds ≤ 1048576)
def OpenSpec.upto (s : _root_.Go.ChangeSpec) : _root_.Go.OpenSpec := { _root_.Go.OpenSpec.ofChange s with cond := some uptoSmall }

/-- 'sedimentlaw20.StallRate', WHERE WHAT IT READS IS OF BULK AT MOST 1048576: true; the input reads as it did. -/
def stallRateUptoRow : OpenClaim := { program := "ytbiaelaaihieeaa", sum := "597d2e5dbb5fae949e41bdf8f07914938eb17172929e6adf03cdfb78f1a9bd23", func := "sediment/sedimentlaw20.StallRate", spec := "stallRate", inPlace := ["math/bits.Add64"], apart := false, narrowed := true }
def StallRateUptoSaid : Prop := stallRateUptoRow.holds Try.pinned (OpenSpec.upto stallRateSpec)

/-- 'sedimentlaw20.StallTurn', WHERE WHAT IT READS IS OF BULK AT MOST 1048576: true; the input reads as it did. -/
def stallTurnUptoRow : OpenClaim := { program := "ytbiaelaaihieeaa", sum := "597d2e5dbb5fae949e41bdf8f07914938eb17172929e6adf03cdfb78f1a9bd23", func := "sediment/sedimentlaw20.StallTurn", spec := "stallTurn", inPlace := ["math/bits.Add64"], apart := false, narrowed := true }
def StallTurnUptoSaid : Prop := stallTurnUptoRow.holds Try.pinned (OpenSpec.upto stallTurnSpec)

/-- 'sedimentlaw20.StallLimits', WHERE WHAT IT READS IS OF BULK AT MOST 1048576: true; the input reads as it did. -/
def stallLimitsUptoRow : OpenClaim := { program := "ytbiaelaaihieeaa", sum := "597d2e5dbb5fae949e41bdf8f07914938eb17172929e6adf03cdfb78f1a9bd23", func := "sediment/sedimentlaw20.StallLimits", spec := "stallLimits", inPlace := ["math/bits.Add64"], unfollowed := true, recurses := true, apart := false, narrowed := true }
def StallLimitsUptoSaid : Prop := stallLimitsUptoRow.holds Try.pinned (OpenSpec.upto stallLimitsSpec)

/-- 'sedimentlaw11.CacheRoom', WHERE WHAT IT READS IS OF BULK AT MOST 1048576: true; the input reads as it did. -/
def cacheRoomUptoRow : OpenClaim := { program := "ytbiaelaaihieeaa", sum := "597d2e5dbb5fae949e41bdf8f07914938eb17172929e6adf03cdfb78f1a9bd23", func := "sediment/sedimentlaw11.CacheRoom", spec := "cacheRoom", unfollowed := true, recurses := true, apart := false, narrowed := true }
def CacheRoomUptoSaid : Prop := cacheRoomUptoRow.holds Try.pinned (OpenSpec.upto cacheRoomSpec)

/-- 'sedimentlaw11.CacheApart', WHERE WHAT IT READS IS OF BULK AT MOST 1048576: true; the input reads as it did. -/
def cacheApartUptoRow : OpenClaim := { program := "ytbiaelaaihieeaa", sum := "597d2e5dbb5fae949e41bdf8f07914938eb17172929e6adf03cdfb78f1a9bd23", func := "sediment/sedimentlaw11.CacheApart", spec := "cacheApart", unfollowed := true, recurses := true, apart := false, narrowed := true }
def CacheApartUptoSaid : Prop := cacheApartUptoRow.holds Try.pinned (OpenSpec.upto cacheApartSpec)

/-- 'sedimentlaw11.CachePinned', WHERE WHAT IT READS IS OF BULK AT MOST 1048576: true; the input reads as it did. -/
def cachePinnedUptoRow : OpenClaim := { program := "ytbiaelaaihieeaa", sum := "597d2e5dbb5fae949e41bdf8f07914938eb17172929e6adf03cdfb78f1a9bd23", func := "sediment/sedimentlaw11.CachePinned", spec := "cachePinned", unfollowed := true, recurses := true, apart := false, narrowed := true }
def CachePinnedUptoSaid : Prop := cachePinnedUptoRow.holds Try.pinned (OpenSpec.upto cachePinnedSpec)

/-- 'sedimentlaw11.CacheActs', WHERE WHAT IT READS IS OF BULK AT MOST 1048576: true; the input reads as it did. -/
def cacheActsUptoRow : OpenClaim := { program := "ytbiaelaaihieeaa", sum := "597d2e5dbb5fae949e41bdf8f07914938eb17172929e6adf03cdfb78f1a9bd23", func := "sediment/sedimentlaw11.CacheActs", spec := "cacheActs", unfollowed := true, recurses := true, apart := false, narrowed := true }
def CacheActsUptoSaid : Prop := cacheActsUptoRow.holds Try.pinned (OpenSpec.upto cacheActsSpec)

end Rows
end Go.Proofs.Ytbiaelaaihieeaa
