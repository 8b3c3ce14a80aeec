/-
  No cell of these rows narrows 'for every input' (looked for: loops, veiled, ifaces, maps, wideKeys, modest, calm, conditions, laid).
  DERIVED. THE GIVEN ROWS OF THIS SEAT. 9 by the template 'for every input the law returns true; each argument reads behind the call as it read before'; 0 by the template 'total and deterministic' (their statements: YtnocknhfdegkgaaTotals.lean).
  GIVEN WITH THE SEED: the statements are not yours to turn. If you find one false, say at which input.
  Laid BY PROGRAM, IN A SANDBOX (cutbox-rows.mjs): the forced cells as the released guide's own fill.sh prints them over the translation cfefe4f620540c79… (all of the seat's roots in one cut). By AI agents, Wed Nov 11 2026. No macro, syntax, notation, axiom, sorry.
-/
import Derived.Test.YtnocknhfdegkgaaChecked
import GoSem.Claim
import GoSem.ClaimJoined
import GoSem.ClaimMapViews
import Derived.JoinedTies
import Derived.KernelRfl
namespace Go.Proofs.Ytnocknhfdegkgaa
/- THE CELL 'sum', in the pinned program and in every row, IS THE sha256 OF THE DUMP (.gsa) THAT YtnocknhfdegkgaaProg.lean LOADS. Nothing in Lean hashes anything: it is a label: what it is worth is what the hold of that sum in a sandbox is worth. -/
noncomputable def Try.pinned : Pinned := { name := "ytnocknhfdegkgaa", sum := "cfefe4f620540c79f572b45731e3bec9e578dc2f264ed06c97cca63e4ab2aecf", checked := Try.checked }
namespace Rows
def none {H : Type} : Left H := { results := [], args := [] }

/-- 'spandrellaw04.ForestFull': WHATEVER THE INPUT: true; the input reads as it did. -/
def forestFullSpec : ChangeSpec := { name := "forestFull", fn := fun _ => fun
  | [d1, d2] => { results := [.lit (.bool true)], args := [d1, d2] }
  | _ => none }
def forestFullRow : OpenClaim := { program := "ytnocknhfdegkgaa", sum := "cfefe4f620540c79f572b45731e3bec9e578dc2f264ed06c97cca63e4ab2aecf", func := "spandrel/spandrellaw04.ForestFull", spec := "forestFull", unfollowed := true, recurses := true, apart := false }
def ForestFullSaid : Prop := forestFullRow.holds Try.pinned (OpenSpec.ofChange forestFullSpec)

/-- ITS FALSE NEIGHBOUR: 'it returns false'. Refute it at one input. -/
def forestFullWrong : ChangeSpec := { name := "forestFull", fn := fun _ => fun
  | [d1, d2] => { results := [.lit (.bool false)], args := [d1, d2] }
  | _ => none }
def ForestFullWrongFalsely : Prop := forestFullRow.holds Try.pinned (OpenSpec.ofChange forestFullWrong)

/-- 'spandrellaw04.ForestOrder': WHATEVER THE INPUT: true; the input reads as it did. -/
def forestOrderSpec : ChangeSpec := { name := "forestOrder", fn := fun _ => fun
  | [d1, d2] => { results := [.lit (.bool true)], args := [d1, d2] }
  | _ => none }
def forestOrderRow : OpenClaim := { program := "ytnocknhfdegkgaa", sum := "cfefe4f620540c79f572b45731e3bec9e578dc2f264ed06c97cca63e4ab2aecf", func := "spandrel/spandrellaw04.ForestOrder", spec := "forestOrder", unfollowed := true, recurses := true, apart := false }
def ForestOrderSaid : Prop := forestOrderRow.holds Try.pinned (OpenSpec.ofChange forestOrderSpec)

/-- ITS FALSE NEIGHBOUR: 'it returns false'. Refute it at one input. -/
def forestOrderWrong : ChangeSpec := { name := "forestOrder", fn := fun _ => fun
  | [d1, d2] => { results := [.lit (.bool false)], args := [d1, d2] }
  | _ => none }
def ForestOrderWrongFalsely : Prop := forestOrderRow.holds Try.pinned (OpenSpec.ofChange forestOrderWrong)

/-- 'spandrellaw04.ForestAgain': WHATEVER THE INPUT: true; the input reads as it did. -/
def forestAgainSpec : ChangeSpec := { name := "forestAgain", fn := fun _ => fun
  | [d] => { results := [.lit (.bool true)], args := [d] }
  | _ => none }
def forestAgainRow : OpenClaim := { program := "ytnocknhfdegkgaa", sum := "cfefe4f620540c79f572b45731e3bec9e578dc2f264ed06c97cca63e4ab2aecf", func := "spandrel/spandrellaw04.ForestAgain", spec := "forestAgain", unfollowed := true, recurses := true, apart := false }
def ForestAgainSaid : Prop := forestAgainRow.holds Try.pinned (OpenSpec.ofChange forestAgainSpec)

/-- ITS FALSE NEIGHBOUR: 'it returns false'. Refute it at one input. -/
def forestAgainWrong : ChangeSpec := { name := "forestAgain", fn := fun _ => fun
  | [d] => { results := [.lit (.bool false)], args := [d] }
  | _ => none }
def ForestAgainWrongFalsely : Prop := forestAgainRow.holds Try.pinned (OpenSpec.ofChange forestAgainWrong)

/-- 'spandrellaw04.ForestRings': WHATEVER THE INPUT: true; the input reads as it did. -/
def forestRingsSpec : ChangeSpec := { name := "forestRings", fn := fun _ => fun
  | [d] => { results := [.lit (.bool true)], args := [d] }
  | _ => none }
def forestRingsRow : OpenClaim := { program := "ytnocknhfdegkgaa", sum := "cfefe4f620540c79f572b45731e3bec9e578dc2f264ed06c97cca63e4ab2aecf", func := "spandrel/spandrellaw04.ForestRings", spec := "forestRings", unfollowed := true, recurses := true, apart := false }
def ForestRingsSaid : Prop := forestRingsRow.holds Try.pinned (OpenSpec.ofChange forestRingsSpec)

/-- ITS FALSE NEIGHBOUR: 'it returns false'. Refute it at one input. -/
def forestRingsWrong : ChangeSpec := { name := "forestRings", fn := fun _ => fun
  | [d] => { results := [.lit (.bool false)], args := [d] }
  | _ => none }
def ForestRingsWrongFalsely : Prop := forestRingsRow.holds Try.pinned (OpenSpec.ofChange forestRingsWrong)

/-- 'spandrellaw04.ForestTwins': WHATEVER THE INPUT: true; the input reads as it did. -/
def forestTwinsSpec : ChangeSpec := { name := "forestTwins", fn := fun _ => fun
  | [d1, d2, d3] => { results := [.lit (.bool true)], args := [d1, d2, d3] }
  | _ => none }
def forestTwinsRow : OpenClaim := { program := "ytnocknhfdegkgaa", sum := "cfefe4f620540c79f572b45731e3bec9e578dc2f264ed06c97cca63e4ab2aecf", func := "spandrel/spandrellaw04.ForestTwins", spec := "forestTwins", unfollowed := true, recurses := true, apart := false }
def ForestTwinsSaid : Prop := forestTwinsRow.holds Try.pinned (OpenSpec.ofChange forestTwinsSpec)

/-- ITS FALSE NEIGHBOUR: 'it returns false'. Refute it at one input. -/
def forestTwinsWrong : ChangeSpec := { name := "forestTwins", fn := fun _ => fun
  | [d1, d2, d3] => { results := [.lit (.bool false)], args := [d1, d2, d3] }
  | _ => none }
def ForestTwinsWrongFalsely : Prop := forestTwinsRow.holds Try.pinned (OpenSpec.ofChange forestTwinsWrong)

/-- 'spandrellaw04.ForestOnce': WHATEVER THE INPUT: true; the input reads as it did. -/
def forestOnceSpec : ChangeSpec := { name := "forestOnce", fn := fun _ => fun
  | [d] => { results := [.lit (.bool true)], args := [d] }
  | _ => none }
def forestOnceRow : OpenClaim := { program := "ytnocknhfdegkgaa", sum := "cfefe4f620540c79f572b45731e3bec9e578dc2f264ed06c97cca63e4ab2aecf", func := "spandrel/spandrellaw04.ForestOnce", spec := "forestOnce", unfollowed := true, recurses := true, apart := false }
def ForestOnceSaid : Prop := forestOnceRow.holds Try.pinned (OpenSpec.ofChange forestOnceSpec)

/-- ITS FALSE NEIGHBOUR: 'it returns false'. Refute it at one input. -/
def forestOnceWrong : ChangeSpec := { name := "forestOnce", fn := fun _ => fun
  | [d] => { results := [.lit (.bool false)], args := [d] }
  | _ => none }
def ForestOnceWrongFalsely : Prop := forestOnceRow.holds Try.pinned (OpenSpec.ofChange forestOnceWrong)

/-- 'spandrellaw04.ForestNobody': WHATEVER THE INPUT: true; the input reads as it did. -/
def forestNobodySpec : ChangeSpec := { name := "forestNobody", fn := fun _ => fun
  | [d1, d2] => { results := [.lit (.bool true)], args := [d1, d2] }
  | _ => none }
def forestNobodyRow : OpenClaim := { program := "ytnocknhfdegkgaa", sum := "cfefe4f620540c79f572b45731e3bec9e578dc2f264ed06c97cca63e4ab2aecf", func := "spandrel/spandrellaw04.ForestNobody", spec := "forestNobody", unfollowed := true, recurses := true, apart := false }
def ForestNobodySaid : Prop := forestNobodyRow.holds Try.pinned (OpenSpec.ofChange forestNobodySpec)

/-- ITS FALSE NEIGHBOUR: 'it returns false'. Refute it at one input. -/
def forestNobodyWrong : ChangeSpec := { name := "forestNobody", fn := fun _ => fun
  | [d1, d2] => { results := [.lit (.bool false)], args := [d1, d2] }
  | _ => none }
def ForestNobodyWrongFalsely : Prop := forestNobodyRow.holds Try.pinned (OpenSpec.ofChange forestNobodyWrong)

/-- 'spandrellaw04.ForestParts': WHATEVER THE INPUT: true; the input reads as it did. -/
def forestPartsSpec : ChangeSpec := { name := "forestParts", fn := fun _ => fun
  | [d1, d2] => { results := [.lit (.bool true)], args := [d1, d2] }
  | _ => none }
def forestPartsRow : OpenClaim := { program := "ytnocknhfdegkgaa", sum := "cfefe4f620540c79f572b45731e3bec9e578dc2f264ed06c97cca63e4ab2aecf", func := "spandrel/spandrellaw04.ForestParts", spec := "forestParts", unfollowed := true, recurses := true, apart := false }
def ForestPartsSaid : Prop := forestPartsRow.holds Try.pinned (OpenSpec.ofChange forestPartsSpec)

/-- ITS FALSE NEIGHBOUR: 'it returns false'. Refute it at one input. -/
def forestPartsWrong : ChangeSpec := { name := "forestParts", fn := fun _ => fun
  | [d1, d2] => { results := [.lit (.bool false)], args := [d1, d2] }
  | _ => none }
def ForestPartsWrongFalsely : Prop := forestPartsRow.holds Try.pinned (OpenSpec.ofChange forestPartsWrong)

/-- 'spandrellaw04.ForestPlays': WHATEVER THE INPUT: true; the input reads as it did. -/
def forestPlaysSpec : ChangeSpec := { name := "forestPlays", fn := fun _ => fun
  | [d1, d2] => { results := [.lit (.bool true)], args := [d1, d2] }
  | _ => none }
def forestPlaysRow : OpenClaim := { program := "ytnocknhfdegkgaa", sum := "cfefe4f620540c79f572b45731e3bec9e578dc2f264ed06c97cca63e4ab2aecf", func := "spandrel/spandrellaw04.ForestPlays", spec := "forestPlays", unfollowed := true, recurses := true, apart := false }
def ForestPlaysSaid : Prop := forestPlaysRow.holds Try.pinned (OpenSpec.ofChange forestPlaysSpec)

/-- ITS FALSE NEIGHBOUR: 'it returns false'. Refute it at one input. -/
def forestPlaysWrong : ChangeSpec := { name := "forestPlays", fn := fun _ => fun
  | [d1, d2] => { results := [.lit (.bool false)], args := [d1, d2] }
  | _ => none }
def ForestPlaysWrongFalsely : Prop := forestPlaysRow.holds Try.pinned (OpenSpec.ofChange forestPlaysWrong)

/- THE SECOND FORM. 'bulk': how many values and letters a reading holds, each counted each time it is reached (what is shared counts as often as it is met; a slice's spare places count too). A statement '..UptoSaid' is the law's where the arguments, and the package variables that the reading takes, are together of bulk at most 1048576: NARROWER than '..Said'. Prove '..Said' where nothing that the law and all that it calls make is longer than what came in: it says more and counts as full. Else prove '..UptoSaid'. A law counts once. -/
mutual
def uptoBulk {H : Type} : DataW H → Nat
  | .lit (.string bytes) => bytes.length + 1
  | .lit _ => 1
  | .nil => 1
  | .ptr d => uptoBulk d + 1
  | .slice elems spare => uptoBulkAll elems + uptoBulkAll spare + 1
  | .agg parts => uptoBulkAll parts + 1
  | .iface _ d => uptoBulk d + 1
  | .map entries => uptoBulkEntries entries + 1
  | .held _ => 1
def uptoBulkAll {H : Type} : List (DataW H) → Nat
  | [] => 0
  | d :: r => uptoBulk d + uptoBulkAll r
def uptoBulkEntries {H : Type} : List (Lit × DataW H) → Nat
  | [] => 0
  | x :: r => uptoBulkEntry x + uptoBulkEntries r
def uptoBulkEntry {H : Type} : Lit × DataW H → Nat
  | (.string bytes, d) => bytes.length + uptoBulk d + 1
  | (_, d) => uptoBulk d + 1
 end
def uptoSmall : (H : Type) → List (DataW H) → Bool := fun _ ds => decide (uptoBulkAll ds ≤ 1048576)
def OpenSpec.upto (s : _root_.Go.ChangeSpec) : _root_.Go.OpenSpec := { _root_.Go.OpenSpec.ofChange s with cond := some uptoSmall }

/-- 'spandrellaw04.ForestFull', WHERE WHAT IT READS IS OF BULK AT MOST 1048576: true; the input reads as it did. -/
def forestFullUptoRow : OpenClaim := { program := "ytnocknhfdegkgaa", sum := "cfefe4f620540c79f572b45731e3bec9e578dc2f264ed06c97cca63e4ab2aecf", func := "spandrel/spandrellaw04.ForestFull", spec := "forestFull", unfollowed := true, recurses := true, apart := false, narrowed := true }
def ForestFullUptoSaid : Prop := forestFullUptoRow.holds Try.pinned (OpenSpec.upto forestFullSpec)

/-- 'spandrellaw04.ForestOrder', WHERE WHAT IT READS IS OF BULK AT MOST 1048576: true; the input reads as it did. -/
def forestOrderUptoRow : OpenClaim := { program := "ytnocknhfdegkgaa", sum := "cfefe4f620540c79f572b45731e3bec9e578dc2f264ed06c97cca63e4ab2aecf", func := "spandrel/spandrellaw04.ForestOrder", spec := "forestOrder", unfollowed := true, recurses := true, apart := false, narrowed := true }
def ForestOrderUptoSaid : Prop := forestOrderUptoRow.holds Try.pinned (OpenSpec.upto forestOrderSpec)

/-- 'spandrellaw04.ForestAgain', WHERE WHAT IT READS IS OF BULK AT MOST 1048576: true; the input reads as it did. -/
def forestAgainUptoRow : OpenClaim := { program := "ytnocknhfdegkgaa", sum := "cfefe4f620540c79f572b45731e3bec9e578dc2f264ed06c97cca63e4ab2aecf", func := "spandrel/spandrellaw04.ForestAgain", spec := "forestAgain", unfollowed := true, recurses := true, apart := false, narrowed := true }
def ForestAgainUptoSaid : Prop := forestAgainUptoRow.holds Try.pinned (OpenSpec.upto forestAgainSpec)

/-- 'spandrellaw04.ForestRings', WHERE WHAT IT READS IS OF BULK AT MOST 1048576: true; the input reads as it did. -/
def forestRingsUptoRow : OpenClaim := { program := "ytnocknhfdegkgaa", sum := "cfefe4f620540c79f572b45731e3bec9e578dc2f264ed06c97cca63e4ab2aecf", func := "spandrel/spandrellaw04.ForestRings", spec := "forestRings", unfollowed := true, recurses := true, apart := false, narrowed := true }
def ForestRingsUptoSaid : Prop := forestRingsUptoRow.holds Try.pinned (OpenSpec.upto forestRingsSpec)

/-- 'spandrellaw04.ForestTwins', WHERE WHAT IT READS IS OF BULK AT MOST 1048576: true; the input reads as it did. -/
def forestTwinsUptoRow : OpenClaim := { program := "ytnocknhfdegkgaa", sum := "cfefe4f620540c79f572b45731e3bec9e578dc2f264ed06c97cca63e4ab2aecf", func := "spandrel/spandrellaw04.ForestTwins", spec := "forestTwins", unfollowed := true, recurses := true, apart := false, narrowed := true }
def ForestTwinsUptoSaid : Prop := forestTwinsUptoRow.holds Try.pinned (OpenSpec.upto forestTwinsSpec)

/-- 'spandrellaw04.ForestOnce', WHERE WHAT IT READS IS OF BULK AT MOST 1048576: true; the input reads as it did. -/
def forestOnceUptoRow : OpenClaim := { program := "ytnocknhfdegkgaa", sum := "cfefe4f620540c79f572b45731e3bec9e578dc2f264ed06c97cca63e4ab2aecf", func := "spandrel/spandrellaw04.ForestOnce", spec := "forestOnce", unfollowed := true, recurses := true, apart := false, narrowed := true }
def ForestOnceUptoSaid : Prop := forestOnceUptoRow.holds Try.pinned (OpenSpec.upto forestOnceSpec)

/-- 'spandrellaw04.ForestNobody', WHERE WHAT IT READS IS OF BULK AT MOST 1048576: true; the input reads as it did. -/
def forestNobodyUptoRow : OpenClaim := { program := "ytnocknhfdegkgaa", sum := "cfefe4f620540c79f572b45731e3bec9e578dc2f264ed06c97cca63e4ab2aecf", func := "spandrel/spandrellaw04.ForestNobody", spec := "forestNobody", unfollowed := true, recurses := true, apart := false, narrowed := true }
def ForestNobodyUptoSaid : Prop := forestNobodyUptoRow.holds Try.pinned (OpenSpec.upto forestNobodySpec)

/-- 'spandrellaw04.ForestParts', WHERE WHAT IT READS IS OF BULK AT MOST 1048576: true; the input reads as it did. -/
def forestPartsUptoRow : OpenClaim := { program := "ytnocknhfdegkgaa", sum := "cfefe4f620540c79f572b45731e3bec9e578dc2f264ed06c97cca63e4ab2aecf", func := "spandrel/spandrellaw04.ForestParts", spec := "forestParts", unfollowed := true, recurses := true, apart := false, narrowed := true }
def ForestPartsUptoSaid : Prop := forestPartsUptoRow.holds Try.pinned (OpenSpec.upto forestPartsSpec)

/-- 'spandrellaw04.ForestPlays', WHERE WHAT IT READS IS OF BULK AT MOST 1048576: true; the input reads as it did. -/
def forestPlaysUptoRow : OpenClaim := { program := "ytnocknhfdegkgaa", sum := "cfefe4f620540c79f572b45731e3bec9e578dc2f264ed06c97cca63e4ab2aecf", func := "spandrel/spandrellaw04.ForestPlays", spec := "forestPlays", unfollowed := true, recurses := true, apart := false, narrowed := true }
def ForestPlaysUptoSaid : Prop := forestPlaysUptoRow.holds Try.pinned (OpenSpec.upto forestPlaysSpec)

end Rows
end Go.Proofs.Ytnocknhfdegkgaa
