/-
  No cell of these rows narrows 'for every input' (looked for: loops, veiled, ifaces, maps, wideKeys, modest, calm, conditions, laid).
  DERIVED. THE GIVEN ROWS OF THIS SEAT. 8 by the template 'for every input the law returns true; each argument reads behind the call as it read before'; 0 by the template 'total and deterministic' (their statements: YtdjcifeoplgkpaaTotals.lean).
  GIVEN WITH THE SEED: the statements are not yours to turn. If you find one false, say at which input.
  Laid BY PROGRAM, IN A SANDBOX (cutbox-rows.mjs): the forced cells as the released guide's own fill.sh prints them over the translation f40d016a07f3da11… (all of the seat's roots in one cut). By AI agents, Wed Nov 11 2026. No macro, syntax, notation, axiom, sorry.
-/
import Derived.Test.YtdjcifeoplgkpaaChecked
import GoSem.Claim
import GoSem.ClaimJoined
import GoSem.ClaimMapViews
import Derived.JoinedTies
import Derived.KernelRfl
namespace Go.Proofs.Ytdjcifeoplgkpaa
/- THE CELL 'sum', in the pinned program and in every row, IS THE sha256 OF THE DUMP (.gsa) THAT YtdjcifeoplgkpaaProg.lean LOADS. Nothing in Lean hashes anything: it is a label: what it is worth is what the hold of that sum in a sandbox is worth. -/
noncomputable def Try.pinned : Pinned := { name := "ytdjcifeoplgkpaa", sum := "f40d016a07f3da11ec0f7051c8088cb38e949891ccbcdb78c3e8af15ef4c2587", checked := Try.checked }
namespace Rows
def none {H : Type} : Left H := { results := [], args := [] }

/-- 'spandrellaw07.StoreAgain': WHATEVER THE INPUT: true; the input reads as it did. -/
def storeAgainSpec : ChangeSpec := { name := "storeAgain", fn := fun _ => fun
  | [d] => { results := [.lit (.bool true)], args := [d] }
  | _ => none }
def storeAgainRow : OpenClaim := { program := "ytdjcifeoplgkpaa", sum := "f40d016a07f3da11ec0f7051c8088cb38e949891ccbcdb78c3e8af15ef4c2587", func := "spandrel/spandrellaw07.StoreAgain", spec := "storeAgain", unfollowed := true, recurses := true, apart := false }
def StoreAgainSaid : Prop := storeAgainRow.holds Try.pinned (OpenSpec.ofChange storeAgainSpec)

/-- ITS FALSE NEIGHBOUR: 'it returns false'. Refute it at one input. -/
def storeAgainWrong : ChangeSpec := { name := "storeAgain", fn := fun _ => fun
  | [d] => { results := [.lit (.bool false)], args := [d] }
  | _ => none }
def StoreAgainWrongFalsely : Prop := storeAgainRow.holds Try.pinned (OpenSpec.ofChange storeAgainWrong)

/-- 'spandrellaw07.StoreNobody': WHATEVER THE INPUT: true; the input reads as it did. -/
def storeNobodySpec : ChangeSpec := { name := "storeNobody", fn := fun _ => fun
  | [d1, d2] => { results := [.lit (.bool true)], args := [d1, d2] }
  | _ => none }
def storeNobodyRow : OpenClaim := { program := "ytdjcifeoplgkpaa", sum := "f40d016a07f3da11ec0f7051c8088cb38e949891ccbcdb78c3e8af15ef4c2587", func := "spandrel/spandrellaw07.StoreNobody", spec := "storeNobody", unfollowed := true, recurses := true, apart := false }
def StoreNobodySaid : Prop := storeNobodyRow.holds Try.pinned (OpenSpec.ofChange storeNobodySpec)

/-- ITS FALSE NEIGHBOUR: 'it returns false'. Refute it at one input. -/
def storeNobodyWrong : ChangeSpec := { name := "storeNobody", fn := fun _ => fun
  | [d1, d2] => { results := [.lit (.bool false)], args := [d1, d2] }
  | _ => none }
def StoreNobodyWrongFalsely : Prop := storeNobodyRow.holds Try.pinned (OpenSpec.ofChange storeNobodyWrong)

/-- 'spandrellaw07.StoreApart': WHATEVER THE INPUT: true; the input reads as it did. -/
def storeApartSpec : ChangeSpec := { name := "storeApart", fn := fun _ => fun
  | [d1, d2, d3] => { results := [.lit (.bool true)], args := [d1, d2, d3] }
  | _ => none }
def storeApartRow : OpenClaim := { program := "ytdjcifeoplgkpaa", sum := "f40d016a07f3da11ec0f7051c8088cb38e949891ccbcdb78c3e8af15ef4c2587", func := "spandrel/spandrellaw07.StoreApart", spec := "storeApart", unfollowed := true, recurses := true, apart := false }
def StoreApartSaid : Prop := storeApartRow.holds Try.pinned (OpenSpec.ofChange storeApartSpec)

/-- ITS FALSE NEIGHBOUR: 'it returns false'. Refute it at one input. -/
def storeApartWrong : ChangeSpec := { name := "storeApart", fn := fun _ => fun
  | [d1, d2, d3] => { results := [.lit (.bool false)], args := [d1, d2, d3] }
  | _ => none }
def StoreApartWrongFalsely : Prop := storeApartRow.holds Try.pinned (OpenSpec.ofChange storeApartWrong)

/-- 'spandrellaw07.StoreParts': WHATEVER THE INPUT: true; the input reads as it did. -/
def storePartsSpec : ChangeSpec := { name := "storeParts", fn := fun _ => fun
  | [d1, d2, d3] => { results := [.lit (.bool true)], args := [d1, d2, d3] }
  | _ => none }
def storePartsRow : OpenClaim := { program := "ytdjcifeoplgkpaa", sum := "f40d016a07f3da11ec0f7051c8088cb38e949891ccbcdb78c3e8af15ef4c2587", func := "spandrel/spandrellaw07.StoreParts", spec := "storeParts", unfollowed := true, recurses := true, apart := false }
def StorePartsSaid : Prop := storePartsRow.holds Try.pinned (OpenSpec.ofChange storePartsSpec)

/-- ITS FALSE NEIGHBOUR: 'it returns false'. Refute it at one input. -/
def storePartsWrong : ChangeSpec := { name := "storeParts", fn := fun _ => fun
  | [d1, d2, d3] => { results := [.lit (.bool false)], args := [d1, d2, d3] }
  | _ => none }
def StorePartsWrongFalsely : Prop := storePartsRow.holds Try.pinned (OpenSpec.ofChange storePartsWrong)

/-- 'spandrellaw07.StoreRetains': WHATEVER THE INPUT: true; the input reads as it did. -/
def storeRetainsSpec : ChangeSpec := { name := "storeRetains", fn := fun _ => fun
  | [d1, d2] => { results := [.lit (.bool true)], args := [d1, d2] }
  | _ => none }
def storeRetainsRow : OpenClaim := { program := "ytdjcifeoplgkpaa", sum := "f40d016a07f3da11ec0f7051c8088cb38e949891ccbcdb78c3e8af15ef4c2587", func := "spandrel/spandrellaw07.StoreRetains", spec := "storeRetains", unfollowed := true, recurses := true, apart := false }
def StoreRetainsSaid : Prop := storeRetainsRow.holds Try.pinned (OpenSpec.ofChange storeRetainsSpec)

/-- ITS FALSE NEIGHBOUR: 'it returns false'. Refute it at one input. -/
def storeRetainsWrong : ChangeSpec := { name := "storeRetains", fn := fun _ => fun
  | [d1, d2] => { results := [.lit (.bool false)], args := [d1, d2] }
  | _ => none }
def StoreRetainsWrongFalsely : Prop := storeRetainsRow.holds Try.pinned (OpenSpec.ofChange storeRetainsWrong)

/-- 'spandrellaw07.StoreBounds': WHATEVER THE INPUT: true; the input reads as it did. -/
def storeBoundsSpec : ChangeSpec := { name := "storeBounds", fn := fun _ => fun
  | [d1, d2, d3] => { results := [.lit (.bool true)], args := [d1, d2, d3] }
  | _ => none }
def storeBoundsRow : OpenClaim := { program := "ytdjcifeoplgkpaa", sum := "f40d016a07f3da11ec0f7051c8088cb38e949891ccbcdb78c3e8af15ef4c2587", func := "spandrel/spandrellaw07.StoreBounds", spec := "storeBounds", unfollowed := true, recurses := true, apart := false }
def StoreBoundsSaid : Prop := storeBoundsRow.holds Try.pinned (OpenSpec.ofChange storeBoundsSpec)

/-- ITS FALSE NEIGHBOUR: 'it returns false'. Refute it at one input. -/
def storeBoundsWrong : ChangeSpec := { name := "storeBounds", fn := fun _ => fun
  | [d1, d2, d3] => { results := [.lit (.bool false)], args := [d1, d2, d3] }
  | _ => none }
def StoreBoundsWrongFalsely : Prop := storeBoundsRow.holds Try.pinned (OpenSpec.ofChange storeBoundsWrong)

/-- 'spandrellaw07.StoreForm': WHATEVER THE INPUT: true; the input reads as it did. -/
def storeFormSpec : ChangeSpec := { name := "storeForm", fn := fun _ => fun
  | [d] => { results := [.lit (.bool true)], args := [d] }
  | _ => none }
def storeFormRow : OpenClaim := { program := "ytdjcifeoplgkpaa", sum := "f40d016a07f3da11ec0f7051c8088cb38e949891ccbcdb78c3e8af15ef4c2587", func := "spandrel/spandrellaw07.StoreForm", spec := "storeForm", unfollowed := true, recurses := true, apart := false }
def StoreFormSaid : Prop := storeFormRow.holds Try.pinned (OpenSpec.ofChange storeFormSpec)

/-- ITS FALSE NEIGHBOUR: 'it returns false'. Refute it at one input. -/
def storeFormWrong : ChangeSpec := { name := "storeForm", fn := fun _ => fun
  | [d] => { results := [.lit (.bool false)], args := [d] }
  | _ => none }
def StoreFormWrongFalsely : Prop := storeFormRow.holds Try.pinned (OpenSpec.ofChange storeFormWrong)

/-- 'spandrellaw07.StoreBack': WHATEVER THE INPUT: true; the input reads as it did. -/
def storeBackSpec : ChangeSpec := { name := "storeBack", fn := fun _ => fun
  | [d1, d2] => { results := [.lit (.bool true)], args := [d1, d2] }
  | _ => none }
def storeBackRow : OpenClaim := { program := "ytdjcifeoplgkpaa", sum := "f40d016a07f3da11ec0f7051c8088cb38e949891ccbcdb78c3e8af15ef4c2587", func := "spandrel/spandrellaw07.StoreBack", spec := "storeBack", unfollowed := true, recurses := true, apart := false }
def StoreBackSaid : Prop := storeBackRow.holds Try.pinned (OpenSpec.ofChange storeBackSpec)

/-- ITS FALSE NEIGHBOUR: 'it returns false'. Refute it at one input. -/
def storeBackWrong : ChangeSpec := { name := "storeBack", fn := fun _ => fun
  | [d1, d2] => { results := [.lit (.bool false)], args := [d1, d2] }
  | _ => none }
def StoreBackWrongFalsely : Prop := storeBackRow.holds Try.pinned (OpenSpec.ofChange storeBackWrong)

/- THE SECOND FORM. 'bulk': how many values and letters a reading holds, each counted each time it is reached (what is shared counts as often as it is met; a slice's spare places count too). A statement '..UptoSaid' is the law's where the arguments, and the package variables that the reading takes, are together of bulk at most 1048576: NARROWER than '..Said'. Prove '..Said' where nothing that the law and all that it calls make is longer than what came in: it says more and counts as full. Else prove '..UptoSaid'. A law counts once. -/
mutual
def uptoBulk {H : Type} : DataW H → Nat
  | .lit (.string bytes) => bytes.length + 1
  | .lit _ => 1
  | .nil => 1
  | .ptr d => uptoBulk d + 1
  | .slice elems spare => uptoBulkAll elems + uptoBulkAll spare + 1
  | .agg parts => uptoBulkAll parts + 1
  | .iface _ d => uptoBulk d + 1
  | .map entries => uptoBulkEntries entries + 1
  | .held _ => 1
def uptoBulkAll {H : Type} : List (DataW H) → Nat
  | [] => 0
  | d :: r => uptoBulk d + uptoBulkAll r
def uptoBulkEntries {H : Type} : List (Lit × DataW H) → Nat
  | [] => 0
  | x :: r => uptoBulkEntry x + uptoBulkEntries r
def uptoBulkEntry {H : Type} : Lit × DataW H → Nat
  | (.string bytes, d) => bytes.length + uptoBulk d + 1
  | (_, d) => uptoBulk d + 1
 end
def uptoSmall : (H : Type) → List (DataW H) → Bool := fun _ ds => decide (uptoBulkAll ds ≤ 1048576)
def OpenSpec.upto (s : _root_.Go.ChangeSpec) : _root_.Go.OpenSpec := { _root_.Go.OpenSpec.ofChange s with cond := some uptoSmall }

/-- 'spandrellaw07.StoreAgain', WHERE WHAT IT READS IS OF BULK AT MOST 1048576: true; the input reads as it did. -/
def storeAgainUptoRow : OpenClaim := { program := "ytdjcifeoplgkpaa", sum := "f40d016a07f3da11ec0f7051c8088cb38e949891ccbcdb78c3e8af15ef4c2587", func := "spandrel/spandrellaw07.StoreAgain", spec := "storeAgain", unfollowed := true, recurses := true, apart := false, narrowed := true }
def StoreAgainUptoSaid : Prop := storeAgainUptoRow.holds Try.pinned (OpenSpec.upto storeAgainSpec)

/-- 'spandrellaw07.StoreNobody', WHERE WHAT IT READS IS OF BULK AT MOST 1048576: true; the input reads as it did. -/
def storeNobodyUptoRow : OpenClaim := { program := "ytdjcifeoplgkpaa", sum := "f40d016a07f3da11ec0f7051c8088cb38e949891ccbcdb78c3e8af15ef4c2587", func := "spandrel/spandrellaw07.StoreNobody", spec := "storeNobody", unfollowed := true, recurses := true, apart := false, narrowed := true }
def StoreNobodyUptoSaid : Prop := storeNobodyUptoRow.holds Try.pinned (OpenSpec.upto storeNobodySpec)

/-- 'spandrellaw07.StoreApart', WHERE WHAT IT READS IS OF BULK AT MOST 1048576: true; the input reads as it did. -/
def storeApartUptoRow : OpenClaim := { program := "ytdjcifeoplgkpaa", sum := "f40d016a07f3da11ec0f7051c8088cb38e949891ccbcdb78c3e8af15ef4c2587", func := "spandrel/spandrellaw07.StoreApart", spec := "storeApart", unfollowed := true, recurses := true, apart := false, narrowed := true }
def StoreApartUptoSaid : Prop := storeApartUptoRow.holds Try.pinned (OpenSpec.upto storeApartSpec)

/-- 'spandrellaw07.StoreParts', WHERE WHAT IT READS IS OF BULK AT MOST 1048576: true; the input reads as it did. -/
def storePartsUptoRow : OpenClaim := { program := "ytdjcifeoplgkpaa", sum := "f40d016a07f3da11ec0f7051c8088cb38e949891ccbcdb78c3e8af15ef4c2587", func := "spandrel/spandrellaw07.StoreParts", spec := "storeParts", unfollowed := true, recurses := true, apart := false, narrowed := true }
def StorePartsUptoSaid : Prop := storePartsUptoRow.holds Try.pinned (OpenSpec.upto storePartsSpec)

/-- 'spandrellaw07.StoreRetains', WHERE WHAT IT READS IS OF BULK AT MOST 1048576: true; the input reads as it did. -/
def storeRetainsUptoRow : OpenClaim := { program := "ytdjcifeoplgkpaa", sum := "f40d016a07f3da11ec0f7051c8088cb38e949891ccbcdb78c3e8af15ef4c2587", func := "spandrel/spandrellaw07.StoreRetains", spec := "storeRetains", unfollowed := true, recurses := true, apart := false, narrowed := true }
def StoreRetainsUptoSaid : Prop := storeRetainsUptoRow.holds Try.pinned (OpenSpec.upto storeRetainsSpec)

/-- 'spandrellaw07.StoreBounds', WHERE WHAT IT READS IS OF BULK AT MOST 1048576: true; the input reads as it did. -/
def storeBoundsUptoRow : OpenClaim := { program := "ytdjcifeoplgkpaa", sum := "f40d016a07f3da11ec0f7051c8088cb38e949891ccbcdb78c3e8af15ef4c2587", func := "spandrel/spandrellaw07.StoreBounds", spec := "storeBounds", unfollowed := true, recurses := true, apart := false, narrowed := true }
def StoreBoundsUptoSaid : Prop := storeBoundsUptoRow.holds Try.pinned (OpenSpec.upto storeBoundsSpec)

/-- 'spandrellaw07.StoreForm', WHERE WHAT IT READS IS OF BULK AT MOST 1048576: true; the input reads as it did. -/
def storeFormUptoRow : OpenClaim := { program := "ytdjcifeoplgkpaa", sum := "f40d016a07f3da11ec0f7051c8088cb38e949891ccbcdb78c3e8af15ef4c2587", func := "spandrel/spandrellaw07.StoreForm", spec := "storeForm", unfollowed := true, recurses := true, apart := false, narrowed := true }
def StoreFormUptoSaid : Prop := storeFormUptoRow.holds Try.pinned (OpenSpec.upto storeFormSpec)

/-- 'spandrellaw07.StoreBack', WHERE WHAT IT READS IS OF BULK AT MOST 1048576: true; the input reads as it did. -/
def storeBackUptoRow : OpenClaim := { program := "ytdjcifeoplgkpaa", sum := "f40d016a07f3da11ec0f7051c8088cb38e949891ccbcdb78c3e8af15ef4c2587", func := "spandrel/spandrellaw07.StoreBack", spec := "storeBack", unfollowed := true, recurses := true, apart := false, narrowed := true }
def StoreBackUptoSaid : Prop := storeBackUptoRow.holds Try.pinned (OpenSpec.upto storeBackSpec)

end Rows
end Go.Proofs.Ytdjcifeoplgkpaa
