/-
  No cell of these rows narrows 'for every input' (looked for: loops, veiled, ifaces, maps, wideKeys, modest, calm, conditions, laid).
  DERIVED. THE GIVEN ROWS OF THIS SEAT. 8 by the template 'for every input the law returns true; each argument reads behind the call as it read before'; 0 by the template 'total and deterministic' (their statements: YtgdhbklgcmcdeaaTotals.lean).
  GIVEN WITH THE SEED: the statements are not yours to turn. If you find one false, say at which input.
  Laid BY PROGRAM, IN A SANDBOX (cutbox-rows.mjs): the forced cells as the released guide's own fill.sh prints them over the translation c917c99845e2f923… (all of the seat's roots in one cut). By AI agents, Wed Nov 11 2026. No macro, syntax, notation, axiom, sorry.
-/
import Derived.Test.YtgdhbklgcmcdeaaChecked
import GoSem.Claim
import GoSem.ClaimJoined
import GoSem.ClaimMapViews
import Derived.JoinedTies
import Derived.KernelRfl
namespace Go.Proofs.Ytgdhbklgcmcdeaa
/- THE CELL 'sum', in the pinned program and in every row, IS THE sha256 OF THE DUMP (.gsa) THAT YtgdhbklgcmcdeaaProg.lean LOADS. Nothing in Lean hashes anything: it is a label: what it is worth is what the hold of that sum in a sandbox is worth. -/
noncomputable def Try.pinned : Pinned := { name := "ytgdhbklgcmcdeaa", sum := "c917c99845e2f92356d171e11a8607ab871a5ee1d2af2553737d60b7ce3ce00d", checked := Try.checked }
namespace Rows
def none {H : Type} : Left H := { results := [], args := [] }

/-- 'spandrellaw03.SpanChecks': WHATEVER THE INPUT: true; the input reads as it did. -/
def spanChecksSpec : ChangeSpec := { name := "spanChecks", fn := fun _ => fun
  | [d] => { results := [.lit (.bool true)], args := [d] }
  | _ => none }
def spanChecksRow : OpenClaim := { program := "ytgdhbklgcmcdeaa", sum := "c917c99845e2f92356d171e11a8607ab871a5ee1d2af2553737d60b7ce3ce00d", func := "spandrel/spandrellaw03.SpanChecks", spec := "spanChecks", apart := false }
def SpanChecksSaid : Prop := spanChecksRow.holds Try.pinned (OpenSpec.ofChange spanChecksSpec)

/-- ITS FALSE NEIGHBOUR: 'it returns false'. Refute it at one input. -/
def spanChecksWrong : ChangeSpec := { name := "spanChecks", fn := fun _ => fun
  | [d] => { results := [.lit (.bool false)], args := [d] }
  | _ => none }
def SpanChecksWrongFalsely : Prop := spanChecksRow.holds Try.pinned (OpenSpec.ofChange spanChecksWrong)

/-- 'spandrellaw03.SpanForm': WHATEVER THE INPUT: true; the input reads as it did. -/
def spanFormSpec : ChangeSpec := { name := "spanForm", fn := fun _ => fun
  | [d] => { results := [.lit (.bool true)], args := [d] }
  | _ => none }
def spanFormRow : OpenClaim := { program := "ytgdhbklgcmcdeaa", sum := "c917c99845e2f92356d171e11a8607ab871a5ee1d2af2553737d60b7ce3ce00d", func := "spandrel/spandrellaw03.SpanForm", spec := "spanForm", apart := false }
def SpanFormSaid : Prop := spanFormRow.holds Try.pinned (OpenSpec.ofChange spanFormSpec)

/-- ITS FALSE NEIGHBOUR: 'it returns false'. Refute it at one input. -/
def spanFormWrong : ChangeSpec := { name := "spanForm", fn := fun _ => fun
  | [d] => { results := [.lit (.bool false)], args := [d] }
  | _ => none }
def SpanFormWrongFalsely : Prop := spanFormRow.holds Try.pinned (OpenSpec.ofChange spanFormWrong)

/-- 'spandrellaw03.SpanBack': WHATEVER THE INPUT: true; the input reads as it did. -/
def spanBackSpec : ChangeSpec := { name := "spanBack", fn := fun _ => fun
  | [d] => { results := [.lit (.bool true)], args := [d] }
  | _ => none }
def spanBackRow : OpenClaim := { program := "ytgdhbklgcmcdeaa", sum := "c917c99845e2f92356d171e11a8607ab871a5ee1d2af2553737d60b7ce3ce00d", func := "spandrel/spandrellaw03.SpanBack", spec := "spanBack", apart := false }
def SpanBackSaid : Prop := spanBackRow.holds Try.pinned (OpenSpec.ofChange spanBackSpec)

/-- ITS FALSE NEIGHBOUR: 'it returns false'. Refute it at one input. -/
def spanBackWrong : ChangeSpec := { name := "spanBack", fn := fun _ => fun
  | [d] => { results := [.lit (.bool false)], args := [d] }
  | _ => none }
def SpanBackWrongFalsely : Prop := spanBackRow.holds Try.pinned (OpenSpec.ofChange spanBackWrong)

/-- 'spandrellaw03.SpanPuts': WHATEVER THE INPUT: true; the input reads as it did. -/
def spanPutsSpec : ChangeSpec := { name := "spanPuts", fn := fun _ => fun
  | [d] => { results := [.lit (.bool true)], args := [d] }
  | _ => none }
def spanPutsRow : OpenClaim := { program := "ytgdhbklgcmcdeaa", sum := "c917c99845e2f92356d171e11a8607ab871a5ee1d2af2553737d60b7ce3ce00d", func := "spandrel/spandrellaw03.SpanPuts", spec := "spanPuts", recurses := true, apart := false }
def SpanPutsSaid : Prop := spanPutsRow.holds Try.pinned (OpenSpec.ofChange spanPutsSpec)

/-- ITS FALSE NEIGHBOUR: 'it returns false'. Refute it at one input. -/
def spanPutsWrong : ChangeSpec := { name := "spanPuts", fn := fun _ => fun
  | [d] => { results := [.lit (.bool false)], args := [d] }
  | _ => none }
def SpanPutsWrongFalsely : Prop := spanPutsRow.holds Try.pinned (OpenSpec.ofChange spanPutsWrong)

/-- 'spandrellaw03.SpanGets': WHATEVER THE INPUT: true; the input reads as it did. -/
def spanGetsSpec : ChangeSpec := { name := "spanGets", fn := fun _ => fun
  | [d] => { results := [.lit (.bool true)], args := [d] }
  | _ => none }
def spanGetsRow : OpenClaim := { program := "ytgdhbklgcmcdeaa", sum := "c917c99845e2f92356d171e11a8607ab871a5ee1d2af2553737d60b7ce3ce00d", func := "spandrel/spandrellaw03.SpanGets", spec := "spanGets", recurses := true, apart := false }
def SpanGetsSaid : Prop := spanGetsRow.holds Try.pinned (OpenSpec.ofChange spanGetsSpec)

/-- ITS FALSE NEIGHBOUR: 'it returns false'. Refute it at one input. -/
def spanGetsWrong : ChangeSpec := { name := "spanGets", fn := fun _ => fun
  | [d] => { results := [.lit (.bool false)], args := [d] }
  | _ => none }
def SpanGetsWrongFalsely : Prop := spanGetsRow.holds Try.pinned (OpenSpec.ofChange spanGetsWrong)

/-- 'spandrellaw03.SpanBetween': WHATEVER THE INPUT: true; the input reads as it did. -/
def spanBetweenSpec : ChangeSpec := { name := "spanBetween", fn := fun _ => fun
  | [d1, d2, d3] => { results := [.lit (.bool true)], args := [d1, d2, d3] }
  | _ => none }
def spanBetweenRow : OpenClaim := { program := "ytgdhbklgcmcdeaa", sum := "c917c99845e2f92356d171e11a8607ab871a5ee1d2af2553737d60b7ce3ce00d", func := "spandrel/spandrellaw03.SpanBetween", spec := "spanBetween", apart := false }
def SpanBetweenSaid : Prop := spanBetweenRow.holds Try.pinned (OpenSpec.ofChange spanBetweenSpec)

/-- ITS FALSE NEIGHBOUR: 'it returns false'. Refute it at one input. -/
def spanBetweenWrong : ChangeSpec := { name := "spanBetween", fn := fun _ => fun
  | [d1, d2, d3] => { results := [.lit (.bool false)], args := [d1, d2, d3] }
  | _ => none }
def SpanBetweenWrongFalsely : Prop := spanBetweenRow.holds Try.pinned (OpenSpec.ofChange spanBetweenWrong)

/-- 'spandrellaw03.SpanSame': WHATEVER THE INPUT: true; the input reads as it did. -/
def spanSameSpec : ChangeSpec := { name := "spanSame", fn := fun _ => fun
  | [d1, d2] => { results := [.lit (.bool true)], args := [d1, d2] }
  | _ => none }
def spanSameRow : OpenClaim := { program := "ytgdhbklgcmcdeaa", sum := "c917c99845e2f92356d171e11a8607ab871a5ee1d2af2553737d60b7ce3ce00d", func := "spandrel/spandrellaw03.SpanSame", spec := "spanSame", unfollowed := true, recurses := true, apart := false }
def SpanSameSaid : Prop := spanSameRow.holds Try.pinned (OpenSpec.ofChange spanSameSpec)

/-- ITS FALSE NEIGHBOUR: 'it returns false'. Refute it at one input. -/
def spanSameWrong : ChangeSpec := { name := "spanSame", fn := fun _ => fun
  | [d1, d2] => { results := [.lit (.bool false)], args := [d1, d2] }
  | _ => none }
def SpanSameWrongFalsely : Prop := spanSameRow.holds Try.pinned (OpenSpec.ofChange spanSameWrong)

/-- 'spandrellaw03.SpanOrders': WHATEVER THE INPUT: true; the input reads as it did. -/
def spanOrdersSpec : ChangeSpec := { name := "spanOrders", fn := fun _ => fun
  | [d1, d2, d3] => { results := [.lit (.bool true)], args := [d1, d2, d3] }
  | _ => none }
def spanOrdersRow : OpenClaim := { program := "ytgdhbklgcmcdeaa", sum := "c917c99845e2f92356d171e11a8607ab871a5ee1d2af2553737d60b7ce3ce00d", func := "spandrel/spandrellaw03.SpanOrders", spec := "spanOrders", unfollowed := true, recurses := true, apart := false }
def SpanOrdersSaid : Prop := spanOrdersRow.holds Try.pinned (OpenSpec.ofChange spanOrdersSpec)

/-- ITS FALSE NEIGHBOUR: 'it returns false'. Refute it at one input. -/
def spanOrdersWrong : ChangeSpec := { name := "spanOrders", fn := fun _ => fun
  | [d1, d2, d3] => { results := [.lit (.bool false)], args := [d1, d2, d3] }
  | _ => none }
def SpanOrdersWrongFalsely : Prop := spanOrdersRow.holds Try.pinned (OpenSpec.ofChange spanOrdersWrong)

/- THE SECOND FORM. 'bulk': how many values and letters a reading holds, each counted each time it is reached (what is shared counts as often as it is met; a slice's spare places count too). A statement '..UptoSaid' is the law's where the arguments, and the package variables that the reading takes, are together of bulk at most 1048576: NARROWER than '..Said'. Prove '..Said' where nothing that the law and all that it calls make is longer than what came in: it says more and counts as full. Else prove '..UptoSaid'. A law counts once. -/
mutual
def uptoBulk {H : Type} : DataW H → Nat
  | .lit (.string bytes) => bytes.length + 1
  | .lit _ => 1
  | .nil => 1
  | .ptr d => uptoBulk d + 1
  | .slice elems spare => uptoBulkAll elems + uptoBulkAll spare + 1
  | .agg parts => uptoBulkAll parts + 1
  | .iface _ d => uptoBulk d + 1
  | .map entries => uptoBulkEntries entries + 1
  | .held _ => 1
def uptoBulkAll {H : Type} : List (DataW H) → Nat
  | [] => 0
  | d :: r => uptoBulk d + uptoBulkAll r
def uptoBulkEntries {H : Type} : List (Lit × DataW H) → Nat
  | [] => 0
  | x :: r => uptoBulkEntry x + uptoBulkEntries r
def uptoBulkEntry {H : Type} : Lit × DataW H → Nat
  | (.string bytes, d) => bytes.length + uptoBulk d + 1
  | (_, d) => uptoBulk d + 1
 end
def uptoSmall : (H : Type) → List (DataW H) → Bool := fun _ ds => decide (uptoBulkAll ds ≤ 1048576)
def OpenSpec.upto (s : _root_.Go.ChangeSpec) : _root_.Go.OpenSpec := { _root_.Go.OpenSpec.ofChange s with cond := some uptoSmall }

/-- 'spandrellaw03.SpanChecks', WHERE WHAT IT READS IS OF BULK AT MOST 1048576: true; the input reads as it did. -/
def spanChecksUptoRow : OpenClaim := { program := "ytgdhbklgcmcdeaa", sum := "c917c99845e2f92356d171e11a8607ab871a5ee1d2af2553737d60b7ce3ce00d", func := "spandrel/spandrellaw03.SpanChecks", spec := "spanChecks", apart := false, narrowed := true }
def SpanChecksUptoSaid : Prop := spanChecksUptoRow.holds Try.pinned (OpenSpec.upto spanChecksSpec)

/-- 'spandrellaw03.SpanForm', WHERE WHAT IT READS IS OF BULK AT MOST 1048576: true; the input reads as it did. -/
def spanFormUptoRow : OpenClaim := { program := "ytgdhbklgcmcdeaa", sum := "c917c99845e2f92356d171e11a8607ab871a5ee1d2af2553737d60b7ce3ce00d", func := "spandrel/spandrellaw03.SpanForm", spec := "spanForm", apart := false, narrowed := true }
def SpanFormUptoSaid : Prop := spanFormUptoRow.holds Try.pinned (OpenSpec.upto spanFormSpec)

/-- 'spandrellaw03.SpanBack', WHERE WHAT IT READS IS OF BULK AT MOST 1048576: true; the input reads as it did. -/
def spanBackUptoRow : OpenClaim := { program := "ytgdhbklgcmcdeaa", sum := "c917c99845e2f92356d171e11a8607ab871a5ee1d2af2553737d60b7ce3ce00d", func := "spandrel/spandrellaw03.SpanBack", spec := "spanBack", apart := false, narrowed := true }
def SpanBackUptoSaid : Prop := spanBackUptoRow.holds Try.pinned (OpenSpec.upto spanBackSpec)

/-- 'spandrellaw03.SpanPuts', WHERE WHAT IT READS IS OF BULK AT MOST 1048576: true; the input reads as it did. -/
def spanPutsUptoRow : OpenClaim := { program := "ytgdhbklgcmcdeaa", sum := "c917c99845e2f92356d171e11a8607ab871a5ee1d2af2553737d60b7ce3ce00d", func := "spandrel/spandrellaw03.SpanPuts", spec := "spanPuts", recurses := true, apart := false, narrowed := true }
def SpanPutsUptoSaid : Prop := spanPutsUptoRow.holds Try.pinned (OpenSpec.upto spanPutsSpec)

/-- 'spandrellaw03.SpanGets', WHERE WHAT IT READS IS OF BULK AT MOST 1048576: true; the input reads as it did. -/
def spanGetsUptoRow : OpenClaim := { program := "ytgdhbklgcmcdeaa", sum := "c917c99845e2f92356d171e11a8607ab871a5ee1d2af2553737d60b7ce3ce00d", func := "spandrel/spandrellaw03.SpanGets", spec := "spanGets", recurses := true, apart := false, narrowed := true }
def SpanGetsUptoSaid : Prop := spanGetsUptoRow.holds Try.pinned (OpenSpec.upto spanGetsSpec)

/-- 'spandrellaw03.SpanBetween', WHERE WHAT IT READS IS OF BULK AT MOST 1048576: true; the input reads as it did. -/
def spanBetweenUptoRow : OpenClaim := { program := "ytgdhbklgcmcdeaa", sum := "c917c99845e2f92356d171e11a8607ab871a5ee1d2af2553737d60b7ce3ce00d", func := "spandrel/spandrellaw03.SpanBetween", spec := "spanBetween", apart := false, narrowed := true }
def SpanBetweenUptoSaid : Prop := spanBetweenUptoRow.holds Try.pinned (OpenSpec.upto spanBetweenSpec)

/-- 'spandrellaw03.SpanSame', WHERE WHAT IT READS IS OF BULK AT MOST 1048576: true; the input reads as it did. -/
def spanSameUptoRow : OpenClaim := { program := "ytgdhbklgcmcdeaa", sum := "c917c99845e2f92356d171e11a8607ab871a5ee1d2af2553737d60b7ce3ce00d", func := "spandrel/spandrellaw03.SpanSame", spec := "spanSame", unfollowed := true, recurses := true, apart := false, narrowed := true }
def SpanSameUptoSaid : Prop := spanSameUptoRow.holds Try.pinned (OpenSpec.upto spanSameSpec)

/-- 'spandrellaw03.SpanOrders', WHERE WHAT IT READS IS OF BULK AT MOST 1048576: true; the input reads as it did. -/
def spanOrdersUptoRow : OpenClaim := { program := "ytgdhbklgcmcdeaa", sum := "c917c99845e2f92356d171e11a8607ab871a5ee1d2af2553737d60b7ce3ce00d", func := "spandrel/spandrellaw03.SpanOrders", spec := "spanOrders", unfollowed := true, recurses := true, apart := false, narrowed := true }
def SpanOrdersUptoSaid : Prop := spanOrdersUptoRow.holds Try.pinned (OpenSpec.upto spanOrdersSpec)

end Rows
end Go.Proofs.Ytgdhbklgcmcdeaa
