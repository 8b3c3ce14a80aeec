/-
  NARROWER THAN 'FOR EVERY INPUT', by the rows' own cells (each row's printed sentence says how): AuditReplays: laid · AuditLinear: laid · AuditLooks: laid · AuditFronts: laid · AuditExplains: laid · AuditOrder: laid · AuditFound: laid.
  DERIVED. THE GIVEN ROWS OF THIS SEAT. 7 by the template 'for every input the law returns true; each argument reads behind the call as it read before'; 0 by the template 'total and deterministic' (their statements: YtfjpenbahoeklaaGreatDoorTotals.lean).
  GIVEN WITH THE SEED: the statements are not yours to turn. If you find one false, say at which input.
  Laid BY PROGRAM, IN A SANDBOX (cutbox-rows.mjs): the forced cells as the released guide's own fill.sh prints them over the translation a86de04959ddf856… (all of the seat's roots in one cut). By AI agents, Wed Nov 11 2026. No macro, syntax, notation, axiom, sorry.
-/
import Derived.Test.YtfjpenbahoeklaaGreatDoorChecked
import GoSem.Claim
import GoSem.ClaimJoined
import GoSem.ClaimMapViews
import Derived.JoinedTies
import Derived.KernelRfl
namespace Go.Proofs.YtfjpenbahoeklaaGreatDoor
/- THE CELL 'sum', in the pinned program and in every row, IS THE sha256 OF THE DUMP (.gsa) THAT YtfjpenbahoeklaaGreatDoorProg.lean LOADS. Nothing in Lean hashes anything: it is a label: what it is worth is what the hold of that sum in a sandbox is worth. -/
noncomputable def Tryz.pinned : Pinned := { name := "ytfjpenbahoeklaagreatdoor", sum := "a86de04959ddf8568519b8d8dda3f214eaca5d160518df249fabe1c62b29c19a", checked := Tryz.checked }
namespace Rows
def none {H : Type} : Left H := { results := [], args := [] }

/- WHAT THE LISTED PACKAGE-LEVEL VARIABLES READ AS WHEN THE CALL BEGINS. Each datum BY PROGRAM (the guide's laid-datum.mjs) off the statement by which the dump's own 'gosem.cut.vars' lays the variable. In a bare row this is a premise. The card (YtfjpenbahoeklaaGreatDoorCards.lean) ties it to the program's text. -/
def laid_errors_errorType {H : Type} : DataW H := .iface "internal/reflectlite.rtype" (.agg [.ptr (.lit (.string [101, 114, 114, 111, 114]))])

/-- 'spandrellaw16.AuditReplays': WHATEVER THE INPUT: true; the input reads as it did. -/
def auditReplaysSpec : ChangeSpec := { name := "auditReplays", fn := fun _ => fun
  | [d1, d2] => { results := [.lit (.bool true)], args := [d1, d2] }
  | _ => none }
def auditReplaysRow : OpenClaim := { program := "ytfjpenbahoeklaagreatdoor", sum := "a86de04959ddf8568519b8d8dda3f214eaca5d160518df249fabe1c62b29c19a", func := "spandrel/spandrellaw16.AuditReplays", spec := "auditReplays", inPlace := ["internal/reflectlite.ValueOf", "(internal/reflectlite.Value).Type", "(internal/reflectlite.Value).IsNil", "internal/reflectlite.TypeOf", "(internal/reflectlite.Value).Elem", "(internal/reflectlite.Value).Set"], unfollowed := true, recurses := true, named := ["errors.errorType"], apart := false, laid := [("errors.errorType", laid_errors_errorType)] }
def AuditReplaysSaid : Prop := auditReplaysRow.holds Tryz.pinned (OpenSpec.ofChange auditReplaysSpec)

/-- ITS FALSE NEIGHBOUR: 'it returns false'. Refute it at one input. -/
def auditReplaysWrong : ChangeSpec := { name := "auditReplays", fn := fun _ => fun
  | [d1, d2] => { results := [.lit (.bool false)], args := [d1, d2] }
  | _ => none }
def AuditReplaysWrongFalsely : Prop := auditReplaysRow.holds Tryz.pinned (OpenSpec.ofChange auditReplaysWrong)

/-- 'spandrellaw16.AuditLinear': WHATEVER THE INPUT: true; the input reads as it did. -/
def auditLinearSpec : ChangeSpec := { name := "auditLinear", fn := fun _ => fun
  | [d1, d2, d3] => { results := [.lit (.bool true)], args := [d1, d2, d3] }
  | _ => none }
def auditLinearRow : OpenClaim := { program := "ytfjpenbahoeklaagreatdoor", sum := "a86de04959ddf8568519b8d8dda3f214eaca5d160518df249fabe1c62b29c19a", func := "spandrel/spandrellaw16.AuditLinear", spec := "auditLinear", inPlace := ["internal/reflectlite.ValueOf", "(internal/reflectlite.Value).Type", "(internal/reflectlite.Value).IsNil", "internal/reflectlite.TypeOf", "(internal/reflectlite.Value).Elem", "(internal/reflectlite.Value).Set"], unfollowed := true, recurses := true, named := ["errors.errorType"], apart := false, laid := [("errors.errorType", laid_errors_errorType)] }
def AuditLinearSaid : Prop := auditLinearRow.holds Tryz.pinned (OpenSpec.ofChange auditLinearSpec)

/-- ITS FALSE NEIGHBOUR: 'it returns false'. Refute it at one input. -/
def auditLinearWrong : ChangeSpec := { name := "auditLinear", fn := fun _ => fun
  | [d1, d2, d3] => { results := [.lit (.bool false)], args := [d1, d2, d3] }
  | _ => none }
def AuditLinearWrongFalsely : Prop := auditLinearRow.holds Tryz.pinned (OpenSpec.ofChange auditLinearWrong)

/-- 'spandrellaw16.AuditLooks': WHATEVER THE INPUT: true; the input reads as it did. -/
def auditLooksSpec : ChangeSpec := { name := "auditLooks", fn := fun _ => fun
  | [d] => { results := [.lit (.bool true)], args := [d] }
  | _ => none }
def auditLooksRow : OpenClaim := { program := "ytfjpenbahoeklaagreatdoor", sum := "a86de04959ddf8568519b8d8dda3f214eaca5d160518df249fabe1c62b29c19a", func := "spandrel/spandrellaw16.AuditLooks", spec := "auditLooks", inPlace := ["internal/reflectlite.ValueOf", "(internal/reflectlite.Value).Type", "(internal/reflectlite.Value).IsNil", "internal/reflectlite.TypeOf", "(internal/reflectlite.Value).Elem", "(internal/reflectlite.Value).Set"], unfollowed := true, recurses := true, named := ["errors.errorType"], apart := false, laid := [("errors.errorType", laid_errors_errorType)] }
def AuditLooksSaid : Prop := auditLooksRow.holds Tryz.pinned (OpenSpec.ofChange auditLooksSpec)

/-- ITS FALSE NEIGHBOUR: 'it returns false'. Refute it at one input. -/
def auditLooksWrong : ChangeSpec := { name := "auditLooks", fn := fun _ => fun
  | [d] => { results := [.lit (.bool false)], args := [d] }
  | _ => none }
def AuditLooksWrongFalsely : Prop := auditLooksRow.holds Tryz.pinned (OpenSpec.ofChange auditLooksWrong)

/-- 'spandrellaw16.AuditFronts': WHATEVER THE INPUT: true; the input reads as it did. -/
def auditFrontsSpec : ChangeSpec := { name := "auditFronts", fn := fun _ => fun
  | [d1, d2, d3] => { results := [.lit (.bool true)], args := [d1, d2, d3] }
  | _ => none }
def auditFrontsRow : OpenClaim := { program := "ytfjpenbahoeklaagreatdoor", sum := "a86de04959ddf8568519b8d8dda3f214eaca5d160518df249fabe1c62b29c19a", func := "spandrel/spandrellaw16.AuditFronts", spec := "auditFronts", inPlace := ["internal/reflectlite.ValueOf", "(internal/reflectlite.Value).Type", "(internal/reflectlite.Value).IsNil", "internal/reflectlite.TypeOf", "(internal/reflectlite.Value).Elem", "(internal/reflectlite.Value).Set"], unfollowed := true, recurses := true, named := ["errors.errorType"], apart := false, laid := [("errors.errorType", laid_errors_errorType)] }
def AuditFrontsSaid : Prop := auditFrontsRow.holds Tryz.pinned (OpenSpec.ofChange auditFrontsSpec)

/-- ITS FALSE NEIGHBOUR: 'it returns false'. Refute it at one input. -/
def auditFrontsWrong : ChangeSpec := { name := "auditFronts", fn := fun _ => fun
  | [d1, d2, d3] => { results := [.lit (.bool false)], args := [d1, d2, d3] }
  | _ => none }
def AuditFrontsWrongFalsely : Prop := auditFrontsRow.holds Tryz.pinned (OpenSpec.ofChange auditFrontsWrong)

/-- 'spandrellaw16.AuditExplains': WHATEVER THE INPUT: true; the input reads as it did. -/
def auditExplainsSpec : ChangeSpec := { name := "auditExplains", fn := fun _ => fun
  | [d1, d2, d3] => { results := [.lit (.bool true)], args := [d1, d2, d3] }
  | _ => none }
def auditExplainsRow : OpenClaim := { program := "ytfjpenbahoeklaagreatdoor", sum := "a86de04959ddf8568519b8d8dda3f214eaca5d160518df249fabe1c62b29c19a", func := "spandrel/spandrellaw16.AuditExplains", spec := "auditExplains", inPlace := ["internal/reflectlite.ValueOf", "(internal/reflectlite.Value).Type", "(internal/reflectlite.Value).IsNil", "internal/reflectlite.TypeOf", "(internal/reflectlite.Value).Elem", "(internal/reflectlite.Value).Set"], unfollowed := true, recurses := true, named := ["errors.errorType"], apart := false, laid := [("errors.errorType", laid_errors_errorType)] }
def AuditExplainsSaid : Prop := auditExplainsRow.holds Tryz.pinned (OpenSpec.ofChange auditExplainsSpec)

/-- ITS FALSE NEIGHBOUR: 'it returns false'. Refute it at one input. -/
def auditExplainsWrong : ChangeSpec := { name := "auditExplains", fn := fun _ => fun
  | [d1, d2, d3] => { results := [.lit (.bool false)], args := [d1, d2, d3] }
  | _ => none }
def AuditExplainsWrongFalsely : Prop := auditExplainsRow.holds Tryz.pinned (OpenSpec.ofChange auditExplainsWrong)

/-- 'spandrellaw16.AuditOrder': WHATEVER THE INPUT: true; the input reads as it did. -/
def auditOrderSpec : ChangeSpec := { name := "auditOrder", fn := fun _ => fun
  | [d1, d2, d3] => { results := [.lit (.bool true)], args := [d1, d2, d3] }
  | _ => none }
def auditOrderRow : OpenClaim := { program := "ytfjpenbahoeklaagreatdoor", sum := "a86de04959ddf8568519b8d8dda3f214eaca5d160518df249fabe1c62b29c19a", func := "spandrel/spandrellaw16.AuditOrder", spec := "auditOrder", inPlace := ["internal/reflectlite.ValueOf", "(internal/reflectlite.Value).Type", "(internal/reflectlite.Value).IsNil", "internal/reflectlite.TypeOf", "(internal/reflectlite.Value).Elem", "(internal/reflectlite.Value).Set"], unfollowed := true, recurses := true, named := ["errors.errorType"], apart := false, laid := [("errors.errorType", laid_errors_errorType)] }
def AuditOrderSaid : Prop := auditOrderRow.holds Tryz.pinned (OpenSpec.ofChange auditOrderSpec)

/-- ITS FALSE NEIGHBOUR: 'it returns false'. Refute it at one input. -/
def auditOrderWrong : ChangeSpec := { name := "auditOrder", fn := fun _ => fun
  | [d1, d2, d3] => { results := [.lit (.bool false)], args := [d1, d2, d3] }
  | _ => none }
def AuditOrderWrongFalsely : Prop := auditOrderRow.holds Tryz.pinned (OpenSpec.ofChange auditOrderWrong)

/-- 'spandrellaw16.AuditFound': WHATEVER THE INPUT: true; the input reads as it did. -/
def auditFoundSpec : ChangeSpec := { name := "auditFound", fn := fun _ => fun
  | [d1, d2] => { results := [.lit (.bool true)], args := [d1, d2] }
  | _ => none }
def auditFoundRow : OpenClaim := { program := "ytfjpenbahoeklaagreatdoor", sum := "a86de04959ddf8568519b8d8dda3f214eaca5d160518df249fabe1c62b29c19a", func := "spandrel/spandrellaw16.AuditFound", spec := "auditFound", inPlace := ["internal/reflectlite.ValueOf", "(internal/reflectlite.Value).Type", "(internal/reflectlite.Value).IsNil", "internal/reflectlite.TypeOf", "(internal/reflectlite.Value).Elem", "(internal/reflectlite.Value).Set"], unfollowed := true, recurses := true, named := ["errors.errorType"], apart := false, laid := [("errors.errorType", laid_errors_errorType)] }
def AuditFoundSaid : Prop := auditFoundRow.holds Tryz.pinned (OpenSpec.ofChange auditFoundSpec)

/-- ITS FALSE NEIGHBOUR: 'it returns false'. Refute it at one input. -/
def auditFoundWrong : ChangeSpec := { name := "auditFound", fn := fun _ => fun
  | [d1, d2] => { results := [.lit (.bool false)], args := [d1, d2] }
  | _ => none }
def AuditFoundWrongFalsely : Prop := auditFoundRow.holds Tryz.pinned (OpenSpec.ofChange auditFoundWrong)

/- THE SECOND FORM. 'bulk': how many values and letters a reading holds, each counted each time it is reached (what is shared counts as often as it is met; a slice's spare places count too). A statement '..UptoSaid' is the law's where the arguments, and the package variables that the reading takes, are together of bulk at most 1048576: NARROWER than '..Said'. Prove '..Said' where nothing that the law and all that it calls make is longer than what came in: it says more and counts as full. Else prove '..UptoSaid'. A law counts once. -/
mutual
def uptoBulk {H : Type} : DataW H → Nat
  | .lit (.string bytes) => bytes.length + 1
  | .lit _ => 1
  | .nil => 1
  | .ptr d => uptoBulk d + 1
  | .slice elems spare => uptoBulkAll elems + uptoBulkAll spare + 1
  | .agg parts => uptoBulkAll parts + 1
  | .iface _ d => uptoBulk d + 1
  | .map entries => uptoBulkEntries entries + 1
  | .held _ => 1
def uptoBulkAll {H : Type} : List (DataW H) → Nat
  | [] => 0
  | d :: r => uptoBulk d + uptoBulkAll r
def uptoBulkEntries {H : Type} : List (Lit × DataW H) → Nat
  | [] => 0
  | x :: r => uptoBulkEntry x + uptoBulkEntries r
def uptoBulkEntry {H : Type} : Lit × DataW H → Nat
  | (.string bytes, d) => bytes.length + uptoBulk d + 1
  | (_, d) => uptoBulk d + 1
 end
def uptoSmall : (H : Type) → List (DataW H) → Bool := fun _ ds => decide (uptoBulkAll ds ≤ 1048576)
def OpenSpec.upto (s : _root_.Go.ChangeSpec) : _root_.Go.OpenSpec := { _root_.Go.OpenSpec.ofChange s with cond := some uptoSmall }

/-- 'spandrellaw16.AuditReplays', WHERE WHAT IT READS IS OF BULK AT MOST 1048576: true; the input reads as it did. -/
def auditReplaysUptoRow : OpenClaim := { program := "ytfjpenbahoeklaagreatdoor", sum := "a86de04959ddf8568519b8d8dda3f214eaca5d160518df249fabe1c62b29c19a", func := "spandrel/spandrellaw16.AuditReplays", spec := "auditReplays", inPlace := ["internal/reflectlite.ValueOf", "(internal/reflectlite.Value).Type", "(internal/reflectlite.Value).IsNil", "internal/reflectlite.TypeOf", "(internal/reflectlite.Value).Elem", "(internal/reflectlite.Value).Set"], unfollowed := true, recurses := true, named := ["errors.errorType"], apart := false, laid := [("errors.errorType", laid_errors_errorType)], narrowed := true }
def AuditReplaysUptoSaid : Prop := auditReplaysUptoRow.holds Tryz.pinned (OpenSpec.upto auditReplaysSpec)

/-- 'spandrellaw16.AuditLinear', WHERE WHAT IT READS IS OF BULK AT MOST 1048576: true; the input reads as it did. -/
def auditLinearUptoRow : OpenClaim := { program := "ytfjpenbahoeklaagreatdoor", sum := "a86de04959ddf8568519b8d8dda3f214eaca5d160518df249fabe1c62b29c19a", func := "spandrel/spandrellaw16.AuditLinear", spec := "auditLinear", inPlace := ["internal/reflectlite.ValueOf", "(internal/reflectlite.Value).Type", "(internal/reflectlite.Value).IsNil", "internal/reflectlite.TypeOf", "(internal/reflectlite.Value).Elem", "(internal/reflectlite.Value).Set"], unfollowed := true, recurses := true, named := ["errors.errorType"], apart := false, laid := [("errors.errorType", laid_errors_errorType)], narrowed := true }
def AuditLinearUptoSaid : Prop := auditLinearUptoRow.holds Tryz.pinned (OpenSpec.upto auditLinearSpec)

/-- 'spandrellaw16.AuditLooks', WHERE WHAT IT READS IS OF BULK AT MOST 1048576: true; the input reads as it did. -/
def auditLooksUptoRow : OpenClaim := { program := "ytfjpenbahoeklaagreatdoor", sum := "a86de04959ddf8568519b8d8dda3f214eaca5d160518df249fabe1c62b29c19a", func := "spandrel/spandrellaw16.AuditLooks", spec := "auditLooks", inPlace := ["internal/reflectlite.ValueOf", "(internal/reflectlite.Value).Type", "(internal/reflectlite.Value).IsNil", "internal/reflectlite.TypeOf", "(internal/reflectlite.Value).Elem", "(internal/reflectlite.Value).Set"], unfollowed := true, recurses := true, named := ["errors.errorType"], apart := false, laid := [("errors.errorType", laid_errors_errorType)], narrowed := true }
def AuditLooksUptoSaid : Prop := auditLooksUptoRow.holds Tryz.pinned (OpenSpec.upto auditLooksSpec)

/-- 'spandrellaw16.AuditFronts', WHERE WHAT IT READS IS OF BULK AT MOST 1048576: true; the input reads as it did. -/
def auditFrontsUptoRow : OpenClaim := { program := "ytfjpenbahoeklaagreatdoor", sum := "a86de04959ddf8568519b8d8dda3f214eaca5d160518df249fabe1c62b29c19a", func := "spandrel/spandrellaw16.AuditFronts", spec := "auditFronts", inPlace := ["internal/reflectlite.ValueOf", "(internal/reflectlite.Value).Type", "(internal/reflectlite.Value).IsNil", "internal/reflectlite.TypeOf", "(internal/reflectlite.Value).Elem", "(internal/reflectlite.Value).Set"], unfollowed := true, recurses := true, named := ["errors.errorType"], apart := false, laid := [("errors.errorType", laid_errors_errorType)], narrowed := true }
def AuditFrontsUptoSaid : Prop := auditFrontsUptoRow.holds Tryz.pinned (OpenSpec.upto auditFrontsSpec)

/-- 'spandrellaw16.AuditExplains', WHERE WHAT IT READS IS OF BULK AT MOST 1048576: true; the input reads as it did. -/
def auditExplainsUptoRow : OpenClaim := { program := "ytfjpenbahoeklaagreatdoor", sum := "a86de04959ddf8568519b8d8dda3f214eaca5d160518df249fabe1c62b29c19a", func := "spandrel/spandrellaw16.AuditExplains", spec := "auditExplains", inPlace := ["internal/reflectlite.ValueOf", "(internal/reflectlite.Value).Type", "(internal/reflectlite.Value).IsNil", "internal/reflectlite.TypeOf", "(internal/reflectlite.Value).Elem", "(internal/reflectlite.Value).Set"], unfollowed := true, recurses := true, named := ["errors.errorType"], apart := false, laid := [("errors.errorType", laid_errors_errorType)], narrowed := true }
def AuditExplainsUptoSaid : Prop := auditExplainsUptoRow.holds Tryz.pinned (OpenSpec.upto auditExplainsSpec)

/-- 'spandrellaw16.AuditOrder', WHERE WHAT IT READS IS OF BULK AT MOST 1048576: true; the input reads as it did. -/
def auditOrderUptoRow : OpenClaim := { program := "ytfjpenbahoeklaagreatdoor", sum := "a86de04959ddf8568519b8d8dda3f214eaca5d160518df249fabe1c62b29c19a", func := "spandrel/spandrellaw16.AuditOrder", spec := "auditOrder", inPlace := ["internal/reflectlite.ValueOf", "(internal/reflectlite.Value).Type", "(internal/reflectlite.Value).IsNil", "internal/reflectlite.TypeOf", "(internal/reflectlite.Value).Elem", "(internal/reflectlite.Value).Set"], unfollowed := true, recurses := true, named := ["errors.errorType"], apart := false, laid := [("errors.errorType", laid_errors_errorType)], narrowed := true }
def AuditOrderUptoSaid : Prop := auditOrderUptoRow.holds Tryz.pinned (OpenSpec.upto auditOrderSpec)

/-- 'spandrellaw16.AuditFound', WHERE WHAT IT READS IS OF BULK AT MOST 1048576: true; the input reads as it did. -/
def auditFoundUptoRow : OpenClaim := { program := "ytfjpenbahoeklaagreatdoor", sum := "a86de04959ddf8568519b8d8dda3f214eaca5d160518df249fabe1c62b29c19a", func := "spandrel/spandrellaw16.AuditFound", spec := "auditFound", inPlace := ["internal/reflectlite.ValueOf", "(internal/reflectlite.Value).Type", "(internal/reflectlite.Value).IsNil", "internal/reflectlite.TypeOf", "(internal/reflectlite.Value).Elem", "(internal/reflectlite.Value).Set"], unfollowed := true, recurses := true, named := ["errors.errorType"], apart := false, laid := [("errors.errorType", laid_errors_errorType)], narrowed := true }
def AuditFoundUptoSaid : Prop := auditFoundUptoRow.holds Tryz.pinned (OpenSpec.upto auditFoundSpec)

end Rows
end Go.Proofs.YtfjpenbahoeklaaGreatDoor
