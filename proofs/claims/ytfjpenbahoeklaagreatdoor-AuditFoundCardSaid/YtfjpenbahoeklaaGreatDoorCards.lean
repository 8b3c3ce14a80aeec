/-
  DERIVED. GIVEN WITH THE SEED: THE CARDS: each row of YtfjpenbahoeklaaGreatDoorRows.lean that lists a variable, with what it lists TIED to the program's text (the seventh form; the later family's looks); each row that meets fmt, with fmt's text TOLD by the authors' own Lean function (tested against real Go, not proved from fmt's source: count such statements apart). THE CARD IS WHAT COUNTS. Prove the row's statement (the work); the ties are given (YtfjpenbahoeklaaGreatDoorTie.lean); close each card by the builder's one call (the guide's Derived/Test/ToyasCard.lean, 'card_holds'). Laid BY PROGRAM, IN A SANDBOX (cutbox-door.mjs). By AI agents, Wed Nov 11 2026. No macro, syntax, notation, axiom, sorry.
-/
import Derived.Test.YtfjpenbahoeklaaGreatDoorRows
import GoSem.ClaimSeven
namespace Go.Proofs.YtfjpenbahoeklaaGreatDoor
namespace Rows

/-- THE TIED CARD OF 'spandrellaw16.AuditReplays'. -/
def auditReplaysCard : Claim7 := { stood := { row := auditReplaysRow, standIns := [], harness := (true, "7ab5535f0b829a14ad4045a6ddfe7e7cb745c47dd4a351b22a92250c00316ca1"), looks := true }, kinds := [], alts := [], laidByText := true, laidKinds := [.handle], laidTests := true, laidLooks := .later }
def AuditReplaysCardSaid : Prop := Claim7.holds Tryz.pinned (.plain (OpenSpec.ofChange auditReplaysSpec)) auditReplaysCard

/-- THE TIED CARD OF 'spandrellaw16.AuditLinear'. -/
def auditLinearCard : Claim7 := { stood := { row := auditLinearRow, standIns := [], harness := (true, "7ab5535f0b829a14ad4045a6ddfe7e7cb745c47dd4a351b22a92250c00316ca1"), looks := true }, kinds := [], alts := [], laidByText := true, laidKinds := [.handle], laidTests := true, laidLooks := .later }
def AuditLinearCardSaid : Prop := Claim7.holds Tryz.pinned (.plain (OpenSpec.ofChange auditLinearSpec)) auditLinearCard

/-- THE TIED CARD OF 'spandrellaw16.AuditLooks'. -/
def auditLooksCard : Claim7 := { stood := { row := auditLooksRow, standIns := [], harness := (true, "7ab5535f0b829a14ad4045a6ddfe7e7cb745c47dd4a351b22a92250c00316ca1"), looks := true }, kinds := [], alts := [], laidByText := true, laidKinds := [.handle], laidTests := true, laidLooks := .later }
def AuditLooksCardSaid : Prop := Claim7.holds Tryz.pinned (.plain (OpenSpec.ofChange auditLooksSpec)) auditLooksCard

/-- THE TIED CARD OF 'spandrellaw16.AuditFronts'. -/
def auditFrontsCard : Claim7 := { stood := { row := auditFrontsRow, standIns := [], harness := (true, "7ab5535f0b829a14ad4045a6ddfe7e7cb745c47dd4a351b22a92250c00316ca1"), looks := true }, kinds := [], alts := [], laidByText := true, laidKinds := [.handle], laidTests := true, laidLooks := .later }
def AuditFrontsCardSaid : Prop := Claim7.holds Tryz.pinned (.plain (OpenSpec.ofChange auditFrontsSpec)) auditFrontsCard

/-- THE TIED CARD OF 'spandrellaw16.AuditExplains'. -/
def auditExplainsCard : Claim7 := { stood := { row := auditExplainsRow, standIns := [], harness := (true, "7ab5535f0b829a14ad4045a6ddfe7e7cb745c47dd4a351b22a92250c00316ca1"), looks := true }, kinds := [], alts := [], laidByText := true, laidKinds := [.handle], laidTests := true, laidLooks := .later }
def AuditExplainsCardSaid : Prop := Claim7.holds Tryz.pinned (.plain (OpenSpec.ofChange auditExplainsSpec)) auditExplainsCard

/-- THE TIED CARD OF 'spandrellaw16.AuditOrder'. -/
def auditOrderCard : Claim7 := { stood := { row := auditOrderRow, standIns := [], harness := (true, "7ab5535f0b829a14ad4045a6ddfe7e7cb745c47dd4a351b22a92250c00316ca1"), looks := true }, kinds := [], alts := [], laidByText := true, laidKinds := [.handle], laidTests := true, laidLooks := .later }
def AuditOrderCardSaid : Prop := Claim7.holds Tryz.pinned (.plain (OpenSpec.ofChange auditOrderSpec)) auditOrderCard

/-- THE TIED CARD OF 'spandrellaw16.AuditFound'. -/
def auditFoundCard : Claim7 := { stood := { row := auditFoundRow, standIns := [], harness := (true, "7ab5535f0b829a14ad4045a6ddfe7e7cb745c47dd4a351b22a92250c00316ca1"), looks := true }, kinds := [], alts := [], laidByText := true, laidKinds := [.handle], laidTests := true, laidLooks := .later }
def AuditFoundCardSaid : Prop := Claim7.holds Tryz.pinned (.plain (OpenSpec.ofChange auditFoundSpec)) auditFoundCard

/-- THE SECOND FORM's CARD OF 'spandrellaw16.AuditReplays'. -/
def auditReplaysUptoCard : Claim7 := { stood := { row := auditReplaysUptoRow, standIns := [], harness := (true, "7ab5535f0b829a14ad4045a6ddfe7e7cb745c47dd4a351b22a92250c00316ca1"), looks := true }, kinds := [], alts := [], laidByText := true, laidKinds := [.handle], laidTests := true, laidLooks := .later }
def AuditReplaysUptoCardSaid : Prop := Claim7.holds Tryz.pinned (.plain (OpenSpec.upto auditReplaysSpec)) auditReplaysUptoCard

/-- THE SECOND FORM's CARD OF 'spandrellaw16.AuditLinear'. -/
def auditLinearUptoCard : Claim7 := { stood := { row := auditLinearUptoRow, standIns := [], harness := (true, "7ab5535f0b829a14ad4045a6ddfe7e7cb745c47dd4a351b22a92250c00316ca1"), looks := true }, kinds := [], alts := [], laidByText := true, laidKinds := [.handle], laidTests := true, laidLooks := .later }
def AuditLinearUptoCardSaid : Prop := Claim7.holds Tryz.pinned (.plain (OpenSpec.upto auditLinearSpec)) auditLinearUptoCard

/-- THE SECOND FORM's CARD OF 'spandrellaw16.AuditLooks'. -/
def auditLooksUptoCard : Claim7 := { stood := { row := auditLooksUptoRow, standIns := [], harness := (true, "7ab5535f0b829a14ad4045a6ddfe7e7cb745c47dd4a351b22a92250c00316ca1"), looks := true }, kinds := [], alts := [], laidByText := true, laidKinds := [.handle], laidTests := true, laidLooks := .later }
def AuditLooksUptoCardSaid : Prop := Claim7.holds Tryz.pinned (.plain (OpenSpec.upto auditLooksSpec)) auditLooksUptoCard

/-- THE SECOND FORM's CARD OF 'spandrellaw16.AuditFronts'. -/
def auditFrontsUptoCard : Claim7 := { stood := { row := auditFrontsUptoRow, standIns := [], harness := (true, "7ab5535f0b829a14ad4045a6ddfe7e7cb745c47dd4a351b22a92250c00316ca1"), looks := true }, kinds := [], alts := [], laidByText := true, laidKinds := [.handle], laidTests := true, laidLooks := .later }
def AuditFrontsUptoCardSaid : Prop := Claim7.holds Tryz.pinned (.plain (OpenSpec.upto auditFrontsSpec)) auditFrontsUptoCard

/-- THE SECOND FORM's CARD OF 'spandrellaw16.AuditExplains'. -/
def auditExplainsUptoCard : Claim7 := { stood := { row := auditExplainsUptoRow, standIns := [], harness := (true, "7ab5535f0b829a14ad4045a6ddfe7e7cb745c47dd4a351b22a92250c00316ca1"), looks := true }, kinds := [], alts := [], laidByText := true, laidKinds := [.handle], laidTests := true, laidLooks := .later }
def AuditExplainsUptoCardSaid : Prop := Claim7.holds Tryz.pinned (.plain (OpenSpec.upto auditExplainsSpec)) auditExplainsUptoCard

/-- THE SECOND FORM's CARD OF 'spandrellaw16.AuditOrder'. -/
def auditOrderUptoCard : Claim7 := { stood := { row := auditOrderUptoRow, standIns := [], harness := (true, "7ab5535f0b829a14ad4045a6ddfe7e7cb745c47dd4a351b22a92250c00316ca1"), looks := true }, kinds := [], alts := [], laidByText := true, laidKinds := [.handle], laidTests := true, laidLooks := .later }
def AuditOrderUptoCardSaid : Prop := Claim7.holds Tryz.pinned (.plain (OpenSpec.upto auditOrderSpec)) auditOrderUptoCard

/-- THE SECOND FORM's CARD OF 'spandrellaw16.AuditFound'. -/
def auditFoundUptoCard : Claim7 := { stood := { row := auditFoundUptoRow, standIns := [], harness := (true, "7ab5535f0b829a14ad4045a6ddfe7e7cb745c47dd4a351b22a92250c00316ca1"), looks := true }, kinds := [], alts := [], laidByText := true, laidKinds := [.handle], laidTests := true, laidLooks := .later }
def AuditFoundUptoCardSaid : Prop := Claim7.holds Tryz.pinned (.plain (OpenSpec.upto auditFoundSpec)) auditFoundUptoCard
end Rows
end Go.Proofs.YtfjpenbahoeklaaGreatDoor
