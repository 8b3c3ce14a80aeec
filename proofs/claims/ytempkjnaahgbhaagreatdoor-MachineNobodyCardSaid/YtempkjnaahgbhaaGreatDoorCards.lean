/-
  DERIVED. GIVEN WITH THE SEED: THE CARDS: each row of YtempkjnaahgbhaaGreatDoorRows.lean that lists a variable, with what it lists TIED to the program's text (the seventh form; the later family's looks); each row that meets fmt, with fmt's text TOLD by the authors' own Lean function (tested against real Go, not proved from fmt's source: count such statements apart). THE CARD IS WHAT COUNTS. Prove the row's statement (the work); the ties are given (YtempkjnaahgbhaaGreatDoorTie.lean); close each card by the builder's one call (the guide's Derived/Test/ToyasCard.lean, 'card_holds'). Laid BY PROGRAM, IN A SANDBOX (cutbox-door.mjs). By AI agents, Wed Nov 11 2026. No macro, syntax, notation, axiom, sorry.
-/
import Derived.Test.YtempkjnaahgbhaaGreatDoorRows
import GoSem.ClaimSeven
namespace Go.Proofs.YtempkjnaahgbhaaGreatDoor
namespace Rows

/-- THE TIED CARD OF 'spandrellaw09.MachinePuts'. -/
def machinePutsCard : Claim7 := { stood := { row := machinePutsRow, standIns := [], harness := (true, "93cc657bffcf39d41ae1e76683231944323e21c08efa4d2869f452426fdfa7bb"), looks := true }, kinds := [], alts := [], laidByText := true, laidKinds := [.handle], laidTests := true, laidLooks := .later }
def MachinePutsCardSaid : Prop := Claim7.holds Tryz.pinned (.plain (OpenSpec.ofChange machinePutsSpec)) machinePutsCard

/-- THE TIED CARD OF 'spandrellaw09.MachineGets'. -/
def machineGetsCard : Claim7 := { stood := { row := machineGetsRow, standIns := [], harness := (true, "93cc657bffcf39d41ae1e76683231944323e21c08efa4d2869f452426fdfa7bb"), looks := true }, kinds := [], alts := [], laidByText := true, laidKinds := [.handle], laidTests := true, laidLooks := .later }
def MachineGetsCardSaid : Prop := Claim7.holds Tryz.pinned (.plain (OpenSpec.ofChange machineGetsSpec)) machineGetsCard

/-- THE TIED CARD OF 'spandrellaw09.MachineForms'. -/
def machineFormsCard : Claim7 := { stood := { row := machineFormsRow, standIns := [], harness := (true, "93cc657bffcf39d41ae1e76683231944323e21c08efa4d2869f452426fdfa7bb"), looks := true }, kinds := [], alts := [], laidByText := true, laidKinds := [.handle], laidTests := true, laidLooks := .later }
def MachineFormsCardSaid : Prop := Claim7.holds Tryz.pinned (.plain (OpenSpec.ofChange machineFormsSpec)) machineFormsCard

/-- THE TIED CARD OF 'spandrellaw09.MachineEnds'. -/
def machineEndsCard : Claim7 := { stood := { row := machineEndsRow, standIns := [], harness := (true, "93cc657bffcf39d41ae1e76683231944323e21c08efa4d2869f452426fdfa7bb"), looks := true }, kinds := [], alts := [], laidByText := true, laidKinds := [.handle], laidTests := true, laidLooks := .later }
def MachineEndsCardSaid : Prop := Claim7.holds Tryz.pinned (.plain (OpenSpec.ofChange machineEndsSpec)) machineEndsCard

/-- THE TIED CARD OF 'spandrellaw09.MachineSame'. -/
def machineSameCard : Claim7 := { stood := { row := machineSameRow, standIns := [], harness := (true, "93cc657bffcf39d41ae1e76683231944323e21c08efa4d2869f452426fdfa7bb"), looks := true }, kinds := [], alts := [], laidByText := true, laidKinds := [.handle], laidTests := true, laidLooks := .later }
def MachineSameCardSaid : Prop := Claim7.holds Tryz.pinned (.plain (OpenSpec.ofChange machineSameSpec)) machineSameCard

/-- THE TIED CARD OF 'spandrellaw09.MachinePlays'. -/
def machinePlaysCard : Claim7 := { stood := { row := machinePlaysRow, standIns := [], harness := (true, "93cc657bffcf39d41ae1e76683231944323e21c08efa4d2869f452426fdfa7bb"), looks := true }, kinds := [], alts := [], laidByText := true, laidKinds := [.handle], laidTests := true, laidLooks := .later }
def MachinePlaysCardSaid : Prop := Claim7.holds Tryz.pinned (.plain (OpenSpec.ofChange machinePlaysSpec)) machinePlaysCard

/-- THE TIED CARD OF 'spandrellaw09.MachineRefused'. -/
def machineRefusedCard : Claim7 := { stood := { row := machineRefusedRow, standIns := [], harness := (true, "93cc657bffcf39d41ae1e76683231944323e21c08efa4d2869f452426fdfa7bb"), looks := true }, kinds := [], alts := [], laidByText := true, laidKinds := [.handle], laidTests := true, laidLooks := .later }
def MachineRefusedCardSaid : Prop := Claim7.holds Tryz.pinned (.plain (OpenSpec.ofChange machineRefusedSpec)) machineRefusedCard

/-- THE TIED CARD OF 'spandrellaw09.MachineBack'. -/
def machineBackCard : Claim7 := { stood := { row := machineBackRow, standIns := [], harness := (true, "93cc657bffcf39d41ae1e76683231944323e21c08efa4d2869f452426fdfa7bb"), looks := true }, kinds := [], alts := [], laidByText := true, laidKinds := [.handle], laidTests := true, laidLooks := .later }
def MachineBackCardSaid : Prop := Claim7.holds Tryz.pinned (.plain (OpenSpec.ofChange machineBackSpec)) machineBackCard

/-- THE TIED CARD OF 'spandrellaw09.MachineNobody'. -/
def machineNobodyCard : Claim7 := { stood := { row := machineNobodyRow, standIns := [], harness := (true, "93cc657bffcf39d41ae1e76683231944323e21c08efa4d2869f452426fdfa7bb"), looks := true }, kinds := [], alts := [], laidByText := true, laidKinds := [.handle], laidTests := true, laidLooks := .later }
def MachineNobodyCardSaid : Prop := Claim7.holds Tryz.pinned (.plain (OpenSpec.ofChange machineNobodySpec)) machineNobodyCard

/-- THE TIED CARD OF 'spandrellaw09.MachineOnce'. -/
def machineOnceCard : Claim7 := { stood := { row := machineOnceRow, standIns := [], harness := (true, "93cc657bffcf39d41ae1e76683231944323e21c08efa4d2869f452426fdfa7bb"), looks := true }, kinds := [], alts := [], laidByText := true, laidKinds := [.handle], laidTests := true, laidLooks := .later }
def MachineOnceCardSaid : Prop := Claim7.holds Tryz.pinned (.plain (OpenSpec.ofChange machineOnceSpec)) machineOnceCard

/-- THE TIED CARD OF 'spandrellaw09.MachineLoads'. -/
def machineLoadsCard : Claim7 := { stood := { row := machineLoadsRow, standIns := [], harness := (true, "93cc657bffcf39d41ae1e76683231944323e21c08efa4d2869f452426fdfa7bb"), looks := true }, kinds := [], alts := [], laidByText := true, laidKinds := [.handle], laidTests := true, laidLooks := .later }
def MachineLoadsCardSaid : Prop := Claim7.holds Tryz.pinned (.plain (OpenSpec.ofChange machineLoadsSpec)) machineLoadsCard

/-- THE SECOND FORM's CARD OF 'spandrellaw09.MachinePuts'. -/
def machinePutsUptoCard : Claim7 := { stood := { row := machinePutsUptoRow, standIns := [], harness := (true, "93cc657bffcf39d41ae1e76683231944323e21c08efa4d2869f452426fdfa7bb"), looks := true }, kinds := [], alts := [], laidByText := true, laidKinds := [.handle], laidTests := true, laidLooks := .later }
def MachinePutsUptoCardSaid : Prop := Claim7.holds Tryz.pinned (.plain (OpenSpec.upto machinePutsSpec)) machinePutsUptoCard

/-- THE SECOND FORM's CARD OF 'spandrellaw09.MachineGets'. -/
def machineGetsUptoCard : Claim7 := { stood := { row := machineGetsUptoRow, standIns := [], harness := (true, "93cc657bffcf39d41ae1e76683231944323e21c08efa4d2869f452426fdfa7bb"), looks := true }, kinds := [], alts := [], laidByText := true, laidKinds := [.handle], laidTests := true, laidLooks := .later }
def MachineGetsUptoCardSaid : Prop := Claim7.holds Tryz.pinned (.plain (OpenSpec.upto machineGetsSpec)) machineGetsUptoCard

/-- THE SECOND FORM's CARD OF 'spandrellaw09.MachineForms'. -/
def machineFormsUptoCard : Claim7 := { stood := { row := machineFormsUptoRow, standIns := [], harness := (true, "93cc657bffcf39d41ae1e76683231944323e21c08efa4d2869f452426fdfa7bb"), looks := true }, kinds := [], alts := [], laidByText := true, laidKinds := [.handle], laidTests := true, laidLooks := .later }
def MachineFormsUptoCardSaid : Prop := Claim7.holds Tryz.pinned (.plain (OpenSpec.upto machineFormsSpec)) machineFormsUptoCard

/-- THE SECOND FORM's CARD OF 'spandrellaw09.MachineEnds'. -/
def machineEndsUptoCard : Claim7 := { stood := { row := machineEndsUptoRow, standIns := [], harness := (true, "93cc657bffcf39d41ae1e76683231944323e21c08efa4d2869f452426fdfa7bb"), looks := true }, kinds := [], alts := [], laidByText := true, laidKinds := [.handle], laidTests := true, laidLooks := .later }
def MachineEndsUptoCardSaid : Prop := Claim7.holds Tryz.pinned (.plain (OpenSpec.upto machineEndsSpec)) machineEndsUptoCard

/-- THE SECOND FORM's CARD OF 'spandrellaw09.MachineSame'. -/
def machineSameUptoCard : Claim7 := { stood := { row := machineSameUptoRow, standIns := [], harness := (true, "93cc657bffcf39d41ae1e76683231944323e21c08efa4d2869f452426fdfa7bb"), looks := true }, kinds := [], alts := [], laidByText := true, laidKinds := [.handle], laidTests := true, laidLooks := .later }
def MachineSameUptoCardSaid : Prop := Claim7.holds Tryz.pinned (.plain (OpenSpec.upto machineSameSpec)) machineSameUptoCard

/-- THE SECOND FORM's CARD OF 'spandrellaw09.MachinePlays'. -/
def machinePlaysUptoCard : Claim7 := { stood := { row := machinePlaysUptoRow, standIns := [], harness := (true, "93cc657bffcf39d41ae1e76683231944323e21c08efa4d2869f452426fdfa7bb"), looks := true }, kinds := [], alts := [], laidByText := true, laidKinds := [.handle], laidTests := true, laidLooks := .later }
def MachinePlaysUptoCardSaid : Prop := Claim7.holds Tryz.pinned (.plain (OpenSpec.upto machinePlaysSpec)) machinePlaysUptoCard

/-- THE SECOND FORM's CARD OF 'spandrellaw09.MachineRefused'. -/
def machineRefusedUptoCard : Claim7 := { stood := { row := machineRefusedUptoRow, standIns := [], harness := (true, "93cc657bffcf39d41ae1e76683231944323e21c08efa4d2869f452426fdfa7bb"), looks := true }, kinds := [], alts := [], laidByText := true, laidKinds := [.handle], laidTests := true, laidLooks := .later }
def MachineRefusedUptoCardSaid : Prop := Claim7.holds Tryz.pinned (.plain (OpenSpec.upto machineRefusedSpec)) machineRefusedUptoCard

/-- THE SECOND FORM's CARD OF 'spandrellaw09.MachineBack'. -/
def machineBackUptoCard : Claim7 := { stood := { row := machineBackUptoRow, standIns := [], harness := (true, "93cc657bffcf39d41ae1e76683231944323e21c08efa4d2869f452426fdfa7bb"), looks := true }, kinds := [], alts := [], laidByText := true, laidKinds := [.handle], laidTests := true, laidLooks := .later }
def MachineBackUptoCardSaid : Prop := Claim7.holds Tryz.pinned (.plain (OpenSpec.upto machineBackSpec)) machineBackUptoCard

/-- THE SECOND FORM's CARD OF 'spandrellaw09.MachineNobody'. -/
def machineNobodyUptoCard : Claim7 := { stood := { row := machineNobodyUptoRow, standIns := [], harness := (true, "93cc657bffcf39d41ae1e76683231944323e21c08efa4d2869f452426fdfa7bb"), looks := true }, kinds := [], alts := [], laidByText := true, laidKinds := [.handle], laidTests := true, laidLooks := .later }
def MachineNobodyUptoCardSaid : Prop := Claim7.holds Tryz.pinned (.plain (OpenSpec.upto machineNobodySpec)) machineNobodyUptoCard

/-- THE SECOND FORM's CARD OF 'spandrellaw09.MachineOnce'. -/
def machineOnceUptoCard : Claim7 := { stood := { row := machineOnceUptoRow, standIns := [], harness := (true, "93cc657bffcf39d41ae1e76683231944323e21c08efa4d2869f452426fdfa7bb"), looks := true }, kinds := [], alts := [], laidByText := true, laidKinds := [.handle], laidTests := true, laidLooks := .later }
def MachineOnceUptoCardSaid : Prop := Claim7.holds Tryz.pinned (.plain (OpenSpec.upto machineOnceSpec)) machineOnceUptoCard

/-- THE SECOND FORM's CARD OF 'spandrellaw09.MachineLoads'. -/
def machineLoadsUptoCard : Claim7 := { stood := { row := machineLoadsUptoRow, standIns := [], harness := (true, "93cc657bffcf39d41ae1e76683231944323e21c08efa4d2869f452426fdfa7bb"), looks := true }, kinds := [], alts := [], laidByText := true, laidKinds := [.handle], laidTests := true, laidLooks := .later }
def MachineLoadsUptoCardSaid : Prop := Claim7.holds Tryz.pinned (.plain (OpenSpec.upto machineLoadsSpec)) machineLoadsUptoCard
end Rows
end Go.Proofs.YtempkjnaahgbhaaGreatDoor
