/-
  DERIVED. GIVEN WITH THE SEED: THE CARDS: each row of YtehneliphhgegaaDoorRows.lean that lists a variable, with what it lists TIED to the program's text (the seventh form; the later family's looks); each row that meets fmt, with fmt's text TOLD by the authors' own Lean function (tested against real Go, not proved from fmt's source: count such statements apart). THE CARD IS WHAT COUNTS. Prove the row's statement (the work); the ties are given (YtehneliphhgegaaDoorTie.lean); close each card by the builder's one call (the guide's Derived/Test/ToyasCard.lean, 'card_holds'). Laid BY PROGRAM, IN A SANDBOX (cutbox-door.mjs). By AI agents, Wed Nov 11 2026. No macro, syntax, notation, axiom, sorry.
-/
import Derived.Test.YtehneliphhgegaaDoorRows
import GoSem.ClaimSeven
namespace Go.Proofs.YtehneliphhgegaaDoor
namespace Rows

/-- THE TIED CARD OF 'apographlaw19.CommandRefs'. -/
def commandRefsCard : Claim7 := { stood := { row := commandRefsRow, standIns := [], harness := (true, "416b10941c445cac8044ab6fbad72b869c27493449b861d0e80a1379b1bf89b9"), looks := true }, kinds := [], alts := [], laidByText := true, laidKinds := [.data, .data, .data, .sentinel, .sentinel], laidTests := true, laidLooks := .later }
def CommandRefsCardSaid : Prop := Claim7.holds Tryd.pinned (.plain (OpenSpec.ofChange commandRefsSpec)) commandRefsCard

/-- THE TIED CARD OF 'apographlaw19.CommandWords'. -/
def commandWordsCard : Claim7 := { stood := { row := commandWordsRow, standIns := [], harness := (true, "416b10941c445cac8044ab6fbad72b869c27493449b861d0e80a1379b1bf89b9"), looks := true }, kinds := [], alts := [], laidByText := true, laidKinds := [.data, .data, .data, .sentinel, .sentinel], laidTests := true, laidLooks := .later }
def CommandWordsCardSaid : Prop := Claim7.holds Tryd.pinned (.plain (OpenSpec.ofChange commandWordsSpec)) commandWordsCard

/-- THE TIED CARD OF 'apographlaw19.CommandChecks'. -/
def commandChecksCard : Claim7 := { stood := { row := commandChecksRow, standIns := [], harness := (true, "416b10941c445cac8044ab6fbad72b869c27493449b861d0e80a1379b1bf89b9"), looks := true }, kinds := [], alts := [], laidByText := true, laidKinds := [.data, .data, .data, .sentinel, .sentinel], laidTests := true, laidLooks := .later }
def CommandChecksCardSaid : Prop := Claim7.holds Tryd.pinned (.plain (OpenSpec.ofChange commandChecksSpec)) commandChecksCard

/-- THE TIED CARD OF 'apographlaw19.CommandPuts'. -/
def commandPutsCard : Claim7 := { stood := { row := commandPutsRow, standIns := [], harness := (true, "416b10941c445cac8044ab6fbad72b869c27493449b861d0e80a1379b1bf89b9"), looks := true }, kinds := [], alts := [], laidByText := true, laidKinds := [.data, .data, .data, .sentinel, .sentinel], laidTests := true, laidLooks := .later }
def CommandPutsCardSaid : Prop := Claim7.holds Tryd.pinned (.plain (OpenSpec.ofChange commandPutsSpec)) commandPutsCard

/-- THE TIED CARD OF 'apographlaw19.CommandBack'. -/
def commandBackCard : Claim7 := { stood := { row := commandBackRow, standIns := [], harness := (true, "416b10941c445cac8044ab6fbad72b869c27493449b861d0e80a1379b1bf89b9"), looks := true }, kinds := [], alts := [], laidByText := true, laidKinds := [.data, .data, .data, .sentinel, .sentinel], laidTests := true, laidLooks := .later }
def CommandBackCardSaid : Prop := Claim7.holds Tryd.pinned (.plain (OpenSpec.ofChange commandBackSpec)) commandBackCard

/-- THE TIED CARD OF 'apographlaw19.CommandOnce'. -/
def commandOnceCard : Claim7 := { stood := { row := commandOnceRow, standIns := [], harness := (true, "416b10941c445cac8044ab6fbad72b869c27493449b861d0e80a1379b1bf89b9"), looks := true }, kinds := [], alts := [], laidByText := true, laidKinds := [.data, .data, .data, .sentinel, .sentinel], laidTests := true, laidLooks := .later }
def CommandOnceCardSaid : Prop := Claim7.holds Tryd.pinned (.plain (OpenSpec.ofChange commandOnceSpec)) commandOnceCard

/-- THE TIED CARD OF 'apographlaw33.NameSplits'. -/
def nameSplitsCard : Claim7 := { stood := { row := nameSplitsRow, standIns := [], harness := (true, "416b10941c445cac8044ab6fbad72b869c27493449b861d0e80a1379b1bf89b9"), looks := true }, kinds := [], alts := [], laidByText := true, laidKinds := [.data, .data, .data, .sentinel, .sentinel], laidTests := true, laidLooks := .later }
def NameSplitsCardSaid : Prop := Claim7.holds Tryd.pinned (.plain (OpenSpec.ofChange nameSplitsSpec)) nameSplitsCard

/-- THE TIED CARD OF 'apographlaw33.NameFinds'. -/
def nameFindsCard : Claim7 := { stood := { row := nameFindsRow, standIns := [], harness := (true, "416b10941c445cac8044ab6fbad72b869c27493449b861d0e80a1379b1bf89b9"), looks := true }, kinds := [], alts := [], laidByText := true, laidKinds := [.data, .data, .data, .sentinel, .sentinel], laidTests := true, laidLooks := .later }
def NameFindsCardSaid : Prop := Claim7.holds Tryd.pinned (.plain (OpenSpec.ofChange nameFindsSpec)) nameFindsCard

/-- THE TIED CARD OF 'apographlaw33.NameSteps'. -/
def nameStepsCard : Claim7 := { stood := { row := nameStepsRow, standIns := [], harness := (true, "416b10941c445cac8044ab6fbad72b869c27493449b861d0e80a1379b1bf89b9"), looks := true }, kinds := [], alts := [], laidByText := true, laidKinds := [.data, .data, .data, .sentinel, .sentinel], laidTests := true, laidLooks := .later }
def NameStepsCardSaid : Prop := Claim7.holds Tryd.pinned (.plain (OpenSpec.ofChange nameStepsSpec)) nameStepsCard

/-- THE SECOND FORM's CARD OF 'apographlaw19.CommandRefs'. -/
def commandRefsUptoCard : Claim7 := { stood := { row := commandRefsUptoRow, standIns := [], harness := (true, "416b10941c445cac8044ab6fbad72b869c27493449b861d0e80a1379b1bf89b9"), looks := true }, kinds := [], alts := [], laidByText := true, laidKinds := [.data, .data, .data, .sentinel, .sentinel], laidTests := true, laidLooks := .later }
def CommandRefsUptoCardSaid : Prop := Claim7.holds Tryd.pinned (.plain (OpenSpec.upto commandRefsSpec)) commandRefsUptoCard

/-- THE SECOND FORM's CARD OF 'apographlaw19.CommandWords'. -/
def commandWordsUptoCard : Claim7 := { stood := { row := commandWordsUptoRow, standIns := [], harness := (true, "416b10941c445cac8044ab6fbad72b869c27493449b861d0e80a1379b1bf89b9"), looks := true }, kinds := [], alts := [], laidByText := true, laidKinds := [.data, .data, .data, .sentinel, .sentinel], laidTests := true, laidLooks := .later }
def CommandWordsUptoCardSaid : Prop := Claim7.holds Tryd.pinned (.plain (OpenSpec.upto commandWordsSpec)) commandWordsUptoCard

/-- THE SECOND FORM's CARD OF 'apographlaw19.CommandChecks'. -/
def commandChecksUptoCard : Claim7 := { stood := { row := commandChecksUptoRow, standIns := [], harness := (true, "416b10941c445cac8044ab6fbad72b869c27493449b861d0e80a1379b1bf89b9"), looks := true }, kinds := [], alts := [], laidByText := true, laidKinds := [.data, .data, .data, .sentinel, .sentinel], laidTests := true, laidLooks := .later }
def CommandChecksUptoCardSaid : Prop := Claim7.holds Tryd.pinned (.plain (OpenSpec.upto commandChecksSpec)) commandChecksUptoCard

/-- THE SECOND FORM's CARD OF 'apographlaw19.CommandPuts'. -/
def commandPutsUptoCard : Claim7 := { stood := { row := commandPutsUptoRow, standIns := [], harness := (true, "416b10941c445cac8044ab6fbad72b869c27493449b861d0e80a1379b1bf89b9"), looks := true }, kinds := [], alts := [], laidByText := true, laidKinds := [.data, .data, .data, .sentinel, .sentinel], laidTests := true, laidLooks := .later }
def CommandPutsUptoCardSaid : Prop := Claim7.holds Tryd.pinned (.plain (OpenSpec.upto commandPutsSpec)) commandPutsUptoCard

/-- THE SECOND FORM's CARD OF 'apographlaw19.CommandBack'. -/
def commandBackUptoCard : Claim7 := { stood := { row := commandBackUptoRow, standIns := [], harness := (true, "416b10941c445cac8044ab6fbad72b869c27493449b861d0e80a1379b1bf89b9"), looks := true }, kinds := [], alts := [], laidByText := true, laidKinds := [.data, .data, .data, .sentinel, .sentinel], laidTests := true, laidLooks := .later }
def CommandBackUptoCardSaid : Prop := Claim7.holds Tryd.pinned (.plain (OpenSpec.upto commandBackSpec)) commandBackUptoCard

/-- THE SECOND FORM's CARD OF 'apographlaw19.CommandOnce'. -/
def commandOnceUptoCard : Claim7 := { stood := { row := commandOnceUptoRow, standIns := [], harness := (true, "416b10941c445cac8044ab6fbad72b869c27493449b861d0e80a1379b1bf89b9"), looks := true }, kinds := [], alts := [], laidByText := true, laidKinds := [.data, .data, .data, .sentinel, .sentinel], laidTests := true, laidLooks := .later }
def CommandOnceUptoCardSaid : Prop := Claim7.holds Tryd.pinned (.plain (OpenSpec.upto commandOnceSpec)) commandOnceUptoCard

/-- THE SECOND FORM's CARD OF 'apographlaw33.NameSplits'. -/
def nameSplitsUptoCard : Claim7 := { stood := { row := nameSplitsUptoRow, standIns := [], harness := (true, "416b10941c445cac8044ab6fbad72b869c27493449b861d0e80a1379b1bf89b9"), looks := true }, kinds := [], alts := [], laidByText := true, laidKinds := [.data, .data, .data, .sentinel, .sentinel], laidTests := true, laidLooks := .later }
def NameSplitsUptoCardSaid : Prop := Claim7.holds Tryd.pinned (.plain (OpenSpec.upto nameSplitsSpec)) nameSplitsUptoCard

/-- THE SECOND FORM's CARD OF 'apographlaw33.NameFinds'. -/
def nameFindsUptoCard : Claim7 := { stood := { row := nameFindsUptoRow, standIns := [], harness := (true, "416b10941c445cac8044ab6fbad72b869c27493449b861d0e80a1379b1bf89b9"), looks := true }, kinds := [], alts := [], laidByText := true, laidKinds := [.data, .data, .data, .sentinel, .sentinel], laidTests := true, laidLooks := .later }
def NameFindsUptoCardSaid : Prop := Claim7.holds Tryd.pinned (.plain (OpenSpec.upto nameFindsSpec)) nameFindsUptoCard

/-- THE SECOND FORM's CARD OF 'apographlaw33.NameSteps'. -/
def nameStepsUptoCard : Claim7 := { stood := { row := nameStepsUptoRow, standIns := [], harness := (true, "416b10941c445cac8044ab6fbad72b869c27493449b861d0e80a1379b1bf89b9"), looks := true }, kinds := [], alts := [], laidByText := true, laidKinds := [.data, .data, .data, .sentinel, .sentinel], laidTests := true, laidLooks := .later }
def NameStepsUptoCardSaid : Prop := Claim7.holds Tryd.pinned (.plain (OpenSpec.upto nameStepsSpec)) nameStepsUptoCard
end Rows
end Go.Proofs.YtehneliphhgegaaDoor
