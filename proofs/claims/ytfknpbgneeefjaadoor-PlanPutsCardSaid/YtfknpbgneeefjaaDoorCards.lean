/-
  DERIVED. GIVEN WITH THE SEED: THE CARDS: each row of YtfknpbgneeefjaaDoorRows.lean that lists a variable, with what it lists TIED to the program's text (the seventh form; the later family's looks); each row that meets fmt, with fmt's text TOLD by the authors' own Lean function (tested against real Go, not proved from fmt's source: count such statements apart). THE CARD IS WHAT COUNTS. Prove the row's statement (the work); the ties are given (YtfknpbgneeefjaaDoorTie.lean); close each card by the builder's one call (the guide's Derived/Test/ToyasCard.lean, 'card_holds'). Laid BY PROGRAM, IN A SANDBOX (cutbox-door.mjs). By AI agents, Wed Nov 11 2026. No macro, syntax, notation, axiom, sorry.
-/
import Derived.Test.YtfknpbgneeefjaaDoorRows
import GoSem.ClaimSeven
namespace Go.Proofs.YtfknpbgneeefjaaDoor
namespace Rows

/-- THE TIED CARD OF 'veneerlaw18.PlanDoes'. -/
def planDoesCard : Claim7 := { stood := { row := planDoesRow, standIns := [], harness := (true, "ec2fef78c6ba8e17df84c3a196ce1f1a5ad02573788cd0d7a40b93d15cdebcc0"), looks := false }, kinds := [], alts := [], laidByText := true, laidKinds := [.data, .pinned], laidTests := true, laidLooks := .later }
def PlanDoesCardSaid : Prop := Claim7.holds Tryd.pinned (.plain (OpenSpec.ofChange planDoesSpec)) planDoesCard

/-- THE TIED CARD OF 'veneerlaw18.PlanAlls'. -/
def planAllsCard : Claim7 := { stood := { row := planAllsRow, standIns := [], harness := (true, "ec2fef78c6ba8e17df84c3a196ce1f1a5ad02573788cd0d7a40b93d15cdebcc0"), looks := false }, kinds := [], alts := [], laidByText := true, laidKinds := [.data, .pinned], laidTests := true, laidLooks := .later }
def PlanAllsCardSaid : Prop := Claim7.holds Tryd.pinned (.plain (OpenSpec.ofChange planAllsSpec)) planAllsCard

/-- THE TIED CARD OF 'veneerlaw18.PlanBack'. -/
def planBackCard : Claim7 := { stood := { row := planBackRow, standIns := [], harness := (true, "ec2fef78c6ba8e17df84c3a196ce1f1a5ad02573788cd0d7a40b93d15cdebcc0"), looks := false }, kinds := [], alts := [], laidByText := true, laidKinds := [.data, .pinned], laidTests := true, laidLooks := .later }
def PlanBackCardSaid : Prop := Claim7.holds Tryd.pinned (.plain (OpenSpec.ofChange planBackSpec)) planBackCard

/-- THE TIED CARD OF 'veneerlaw18.PlanOrder'. -/
def planOrderCard : Claim7 := { stood := { row := planOrderRow, standIns := [], harness := (true, "ec2fef78c6ba8e17df84c3a196ce1f1a5ad02573788cd0d7a40b93d15cdebcc0"), looks := false }, kinds := [], alts := [], laidByText := true, laidKinds := [.data, .pinned], laidTests := true, laidLooks := .later }
def PlanOrderCardSaid : Prop := Claim7.holds Tryd.pinned (.plain (OpenSpec.ofChange planOrderSpec)) planOrderCard

/-- THE TIED CARD OF 'veneerlaw18.PlanSteps'. -/
def planStepsCard : Claim7 := { stood := { row := planStepsRow, standIns := [], harness := (true, "ec2fef78c6ba8e17df84c3a196ce1f1a5ad02573788cd0d7a40b93d15cdebcc0"), looks := false }, kinds := [], alts := [], laidByText := true, laidKinds := [.data, .pinned], laidTests := true, laidLooks := .later }
def PlanStepsCardSaid : Prop := Claim7.holds Tryd.pinned (.plain (OpenSpec.ofChange planStepsSpec)) planStepsCard

/-- THE TIED CARD OF 'veneerlaw18.PlanPuts'. -/
def planPutsCard : Claim7 := { stood := { row := planPutsRow, standIns := [], harness := (true, "ec2fef78c6ba8e17df84c3a196ce1f1a5ad02573788cd0d7a40b93d15cdebcc0"), looks := false }, kinds := [], alts := [], laidByText := true, laidKinds := [.data, .pinned], laidTests := true, laidLooks := .later }
def PlanPutsCardSaid : Prop := Claim7.holds Tryd.pinned (.plain (OpenSpec.ofChange planPutsSpec)) planPutsCard

/-- THE SECOND FORM's CARD OF 'veneerlaw18.PlanDoes'. -/
def planDoesUptoCard : Claim7 := { stood := { row := planDoesUptoRow, standIns := [], harness := (true, "ec2fef78c6ba8e17df84c3a196ce1f1a5ad02573788cd0d7a40b93d15cdebcc0"), looks := false }, kinds := [], alts := [], laidByText := true, laidKinds := [.data, .pinned], laidTests := true, laidLooks := .later }
def PlanDoesUptoCardSaid : Prop := Claim7.holds Tryd.pinned (.plain (OpenSpec.upto planDoesSpec)) planDoesUptoCard

/-- THE SECOND FORM's CARD OF 'veneerlaw18.PlanAlls'. -/
def planAllsUptoCard : Claim7 := { stood := { row := planAllsUptoRow, standIns := [], harness := (true, "ec2fef78c6ba8e17df84c3a196ce1f1a5ad02573788cd0d7a40b93d15cdebcc0"), looks := false }, kinds := [], alts := [], laidByText := true, laidKinds := [.data, .pinned], laidTests := true, laidLooks := .later }
def PlanAllsUptoCardSaid : Prop := Claim7.holds Tryd.pinned (.plain (OpenSpec.upto planAllsSpec)) planAllsUptoCard

/-- THE SECOND FORM's CARD OF 'veneerlaw18.PlanBack'. -/
def planBackUptoCard : Claim7 := { stood := { row := planBackUptoRow, standIns := [], harness := (true, "ec2fef78c6ba8e17df84c3a196ce1f1a5ad02573788cd0d7a40b93d15cdebcc0"), looks := false }, kinds := [], alts := [], laidByText := true, laidKinds := [.data, .pinned], laidTests := true, laidLooks := .later }
def PlanBackUptoCardSaid : Prop := Claim7.holds Tryd.pinned (.plain (OpenSpec.upto planBackSpec)) planBackUptoCard

/-- THE SECOND FORM's CARD OF 'veneerlaw18.PlanOrder'. -/
def planOrderUptoCard : Claim7 := { stood := { row := planOrderUptoRow, standIns := [], harness := (true, "ec2fef78c6ba8e17df84c3a196ce1f1a5ad02573788cd0d7a40b93d15cdebcc0"), looks := false }, kinds := [], alts := [], laidByText := true, laidKinds := [.data, .pinned], laidTests := true, laidLooks := .later }
def PlanOrderUptoCardSaid : Prop := Claim7.holds Tryd.pinned (.plain (OpenSpec.upto planOrderSpec)) planOrderUptoCard

/-- THE SECOND FORM's CARD OF 'veneerlaw18.PlanSteps'. -/
def planStepsUptoCard : Claim7 := { stood := { row := planStepsUptoRow, standIns := [], harness := (true, "ec2fef78c6ba8e17df84c3a196ce1f1a5ad02573788cd0d7a40b93d15cdebcc0"), looks := false }, kinds := [], alts := [], laidByText := true, laidKinds := [.data, .pinned], laidTests := true, laidLooks := .later }
def PlanStepsUptoCardSaid : Prop := Claim7.holds Tryd.pinned (.plain (OpenSpec.upto planStepsSpec)) planStepsUptoCard

/-- THE SECOND FORM's CARD OF 'veneerlaw18.PlanPuts'. -/
def planPutsUptoCard : Claim7 := { stood := { row := planPutsUptoRow, standIns := [], harness := (true, "ec2fef78c6ba8e17df84c3a196ce1f1a5ad02573788cd0d7a40b93d15cdebcc0"), looks := false }, kinds := [], alts := [], laidByText := true, laidKinds := [.data, .pinned], laidTests := true, laidLooks := .later }
def PlanPutsUptoCardSaid : Prop := Claim7.holds Tryd.pinned (.plain (OpenSpec.upto planPutsSpec)) planPutsUptoCard
end Rows
end Go.Proofs.YtfknpbgneeefjaaDoor
