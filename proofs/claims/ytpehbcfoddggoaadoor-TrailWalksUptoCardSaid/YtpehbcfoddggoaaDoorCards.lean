/-
  DERIVED. GIVEN WITH THE SEED: THE CARDS: each row of YtpehbcfoddggoaaDoorRows.lean that lists a variable, with what it lists TIED to the program's text (the seventh form; the later family's looks); each row that meets fmt, with fmt's text TOLD by the authors' own Lean function (tested against real Go, not proved from fmt's source: count such statements apart). THE CARD IS WHAT COUNTS. Prove the row's statement (the work); the ties are given (YtpehbcfoddggoaaDoorTie.lean); close each card by the builder's one call (the guide's Derived/Test/ToyasCard.lean, 'card_holds'). Laid BY PROGRAM, IN A SANDBOX (cutbox-door.mjs). By AI agents, Wed Nov 11 2026. No macro, syntax, notation, axiom, sorry.
-/
import Derived.Test.YtpehbcfoddggoaaDoorRows
import GoSem.ClaimSeven
namespace Go.Proofs.YtpehbcfoddggoaaDoor
namespace Rows

/-- THE TIED CARD OF 'veneerlaw05.TrailOrders'. -/
def trailOrdersCard : Claim7 := { stood := { row := trailOrdersRow, standIns := [], harness := (true, "a3a0cb8cd51547b3616c05c1722e45197228ff97b7df8c5f7891afb3b1ec463c"), looks := false }, kinds := [], alts := [], laidByText := true, laidKinds := [.data, .pinned], laidTests := true, laidLooks := .later }
def TrailOrdersCardSaid : Prop := Claim7.holds Tryd.pinned (.plain (OpenSpec.ofChange trailOrdersSpec)) trailOrdersCard

/-- THE TIED CARD OF 'veneerlaw05.TrailOne'. -/
def trailOneCard : Claim7 := { stood := { row := trailOneRow, standIns := [], harness := (true, "a3a0cb8cd51547b3616c05c1722e45197228ff97b7df8c5f7891afb3b1ec463c"), looks := false }, kinds := [], alts := [], laidByText := true, laidKinds := [.data, .pinned], laidTests := true, laidLooks := .later }
def TrailOneCardSaid : Prop := Claim7.holds Tryd.pinned (.plain (OpenSpec.ofChange trailOneSpec)) trailOneCard

/-- THE TIED CARD OF 'veneerlaw05.TrailNear'. -/
def trailNearCard : Claim7 := { stood := { row := trailNearRow, standIns := [], harness := (true, "a3a0cb8cd51547b3616c05c1722e45197228ff97b7df8c5f7891afb3b1ec463c"), looks := false }, kinds := [], alts := [], laidByText := true, laidKinds := [.data, .pinned], laidTests := true, laidLooks := .later }
def TrailNearCardSaid : Prop := Claim7.holds Tryd.pinned (.plain (OpenSpec.ofChange trailNearSpec)) trailNearCard

/-- THE TIED CARD OF 'veneerlaw05.TrailCleans'. -/
def trailCleansCard : Claim7 := { stood := { row := trailCleansRow, standIns := [], harness := (true, "a3a0cb8cd51547b3616c05c1722e45197228ff97b7df8c5f7891afb3b1ec463c"), looks := false }, kinds := [], alts := [], laidByText := true, laidKinds := [.data, .pinned], laidTests := true, laidLooks := .later }
def TrailCleansCardSaid : Prop := Claim7.holds Tryd.pinned (.plain (OpenSpec.ofChange trailCleansSpec)) trailCleansCard

/-- THE TIED CARD OF 'veneerlaw05.TrailOnce'. -/
def trailOnceCard : Claim7 := { stood := { row := trailOnceRow, standIns := [], harness := (true, "a3a0cb8cd51547b3616c05c1722e45197228ff97b7df8c5f7891afb3b1ec463c"), looks := false }, kinds := [], alts := [], laidByText := true, laidKinds := [.data, .pinned], laidTests := true, laidLooks := .later }
def TrailOnceCardSaid : Prop := Claim7.holds Tryd.pinned (.plain (OpenSpec.ofChange trailOnceSpec)) trailOnceCard

/-- THE TIED CARD OF 'veneerlaw05.TrailWalks'. -/
def trailWalksCard : Claim7 := { stood := { row := trailWalksRow, standIns := [], harness := (true, "a3a0cb8cd51547b3616c05c1722e45197228ff97b7df8c5f7891afb3b1ec463c"), looks := false }, kinds := [], alts := [], laidByText := true, laidKinds := [.data, .pinned], laidTests := true, laidLooks := .later }
def TrailWalksCardSaid : Prop := Claim7.holds Tryd.pinned (.plain (OpenSpec.ofChange trailWalksSpec)) trailWalksCard

/-- THE TIED CARD OF 'veneerlaw05.TrailTells'. -/
def trailTellsCard : Claim7 := { stood := { row := trailTellsRow, standIns := [], harness := (true, "a3a0cb8cd51547b3616c05c1722e45197228ff97b7df8c5f7891afb3b1ec463c"), looks := false }, kinds := [], alts := [], laidByText := true, laidKinds := [.data, .pinned], laidTests := true, laidLooks := .later }
def TrailTellsCardSaid : Prop := Claim7.holds Tryd.pinned (.plain (OpenSpec.ofChange trailTellsSpec)) trailTellsCard

/-- THE TIED CARD OF 'veneerlaw05.TrailUps'. -/
def trailUpsCard : Claim7 := { stood := { row := trailUpsRow, standIns := [], harness := (true, "a3a0cb8cd51547b3616c05c1722e45197228ff97b7df8c5f7891afb3b1ec463c"), looks := false }, kinds := [], alts := [], laidByText := true, laidKinds := [.data, .pinned], laidTests := true, laidLooks := .later }
def TrailUpsCardSaid : Prop := Claim7.holds Tryd.pinned (.plain (OpenSpec.ofChange trailUpsSpec)) trailUpsCard

/-- THE SECOND FORM's CARD OF 'veneerlaw05.TrailOrders'. -/
def trailOrdersUptoCard : Claim7 := { stood := { row := trailOrdersUptoRow, standIns := [], harness := (true, "a3a0cb8cd51547b3616c05c1722e45197228ff97b7df8c5f7891afb3b1ec463c"), looks := false }, kinds := [], alts := [], laidByText := true, laidKinds := [.data, .pinned], laidTests := true, laidLooks := .later }
def TrailOrdersUptoCardSaid : Prop := Claim7.holds Tryd.pinned (.plain (OpenSpec.upto trailOrdersSpec)) trailOrdersUptoCard

/-- THE SECOND FORM's CARD OF 'veneerlaw05.TrailOne'. -/
def trailOneUptoCard : Claim7 := { stood := { row := trailOneUptoRow, standIns := [], harness := (true, "a3a0cb8cd51547b3616c05c1722e45197228ff97b7df8c5f7891afb3b1ec463c"), looks := false }, kinds := [], alts := [], laidByText := true, laidKinds := [.data, .pinned], laidTests := true, laidLooks := .later }
def TrailOneUptoCardSaid : Prop := Claim7.holds Tryd.pinned (.plain (OpenSpec.upto trailOneSpec)) trailOneUptoCard

/-- THE SECOND FORM's CARD OF 'veneerlaw05.TrailNear'. -/
def trailNearUptoCard : Claim7 := { stood := { row := trailNearUptoRow, standIns := [], harness := (true, "a3a0cb8cd51547b3616c05c1722e45197228ff97b7df8c5f7891afb3b1ec463c"), looks := false }, kinds := [], alts := [], laidByText := true, laidKinds := [.data, .pinned], laidTests := true, laidLooks := .later }
def TrailNearUptoCardSaid : Prop := Claim7.holds Tryd.pinned (.plain (OpenSpec.upto trailNearSpec)) trailNearUptoCard

/-- THE SECOND FORM's CARD OF 'veneerlaw05.TrailCleans'. -/
def trailCleansUptoCard : Claim7 := { stood := { row := trailCleansUptoRow, standIns := [], harness := (true, "a3a0cb8cd51547b3616c05c1722e45197228ff97b7df8c5f7891afb3b1ec463c"), looks := false }, kinds := [], alts := [], laidByText := true, laidKinds := [.data, .pinned], laidTests := true, laidLooks := .later }
def TrailCleansUptoCardSaid : Prop := Claim7.holds Tryd.pinned (.plain (OpenSpec.upto trailCleansSpec)) trailCleansUptoCard

/-- THE SECOND FORM's CARD OF 'veneerlaw05.TrailOnce'. -/
def trailOnceUptoCard : Claim7 := { stood := { row := trailOnceUptoRow, standIns := [], harness := (true, "a3a0cb8cd51547b3616c05c1722e45197228ff97b7df8c5f7891afb3b1ec463c"), looks := false }, kinds := [], alts := [], laidByText := true, laidKinds := [.data, .pinned], laidTests := true, laidLooks := .later }
def TrailOnceUptoCardSaid : Prop := Claim7.holds Tryd.pinned (.plain (OpenSpec.upto trailOnceSpec)) trailOnceUptoCard

/-- THE SECOND FORM's CARD OF 'veneerlaw05.TrailWalks'. -/
def trailWalksUptoCard : Claim7 := { stood := { row := trailWalksUptoRow, standIns := [], harness := (true, "a3a0cb8cd51547b3616c05c1722e45197228ff97b7df8c5f7891afb3b1ec463c"), looks := false }, kinds := [], alts := [], laidByText := true, laidKinds := [.data, .pinned], laidTests := true, laidLooks := .later }
def TrailWalksUptoCardSaid : Prop := Claim7.holds Tryd.pinned (.plain (OpenSpec.upto trailWalksSpec)) trailWalksUptoCard

/-- THE SECOND FORM's CARD OF 'veneerlaw05.TrailTells'. -/
def trailTellsUptoCard : Claim7 := { stood := { row := trailTellsUptoRow, standIns := [], harness := (true, "a3a0cb8cd51547b3616c05c1722e45197228ff97b7df8c5f7891afb3b1ec463c"), looks := false }, kinds := [], alts := [], laidByText := true, laidKinds := [.data, .pinned], laidTests := true, laidLooks := .later }
def TrailTellsUptoCardSaid : Prop := Claim7.holds Tryd.pinned (.plain (OpenSpec.upto trailTellsSpec)) trailTellsUptoCard

/-- THE SECOND FORM's CARD OF 'veneerlaw05.TrailUps'. -/
def trailUpsUptoCard : Claim7 := { stood := { row := trailUpsUptoRow, standIns := [], harness := (true, "a3a0cb8cd51547b3616c05c1722e45197228ff97b7df8c5f7891afb3b1ec463c"), looks := false }, kinds := [], alts := [], laidByText := true, laidKinds := [.data, .pinned], laidTests := true, laidLooks := .later }
def TrailUpsUptoCardSaid : Prop := Claim7.holds Tryd.pinned (.plain (OpenSpec.upto trailUpsSpec)) trailUpsUptoCard
end Rows
end Go.Proofs.YtpehbcfoddggoaaDoor
