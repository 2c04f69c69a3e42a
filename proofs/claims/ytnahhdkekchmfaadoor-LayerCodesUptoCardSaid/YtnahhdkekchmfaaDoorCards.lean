/-
  DERIVED. GIVEN WITH THE SEED: THE CARDS: each row of YtnahhdkekchmfaaDoorRows.lean that lists a variable, with what it lists TIED to the program's text (the seventh form; the later family's looks); each row that meets fmt, with fmt's text TOLD by the authors' own Lean function (tested against real Go, not proved from fmt's source: count such statements apart). THE CARD IS WHAT COUNTS. Prove the row's statement (the work); the ties are given (YtnahhdkekchmfaaDoorTie.lean); close each card by the builder's one call (the guide's Derived/Test/ToyasCard.lean, 'card_holds'). Laid BY PROGRAM, IN A SANDBOX (cutbox-door.mjs). By AI agents, Wed Nov 11 2026. No macro, syntax, notation, axiom, sorry.
-/
import Derived.Test.YtnahhdkekchmfaaDoorRows
import GoSem.ClaimSeven
namespace Go.Proofs.YtnahhdkekchmfaaDoor
namespace Rows

/-- THE TIED CARD OF 'veneerlaw06.LayerSorted'. -/
def layerSortedCard : Claim7 := { stood := { row := layerSortedRow, standIns := [], harness := (true, "e0bfedd6d7b668f2b546bea92a69c045c5444b53abf719a3c2215a3e09097c86"), looks := false }, kinds := [], alts := [], laidByText := true, laidKinds := [.data, .pinned], laidTests := true, laidLooks := .later }
def LayerSortedCardSaid : Prop := Claim7.holds Tryd.pinned (.plain (OpenSpec.ofChange layerSortedSpec)) layerSortedCard

/-- THE TIED CARD OF 'veneerlaw06.LayerChecks'. -/
def layerChecksCard : Claim7 := { stood := { row := layerChecksRow, standIns := [], harness := (true, "e0bfedd6d7b668f2b546bea92a69c045c5444b53abf719a3c2215a3e09097c86"), looks := false }, kinds := [], alts := [], laidByText := true, laidKinds := [.data, .pinned], laidTests := true, laidLooks := .later }
def LayerChecksCardSaid : Prop := Claim7.holds Tryd.pinned (.plain (OpenSpec.ofChange layerChecksSpec)) layerChecksCard

/-- THE TIED CARD OF 'veneerlaw06.LayerLess'. -/
def layerLessCard : Claim7 := { stood := { row := layerLessRow, standIns := [], harness := (true, "e0bfedd6d7b668f2b546bea92a69c045c5444b53abf719a3c2215a3e09097c86"), looks := false }, kinds := [], alts := [], laidByText := true, laidKinds := [.data, .pinned], laidTests := true, laidLooks := .later }
def LayerLessCardSaid : Prop := Claim7.holds Tryd.pinned (.plain (OpenSpec.ofChange layerLessSpec)) layerLessCard

/-- THE TIED CARD OF 'veneerlaw06.LayerOnly'. -/
def layerOnlyCard : Claim7 := { stood := { row := layerOnlyRow, standIns := [], harness := (true, "e0bfedd6d7b668f2b546bea92a69c045c5444b53abf719a3c2215a3e09097c86"), looks := false }, kinds := [], alts := [], laidByText := true, laidKinds := [.data, .pinned], laidTests := true, laidLooks := .later }
def LayerOnlyCardSaid : Prop := Claim7.holds Tryd.pinned (.plain (OpenSpec.ofChange layerOnlySpec)) layerOnlyCard

/-- THE TIED CARD OF 'veneerlaw06.LayerCuts'. -/
def layerCutsCard : Claim7 := { stood := { row := layerCutsRow, standIns := [], harness := (true, "e0bfedd6d7b668f2b546bea92a69c045c5444b53abf719a3c2215a3e09097c86"), looks := false }, kinds := [], alts := [], laidByText := true, laidKinds := [.data, .pinned], laidTests := true, laidLooks := .later }
def LayerCutsCardSaid : Prop := Claim7.holds Tryd.pinned (.plain (OpenSpec.ofChange layerCutsSpec)) layerCutsCard

/-- THE TIED CARD OF 'veneerlaw06.LayerCodes'. -/
def layerCodesCard : Claim7 := { stood := { row := layerCodesRow, standIns := [], harness := (true, "e0bfedd6d7b668f2b546bea92a69c045c5444b53abf719a3c2215a3e09097c86"), looks := false }, kinds := [], alts := [], laidByText := true, laidKinds := [.data, .data, .pinned], laidTests := true, laidLooks := .later }
def LayerCodesCardSaid : Prop := Claim7.holds Tryd.pinned (.plain (OpenSpec.ofChange layerCodesSpec)) layerCodesCard

/-- THE TIED CARD OF 'veneerlaw06.LayerBack'. -/
def layerBackCard : Claim7 := { stood := { row := layerBackRow, standIns := [], harness := (true, "e0bfedd6d7b668f2b546bea92a69c045c5444b53abf719a3c2215a3e09097c86"), looks := false }, kinds := [], alts := [], laidByText := true, laidKinds := [.data, .data, .pinned], laidTests := true, laidLooks := .later }
def LayerBackCardSaid : Prop := Claim7.holds Tryd.pinned (.plain (OpenSpec.ofChange layerBackSpec)) layerBackCard

/-- THE SECOND FORM's CARD OF 'veneerlaw06.LayerSorted'. -/
def layerSortedUptoCard : Claim7 := { stood := { row := layerSortedUptoRow, standIns := [], harness := (true, "e0bfedd6d7b668f2b546bea92a69c045c5444b53abf719a3c2215a3e09097c86"), looks := false }, kinds := [], alts := [], laidByText := true, laidKinds := [.data, .pinned], laidTests := true, laidLooks := .later }
def LayerSortedUptoCardSaid : Prop := Claim7.holds Tryd.pinned (.plain (OpenSpec.upto layerSortedSpec)) layerSortedUptoCard

/-- THE SECOND FORM's CARD OF 'veneerlaw06.LayerChecks'. -/
def layerChecksUptoCard : Claim7 := { stood := { row := layerChecksUptoRow, standIns := [], harness := (true, "e0bfedd6d7b668f2b546bea92a69c045c5444b53abf719a3c2215a3e09097c86"), looks := false }, kinds := [], alts := [], laidByText := true, laidKinds := [.data, .pinned], laidTests := true, laidLooks := .later }
def LayerChecksUptoCardSaid : Prop := Claim7.holds Tryd.pinned (.plain (OpenSpec.upto layerChecksSpec)) layerChecksUptoCard

/-- THE SECOND FORM's CARD OF 'veneerlaw06.LayerLess'. -/
def layerLessUptoCard : Claim7 := { stood := { row := layerLessUptoRow, standIns := [], harness := (true, "e0bfedd6d7b668f2b546bea92a69c045c5444b53abf719a3c2215a3e09097c86"), looks := false }, kinds := [], alts := [], laidByText := true, laidKinds := [.data, .pinned], laidTests := true, laidLooks := .later }
def LayerLessUptoCardSaid : Prop := Claim7.holds Tryd.pinned (.plain (OpenSpec.upto layerLessSpec)) layerLessUptoCard

/-- THE SECOND FORM's CARD OF 'veneerlaw06.LayerOnly'. -/
def layerOnlyUptoCard : Claim7 := { stood := { row := layerOnlyUptoRow, standIns := [], harness := (true, "e0bfedd6d7b668f2b546bea92a69c045c5444b53abf719a3c2215a3e09097c86"), looks := false }, kinds := [], alts := [], laidByText := true, laidKinds := [.data, .pinned], laidTests := true, laidLooks := .later }
def LayerOnlyUptoCardSaid : Prop := Claim7.holds Tryd.pinned (.plain (OpenSpec.upto layerOnlySpec)) layerOnlyUptoCard

/-- THE SECOND FORM's CARD OF 'veneerlaw06.LayerCuts'. -/
def layerCutsUptoCard : Claim7 := { stood := { row := layerCutsUptoRow, standIns := [], harness := (true, "e0bfedd6d7b668f2b546bea92a69c045c5444b53abf719a3c2215a3e09097c86"), looks := false }, kinds := [], alts := [], laidByText := true, laidKinds := [.data, .pinned], laidTests := true, laidLooks := .later }
def LayerCutsUptoCardSaid : Prop := Claim7.holds Tryd.pinned (.plain (OpenSpec.upto layerCutsSpec)) layerCutsUptoCard

/-- THE SECOND FORM's CARD OF 'veneerlaw06.LayerCodes'. -/
def layerCodesUptoCard : Claim7 := { stood := { row := layerCodesUptoRow, standIns := [], harness := (true, "e0bfedd6d7b668f2b546bea92a69c045c5444b53abf719a3c2215a3e09097c86"), looks := false }, kinds := [], alts := [], laidByText := true, laidKinds := [.data, .data, .pinned], laidTests := true, laidLooks := .later }
def LayerCodesUptoCardSaid : Prop := Claim7.holds Tryd.pinned (.plain (OpenSpec.upto layerCodesSpec)) layerCodesUptoCard

/-- THE SECOND FORM's CARD OF 'veneerlaw06.LayerBack'. -/
def layerBackUptoCard : Claim7 := { stood := { row := layerBackUptoRow, standIns := [], harness := (true, "e0bfedd6d7b668f2b546bea92a69c045c5444b53abf719a3c2215a3e09097c86"), looks := false }, kinds := [], alts := [], laidByText := true, laidKinds := [.data, .data, .pinned], laidTests := true, laidLooks := .later }
def LayerBackUptoCardSaid : Prop := Claim7.holds Tryd.pinned (.plain (OpenSpec.upto layerBackSpec)) layerBackUptoCard
end Rows
end Go.Proofs.YtnahhdkekchmfaaDoor
