/-
  DERIVED. GIVEN WITH THE SEED: THE CARDS: each row of YtpnbbgcaaogpdaaDoorRows.lean that lists a variable, with what it lists TIED to the program's text (the seventh form; the later family's looks); each row that meets fmt, with fmt's text TOLD by the authors' own Lean function (tested against real Go, not proved from fmt's source: count such statements apart). THE CARD IS WHAT COUNTS. Prove the row's statement (the work); the ties are given (YtpnbbgcaaogpdaaDoorTie.lean); close each card by the builder's one call (the guide's Derived/Test/ToyasCard.lean, 'card_holds'). Laid BY PROGRAM, IN A SANDBOX (cutbox-door.mjs). By AI agents, Wed Nov 11 2026. No macro, syntax, notation, axiom, sorry.
-/
import Derived.Test.YtpnbbgcaaogpdaaDoorRows
import GoSem.ClaimSeven
namespace Go.Proofs.YtpnbbgcaaogpdaaDoor
namespace Rows

/-- THE TIED CARD OF 'veneerlaw07.ManifestChecks'. -/
def manifestChecksCard : Claim7 := { stood := { row := manifestChecksRow, standIns := [], harness := (true, "ef83c4c63adbd301550af2a5e397df76041d0845a7014991be1c8662217958a7"), looks := false }, kinds := [], alts := [], laidByText := true, laidKinds := [.data, .pinned], laidTests := true, laidLooks := .later }
def ManifestChecksCardSaid : Prop := Claim7.holds Tryd.pinned (.plain (OpenSpec.ofChange manifestChecksSpec)) manifestChecksCard

/-- THE TIED CARD OF 'veneerlaw07.ManifestOrders'. -/
def manifestOrdersCard : Claim7 := { stood := { row := manifestOrdersRow, standIns := [], harness := (true, "ef83c4c63adbd301550af2a5e397df76041d0845a7014991be1c8662217958a7"), looks := false }, kinds := [], alts := [], laidByText := true, laidKinds := [.data, .pinned], laidTests := true, laidLooks := .later }
def ManifestOrdersCardSaid : Prop := Claim7.holds Tryd.pinned (.plain (OpenSpec.ofChange manifestOrdersSpec)) manifestOrdersCard

/-- THE TIED CARD OF 'veneerlaw07.ManifestOne'. -/
def manifestOneCard : Claim7 := { stood := { row := manifestOneRow, standIns := [], harness := (true, "ef83c4c63adbd301550af2a5e397df76041d0845a7014991be1c8662217958a7"), looks := false }, kinds := [], alts := [], laidByText := true, laidKinds := [.data, .pinned], laidTests := true, laidLooks := .later }
def ManifestOneCardSaid : Prop := Claim7.holds Tryd.pinned (.plain (OpenSpec.ofChange manifestOneSpec)) manifestOneCard

/-- THE TIED CARD OF 'veneerlaw07.ManifestGrows'. -/
def manifestGrowsCard : Claim7 := { stood := { row := manifestGrowsRow, standIns := [], harness := (true, "ef83c4c63adbd301550af2a5e397df76041d0845a7014991be1c8662217958a7"), looks := false }, kinds := [], alts := [], laidByText := true, laidKinds := [.data, .pinned], laidTests := true, laidLooks := .later }
def ManifestGrowsCardSaid : Prop := Claim7.holds Tryd.pinned (.plain (OpenSpec.ofChange manifestGrowsSpec)) manifestGrowsCard

/-- THE TIED CARD OF 'veneerlaw07.ManifestOnly'. -/
def manifestOnlyCard : Claim7 := { stood := { row := manifestOnlyRow, standIns := [], harness := (true, "ef83c4c63adbd301550af2a5e397df76041d0845a7014991be1c8662217958a7"), looks := false }, kinds := [], alts := [], laidByText := true, laidKinds := [.data, .pinned], laidTests := true, laidLooks := .later }
def ManifestOnlyCardSaid : Prop := Claim7.holds Tryd.pinned (.plain (OpenSpec.ofChange manifestOnlySpec)) manifestOnlyCard

/-- THE TIED CARD OF 'veneerlaw07.ManifestCodes'. -/
def manifestCodesCard : Claim7 := { stood := { row := manifestCodesRow, standIns := [], harness := (true, "ef83c4c63adbd301550af2a5e397df76041d0845a7014991be1c8662217958a7"), looks := false }, kinds := [], alts := [], laidByText := true, laidKinds := [.data, .data, .pinned], laidTests := true, laidLooks := .later }
def ManifestCodesCardSaid : Prop := Claim7.holds Tryd.pinned (.plain (OpenSpec.ofChange manifestCodesSpec)) manifestCodesCard

/-- THE TIED CARD OF 'veneerlaw07.ManifestBack'. -/
def manifestBackCard : Claim7 := { stood := { row := manifestBackRow, standIns := [], harness := (true, "ef83c4c63adbd301550af2a5e397df76041d0845a7014991be1c8662217958a7"), looks := false }, kinds := [], alts := [], laidByText := true, laidKinds := [.data, .data, .pinned], laidTests := true, laidLooks := .later }
def ManifestBackCardSaid : Prop := Claim7.holds Tryd.pinned (.plain (OpenSpec.ofChange manifestBackSpec)) manifestBackCard

/-- THE SECOND FORM's CARD OF 'veneerlaw07.ManifestChecks'. -/
def manifestChecksUptoCard : Claim7 := { stood := { row := manifestChecksUptoRow, standIns := [], harness := (true, "ef83c4c63adbd301550af2a5e397df76041d0845a7014991be1c8662217958a7"), looks := false }, kinds := [], alts := [], laidByText := true, laidKinds := [.data, .pinned], laidTests := true, laidLooks := .later }
def ManifestChecksUptoCardSaid : Prop := Claim7.holds Tryd.pinned (.plain (OpenSpec.upto manifestChecksSpec)) manifestChecksUptoCard

/-- THE SECOND FORM's CARD OF 'veneerlaw07.ManifestOrders'. -/
def manifestOrdersUptoCard : Claim7 := { stood := { row := manifestOrdersUptoRow, standIns := [], harness := (true, "ef83c4c63adbd301550af2a5e397df76041d0845a7014991be1c8662217958a7"), looks := false }, kinds := [], alts := [], laidByText := true, laidKinds := [.data, .pinned], laidTests := true, laidLooks := .later }
def ManifestOrdersUptoCardSaid : Prop := Claim7.holds Tryd.pinned (.plain (OpenSpec.upto manifestOrdersSpec)) manifestOrdersUptoCard

/-- THE SECOND FORM's CARD OF 'veneerlaw07.ManifestOne'. -/
def manifestOneUptoCard : Claim7 := { stood := { row := manifestOneUptoRow, standIns := [], harness := (true, "ef83c4c63adbd301550af2a5e397df76041d0845a7014991be1c8662217958a7"), looks := false }, kinds := [], alts := [], laidByText := true, laidKinds := [.data, .pinned], laidTests := true, laidLooks := .later }
def ManifestOneUptoCardSaid : Prop := Claim7.holds Tryd.pinned (.plain (OpenSpec.upto manifestOneSpec)) manifestOneUptoCard

/-- THE SECOND FORM's CARD OF 'veneerlaw07.ManifestGrows'. -/
def manifestGrowsUptoCard : Claim7 := { stood := { row := manifestGrowsUptoRow, standIns := [], harness := (true, "ef83c4c63adbd301550af2a5e397df76041d0845a7014991be1c8662217958a7"), looks := false }, kinds := [], alts := [], laidByText := true, laidKinds := [.data, .pinned], laidTests := true, laidLooks := .later }
def ManifestGrowsUptoCardSaid : Prop := Claim7.holds Tryd.pinned (.plain (OpenSpec.upto manifestGrowsSpec)) manifestGrowsUptoCard

/-- THE SECOND FORM's CARD OF 'veneerlaw07.ManifestOnly'. -/
def manifestOnlyUptoCard : Claim7 := { stood := { row := manifestOnlyUptoRow, standIns := [], harness := (true, "ef83c4c63adbd301550af2a5e397df76041d0845a7014991be1c8662217958a7"), looks := false }, kinds := [], alts := [], laidByText := true, laidKinds := [.data, .pinned], laidTests := true, laidLooks := .later }
def ManifestOnlyUptoCardSaid : Prop := Claim7.holds Tryd.pinned (.plain (OpenSpec.upto manifestOnlySpec)) manifestOnlyUptoCard

/-- THE SECOND FORM's CARD OF 'veneerlaw07.ManifestCodes'. -/
def manifestCodesUptoCard : Claim7 := { stood := { row := manifestCodesUptoRow, standIns := [], harness := (true, "ef83c4c63adbd301550af2a5e397df76041d0845a7014991be1c8662217958a7"), looks := false }, kinds := [], alts := [], laidByText := true, laidKinds := [.data, .data, .pinned], laidTests := true, laidLooks := .later }
def ManifestCodesUptoCardSaid : Prop := Claim7.holds Tryd.pinned (.plain (OpenSpec.upto manifestCodesSpec)) manifestCodesUptoCard

/-- THE SECOND FORM's CARD OF 'veneerlaw07.ManifestBack'. -/
def manifestBackUptoCard : Claim7 := { stood := { row := manifestBackUptoRow, standIns := [], harness := (true, "ef83c4c63adbd301550af2a5e397df76041d0845a7014991be1c8662217958a7"), looks := false }, kinds := [], alts := [], laidByText := true, laidKinds := [.data, .data, .pinned], laidTests := true, laidLooks := .later }
def ManifestBackUptoCardSaid : Prop := Claim7.holds Tryd.pinned (.plain (OpenSpec.upto manifestBackSpec)) manifestBackUptoCard
end Rows
end Go.Proofs.YtpnbbgcaaogpdaaDoor
