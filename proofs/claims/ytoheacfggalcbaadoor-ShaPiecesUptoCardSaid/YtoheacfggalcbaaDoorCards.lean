/-
  DERIVED. GIVEN WITH THE SEED: THE CARDS: each row of YtoheacfggalcbaaDoorRows.lean that lists a variable, with what it lists TIED to the program's text (the seventh form; the later family's looks); each row that meets fmt, with fmt's text TOLD by the authors' own Lean function (tested against real Go, not proved from fmt's source: count such statements apart). THE CARD IS WHAT COUNTS. Prove the row's statement (the work); the ties are given (YtoheacfggalcbaaDoorTie.lean); close each card by the builder's one call (the guide's Derived/Test/ToyasCard.lean, 'card_holds'). Laid BY PROGRAM, IN A SANDBOX (cutbox-door.mjs). By AI agents, Wed Nov 11 2026. No macro, syntax, notation, axiom, sorry.
-/
import Derived.Test.YtoheacfggalcbaaDoorRows
import GoSem.ClaimSeven
namespace Go.Proofs.YtoheacfggalcbaaDoor
namespace Rows

/-- THE TIED CARD OF 'veneerlaw03.ShaSums'. -/
def shaSumsCard : Claim7 := { stood := { row := shaSumsRow, standIns := [], harness := (true, "b0ed6ff4c74902ed3703687e4fad615c91b400956498291e79302c83400c8862"), looks := false }, kinds := [], alts := [], laidByText := true, laidKinds := [.data], laidTests := true, laidLooks := .later }
def ShaSumsCardSaid : Prop := Claim7.holds Tryd.pinned (.plain (OpenSpec.ofChange shaSumsSpec)) shaSumsCard

/-- THE TIED CARD OF 'veneerlaw03.ShaLooks'. -/
def shaLooksCard : Claim7 := { stood := { row := shaLooksRow, standIns := [], harness := (true, "b0ed6ff4c74902ed3703687e4fad615c91b400956498291e79302c83400c8862"), looks := false }, kinds := [], alts := [], laidByText := true, laidKinds := [.data], laidTests := true, laidLooks := .later }
def ShaLooksCardSaid : Prop := Claim7.holds Tryd.pinned (.plain (OpenSpec.ofChange shaLooksSpec)) shaLooksCard

/-- THE TIED CARD OF 'veneerlaw03.ShaTops'. -/
def shaTopsCard : Claim7 := { stood := { row := shaTopsRow, standIns := [], harness := (true, "b0ed6ff4c74902ed3703687e4fad615c91b400956498291e79302c83400c8862"), looks := false }, kinds := [], alts := [], laidByText := true, laidKinds := [.data], laidTests := true, laidLooks := .later }
def ShaTopsCardSaid : Prop := Claim7.holds Tryd.pinned (.plain (OpenSpec.ofChange shaTopsSpec)) shaTopsCard

/-- THE TIED CARD OF 'veneerlaw03.ShaNested'. -/
def shaNestedCard : Claim7 := { stood := { row := shaNestedRow, standIns := [], harness := (true, "b0ed6ff4c74902ed3703687e4fad615c91b400956498291e79302c83400c8862"), looks := false }, kinds := [], alts := [], laidByText := true, laidKinds := [.data], laidTests := true, laidLooks := .later }
def ShaNestedCardSaid : Prop := Claim7.holds Tryd.pinned (.plain (OpenSpec.ofChange shaNestedSpec)) shaNestedCard

/-- THE TIED CARD OF 'veneerlaw03.ShaPieces'. -/
def shaPiecesCard : Claim7 := { stood := { row := shaPiecesRow, standIns := [], harness := (true, "b0ed6ff4c74902ed3703687e4fad615c91b400956498291e79302c83400c8862"), looks := false }, kinds := [], alts := [], laidByText := true, laidKinds := [.data], laidTests := true, laidLooks := .later }
def ShaPiecesCardSaid : Prop := Claim7.holds Tryd.pinned (.plain (OpenSpec.ofChange shaPiecesSpec)) shaPiecesCard

/-- THE TIED CARD OF 'veneerlaw03.ShaNobody'. -/
def shaNobodyCard : Claim7 := { stood := { row := shaNobodyRow, standIns := [], harness := (true, "b0ed6ff4c74902ed3703687e4fad615c91b400956498291e79302c83400c8862"), looks := false }, kinds := [], alts := [], laidByText := true, laidKinds := [.data], laidTests := true, laidLooks := .later }
def ShaNobodyCardSaid : Prop := Claim7.holds Tryd.pinned (.plain (OpenSpec.ofChange shaNobodySpec)) shaNobodyCard

/-- THE TIED CARD OF 'veneerlaw03.ShaHexes'. -/
def shaHexesCard : Claim7 := { stood := { row := shaHexesRow, standIns := [], harness := (true, "b0ed6ff4c74902ed3703687e4fad615c91b400956498291e79302c83400c8862"), looks := false }, kinds := [], alts := [], laidByText := true, laidKinds := [.data], laidTests := true, laidLooks := .later }
def ShaHexesCardSaid : Prop := Claim7.holds Tryd.pinned (.plain (OpenSpec.ofChange shaHexesSpec)) shaHexesCard

/-- THE TIED CARD OF 'veneerlaw03.ShaBack'. -/
def shaBackCard : Claim7 := { stood := { row := shaBackRow, standIns := [], harness := (true, "b0ed6ff4c74902ed3703687e4fad615c91b400956498291e79302c83400c8862"), looks := false }, kinds := [], alts := [], laidByText := true, laidKinds := [.data], laidTests := true, laidLooks := .later }
def ShaBackCardSaid : Prop := Claim7.holds Tryd.pinned (.plain (OpenSpec.ofChange shaBackSpec)) shaBackCard

/-- THE SECOND FORM's CARD OF 'veneerlaw03.ShaSums'. -/
def shaSumsUptoCard : Claim7 := { stood := { row := shaSumsUptoRow, standIns := [], harness := (true, "b0ed6ff4c74902ed3703687e4fad615c91b400956498291e79302c83400c8862"), looks := false }, kinds := [], alts := [], laidByText := true, laidKinds := [.data], laidTests := true, laidLooks := .later }
def ShaSumsUptoCardSaid : Prop := Claim7.holds Tryd.pinned (.plain (OpenSpec.upto shaSumsSpec)) shaSumsUptoCard

/-- THE SECOND FORM's CARD OF 'veneerlaw03.ShaLooks'. -/
def shaLooksUptoCard : Claim7 := { stood := { row := shaLooksUptoRow, standIns := [], harness := (true, "b0ed6ff4c74902ed3703687e4fad615c91b400956498291e79302c83400c8862"), looks := false }, kinds := [], alts := [], laidByText := true, laidKinds := [.data], laidTests := true, laidLooks := .later }
def ShaLooksUptoCardSaid : Prop := Claim7.holds Tryd.pinned (.plain (OpenSpec.upto shaLooksSpec)) shaLooksUptoCard

/-- THE SECOND FORM's CARD OF 'veneerlaw03.ShaTops'. -/
def shaTopsUptoCard : Claim7 := { stood := { row := shaTopsUptoRow, standIns := [], harness := (true, "b0ed6ff4c74902ed3703687e4fad615c91b400956498291e79302c83400c8862"), looks := false }, kinds := [], alts := [], laidByText := true, laidKinds := [.data], laidTests := true, laidLooks := .later }
def ShaTopsUptoCardSaid : Prop := Claim7.holds Tryd.pinned (.plain (OpenSpec.upto shaTopsSpec)) shaTopsUptoCard

/-- THE SECOND FORM's CARD OF 'veneerlaw03.ShaNested'. -/
def shaNestedUptoCard : Claim7 := { stood := { row := shaNestedUptoRow, standIns := [], harness := (true, "b0ed6ff4c74902ed3703687e4fad615c91b400956498291e79302c83400c8862"), looks := false }, kinds := [], alts := [], laidByText := true, laidKinds := [.data], laidTests := true, laidLooks := .later }
def ShaNestedUptoCardSaid : Prop := Claim7.holds Tryd.pinned (.plain (OpenSpec.upto shaNestedSpec)) shaNestedUptoCard

/-- THE SECOND FORM's CARD OF 'veneerlaw03.ShaPieces'. -/
def shaPiecesUptoCard : Claim7 := { stood := { row := shaPiecesUptoRow, standIns := [], harness := (true, "b0ed6ff4c74902ed3703687e4fad615c91b400956498291e79302c83400c8862"), looks := false }, kinds := [], alts := [], laidByText := true, laidKinds := [.data], laidTests := true, laidLooks := .later }
def ShaPiecesUptoCardSaid : Prop := Claim7.holds Tryd.pinned (.plain (OpenSpec.upto shaPiecesSpec)) shaPiecesUptoCard

/-- THE SECOND FORM's CARD OF 'veneerlaw03.ShaNobody'. -/
def shaNobodyUptoCard : Claim7 := { stood := { row := shaNobodyUptoRow, standIns := [], harness := (true, "b0ed6ff4c74902ed3703687e4fad615c91b400956498291e79302c83400c8862"), looks := false }, kinds := [], alts := [], laidByText := true, laidKinds := [.data], laidTests := true, laidLooks := .later }
def ShaNobodyUptoCardSaid : Prop := Claim7.holds Tryd.pinned (.plain (OpenSpec.upto shaNobodySpec)) shaNobodyUptoCard

/-- THE SECOND FORM's CARD OF 'veneerlaw03.ShaHexes'. -/
def shaHexesUptoCard : Claim7 := { stood := { row := shaHexesUptoRow, standIns := [], harness := (true, "b0ed6ff4c74902ed3703687e4fad615c91b400956498291e79302c83400c8862"), looks := false }, kinds := [], alts := [], laidByText := true, laidKinds := [.data], laidTests := true, laidLooks := .later }
def ShaHexesUptoCardSaid : Prop := Claim7.holds Tryd.pinned (.plain (OpenSpec.upto shaHexesSpec)) shaHexesUptoCard

/-- THE SECOND FORM's CARD OF 'veneerlaw03.ShaBack'. -/
def shaBackUptoCard : Claim7 := { stood := { row := shaBackUptoRow, standIns := [], harness := (true, "b0ed6ff4c74902ed3703687e4fad615c91b400956498291e79302c83400c8862"), looks := false }, kinds := [], alts := [], laidByText := true, laidKinds := [.data], laidTests := true, laidLooks := .later }
def ShaBackUptoCardSaid : Prop := Claim7.holds Tryd.pinned (.plain (OpenSpec.upto shaBackSpec)) shaBackUptoCard
end Rows
end Go.Proofs.YtoheacfggalcbaaDoor
