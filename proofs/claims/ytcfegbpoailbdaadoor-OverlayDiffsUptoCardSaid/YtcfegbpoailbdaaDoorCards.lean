/-
  DERIVED. GIVEN WITH THE SEED: THE CARDS: each row of YtcfegbpoailbdaaDoorRows.lean that lists a variable, with what it lists TIED to the program's text (the seventh form; the later family's looks); each row that meets fmt, with fmt's text TOLD by the authors' own Lean function (tested against real Go, not proved from fmt's source: count such statements apart). THE CARD IS WHAT COUNTS. Prove the row's statement (the work); the ties are given (YtcfegbpoailbdaaDoorTie.lean); close each card by the builder's one call (the guide's Derived/Test/ToyasCard.lean, 'card_holds'). Laid BY PROGRAM, IN A SANDBOX (cutbox-door.mjs). By AI agents, Wed Nov 11 2026. No macro, syntax, notation, axiom, sorry.
-/
import Derived.Test.YtcfegbpoailbdaaDoorRows
import GoSem.ClaimSeven
namespace Go.Proofs.YtcfegbpoailbdaaDoor
namespace Rows

/-- THE TIED CARD OF 'veneerlaw08.OverlayMerges'. -/
def overlayMergesCard : Claim7 := { stood := { row := overlayMergesRow, standIns := [], harness := (true, "593e4f87475eacfbf648129713cd6f62389aa86355858dff7e78c5585851a50b"), looks := false }, kinds := [], alts := [], laidByText := true, laidKinds := [.data, .pinned], laidTests := true, laidLooks := .later }
def OverlayMergesCardSaid : Prop := Claim7.holds Tryd.pinned (.plain (OpenSpec.ofChange overlayMergesSpec)) overlayMergesCard

/-- THE TIED CARD OF 'veneerlaw08.OverlayFlat'. -/
def overlayFlatCard : Claim7 := { stood := { row := overlayFlatRow, standIns := [], harness := (true, "593e4f87475eacfbf648129713cd6f62389aa86355858dff7e78c5585851a50b"), looks := false }, kinds := [], alts := [], laidByText := true, laidKinds := [.data, .pinned], laidTests := true, laidLooks := .later }
def OverlayFlatCardSaid : Prop := Claim7.holds Tryd.pinned (.plain (OpenSpec.ofChange overlayFlatSpec)) overlayFlatCard

/-- THE TIED CARD OF 'veneerlaw08.OverlayTwice'. -/
def overlayTwiceCard : Claim7 := { stood := { row := overlayTwiceRow, standIns := [], harness := (true, "593e4f87475eacfbf648129713cd6f62389aa86355858dff7e78c5585851a50b"), looks := false }, kinds := [], alts := [], laidByText := true, laidKinds := [.data, .pinned], laidTests := true, laidLooks := .later }
def OverlayTwiceCardSaid : Prop := Claim7.holds Tryd.pinned (.plain (OpenSpec.ofChange overlayTwiceSpec)) overlayTwiceCard

/-- THE TIED CARD OF 'veneerlaw08.OverlayWhite'. -/
def overlayWhiteCard : Claim7 := { stood := { row := overlayWhiteRow, standIns := [], harness := (true, "593e4f87475eacfbf648129713cd6f62389aa86355858dff7e78c5585851a50b"), looks := false }, kinds := [], alts := [], laidByText := true, laidKinds := [.data, .pinned], laidTests := true, laidLooks := .later }
def OverlayWhiteCardSaid : Prop := Claim7.holds Tryd.pinned (.plain (OpenSpec.ofChange overlayWhiteSpec)) overlayWhiteCard

/-- THE TIED CARD OF 'veneerlaw08.OverlayTop'. -/
def overlayTopCard : Claim7 := { stood := { row := overlayTopRow, standIns := [], harness := (true, "593e4f87475eacfbf648129713cd6f62389aa86355858dff7e78c5585851a50b"), looks := false }, kinds := [], alts := [], laidByText := true, laidKinds := [.data, .pinned], laidTests := true, laidLooks := .later }
def OverlayTopCardSaid : Prop := Claim7.holds Tryd.pinned (.plain (OpenSpec.ofChange overlayTopSpec)) overlayTopCard

/-- THE TIED CARD OF 'veneerlaw08.OverlayDiffs'. -/
def overlayDiffsCard : Claim7 := { stood := { row := overlayDiffsRow, standIns := [], harness := (true, "593e4f87475eacfbf648129713cd6f62389aa86355858dff7e78c5585851a50b"), looks := false }, kinds := [], alts := [], laidByText := true, laidKinds := [.data, .pinned], laidTests := true, laidLooks := .later }
def OverlayDiffsCardSaid : Prop := Claim7.holds Tryd.pinned (.plain (OpenSpec.ofChange overlayDiffsSpec)) overlayDiffsCard

/-- THE TIED CARD OF 'veneerlaw08.OverlayParts'. -/
def overlayPartsCard : Claim7 := { stood := { row := overlayPartsRow, standIns := [], harness := (true, "593e4f87475eacfbf648129713cd6f62389aa86355858dff7e78c5585851a50b"), looks := false }, kinds := [], alts := [], laidByText := true, laidKinds := [.data, .pinned], laidTests := true, laidLooks := .later }
def OverlayPartsCardSaid : Prop := Claim7.holds Tryd.pinned (.plain (OpenSpec.ofChange overlayPartsSpec)) overlayPartsCard

/-- THE TIED CARD OF 'veneerlaw08.OverlayTrees'. -/
def overlayTreesCard : Claim7 := { stood := { row := overlayTreesRow, standIns := [], harness := (true, "593e4f87475eacfbf648129713cd6f62389aa86355858dff7e78c5585851a50b"), looks := false }, kinds := [], alts := [], laidByText := true, laidKinds := [.data, .pinned], laidTests := true, laidLooks := .later }
def OverlayTreesCardSaid : Prop := Claim7.holds Tryd.pinned (.plain (OpenSpec.ofChange overlayTreesSpec)) overlayTreesCard

/-- THE SECOND FORM's CARD OF 'veneerlaw08.OverlayMerges'. -/
def overlayMergesUptoCard : Claim7 := { stood := { row := overlayMergesUptoRow, standIns := [], harness := (true, "593e4f87475eacfbf648129713cd6f62389aa86355858dff7e78c5585851a50b"), looks := false }, kinds := [], alts := [], laidByText := true, laidKinds := [.data, .pinned], laidTests := true, laidLooks := .later }
def OverlayMergesUptoCardSaid : Prop := Claim7.holds Tryd.pinned (.plain (OpenSpec.upto overlayMergesSpec)) overlayMergesUptoCard

/-- THE SECOND FORM's CARD OF 'veneerlaw08.OverlayFlat'. -/
def overlayFlatUptoCard : Claim7 := { stood := { row := overlayFlatUptoRow, standIns := [], harness := (true, "593e4f87475eacfbf648129713cd6f62389aa86355858dff7e78c5585851a50b"), looks := false }, kinds := [], alts := [], laidByText := true, laidKinds := [.data, .pinned], laidTests := true, laidLooks := .later }
def OverlayFlatUptoCardSaid : Prop := Claim7.holds Tryd.pinned (.plain (OpenSpec.upto overlayFlatSpec)) overlayFlatUptoCard

/-- THE SECOND FORM's CARD OF 'veneerlaw08.OverlayTwice'. -/
def overlayTwiceUptoCard : Claim7 := { stood := { row := overlayTwiceUptoRow, standIns := [], harness := (true, "593e4f87475eacfbf648129713cd6f62389aa86355858dff7e78c5585851a50b"), looks := false }, kinds := [], alts := [], laidByText := true, laidKinds := [.data, .pinned], laidTests := true, laidLooks := .later }
def OverlayTwiceUptoCardSaid : Prop := Claim7.holds Tryd.pinned (.plain (OpenSpec.upto overlayTwiceSpec)) overlayTwiceUptoCard

/-- THE SECOND FORM's CARD OF 'veneerlaw08.OverlayWhite'. -/
def overlayWhiteUptoCard : Claim7 := { stood := { row := overlayWhiteUptoRow, standIns := [], harness := (true, "593e4f87475eacfbf648129713cd6f62389aa86355858dff7e78c5585851a50b"), looks := false }, kinds := [], alts := [], laidByText := true, laidKinds := [.data, .pinned], laidTests := true, laidLooks := .later }
def OverlayWhiteUptoCardSaid : Prop := Claim7.holds Tryd.pinned (.plain (OpenSpec.upto overlayWhiteSpec)) overlayWhiteUptoCard

/-- THE SECOND FORM's CARD OF 'veneerlaw08.OverlayTop'. -/
def overlayTopUptoCard : Claim7 := { stood := { row := overlayTopUptoRow, standIns := [], harness := (true, "593e4f87475eacfbf648129713cd6f62389aa86355858dff7e78c5585851a50b"), looks := false }, kinds := [], alts := [], laidByText := true, laidKinds := [.data, .pinned], laidTests := true, laidLooks := .later }
def OverlayTopUptoCardSaid : Prop := Claim7.holds Tryd.pinned (.plain (OpenSpec.upto overlayTopSpec)) overlayTopUptoCard

/-- THE SECOND FORM's CARD OF 'veneerlaw08.OverlayDiffs'. -/
def overlayDiffsUptoCard : Claim7 := { stood := { row := overlayDiffsUptoRow, standIns := [], harness := (true, "593e4f87475eacfbf648129713cd6f62389aa86355858dff7e78c5585851a50b"), looks := false }, kinds := [], alts := [], laidByText := true, laidKinds := [.data, .pinned], laidTests := true, laidLooks := .later }
def OverlayDiffsUptoCardSaid : Prop := Claim7.holds Tryd.pinned (.plain (OpenSpec.upto overlayDiffsSpec)) overlayDiffsUptoCard

/-- THE SECOND FORM's CARD OF 'veneerlaw08.OverlayParts'. -/
def overlayPartsUptoCard : Claim7 := { stood := { row := overlayPartsUptoRow, standIns := [], harness := (true, "593e4f87475eacfbf648129713cd6f62389aa86355858dff7e78c5585851a50b"), looks := false }, kinds := [], alts := [], laidByText := true, laidKinds := [.data, .pinned], laidTests := true, laidLooks := .later }
def OverlayPartsUptoCardSaid : Prop := Claim7.holds Tryd.pinned (.plain (OpenSpec.upto overlayPartsSpec)) overlayPartsUptoCard

/-- THE SECOND FORM's CARD OF 'veneerlaw08.OverlayTrees'. -/
def overlayTreesUptoCard : Claim7 := { stood := { row := overlayTreesUptoRow, standIns := [], harness := (true, "593e4f87475eacfbf648129713cd6f62389aa86355858dff7e78c5585851a50b"), looks := false }, kinds := [], alts := [], laidByText := true, laidKinds := [.data, .pinned], laidTests := true, laidLooks := .later }
def OverlayTreesUptoCardSaid : Prop := Claim7.holds Tryd.pinned (.plain (OpenSpec.upto overlayTreesSpec)) overlayTreesUptoCard
end Rows
end Go.Proofs.YtcfegbpoailbdaaDoor
