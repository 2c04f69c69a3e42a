/-
  NARROWER THAN 'FOR EVERY INPUT', by the rows' own cells (each row's printed sentence says how): OverlayMerges: laid · OverlayFlat: laid · OverlayTwice: laid · OverlayWhite: laid · OverlayTop: laid · OverlayDiffs: laid · OverlayParts: laid · OverlayTrees: laid.
  DERIVED. THE GIVEN ROWS OF THIS SEAT. 8 by the template 'for every input the law returns true; each argument reads behind the call as it read before'; 0 by the template 'total and deterministic' (their statements: YtcfegbpoailbdaaDoorTotals.lean).
  GIVEN WITH THE SEED: the statements are not yours to turn. If you find one false, say at which input.
  Laid BY PROGRAM, IN A SANDBOX (cutbox-rows.mjs): the forced cells as the released guide's own fill.sh prints them over the translation 4e1ad9819e145dc4… (all of the seat's roots in one cut). By AI agents, Wed Nov 11 2026. No macro, syntax, notation, axiom, sorry.
-/
import Derived.Test.YtcfegbpoailbdaaDoorChecked
import GoSem.PinnedTables
import GoSem.Claim
import GoSem.ClaimJoined
import GoSem.ClaimMapViews
import Derived.JoinedTies
import Derived.KernelRfl
namespace Go.Proofs.YtcfegbpoailbdaaDoor
/- THE CELL 'sum', in the pinned program and in every row, IS THE sha256 OF THE DUMP (.gsa) THAT YtcfegbpoailbdaaDoorProg.lean LOADS. Nothing in Lean hashes anything: it is a label: what it is worth is what the hold of that sum in a sandbox is worth. -/
noncomputable def Tryd.pinned : Pinned := { name := "ytcfegbpoailbdaadoor", sum := "4e1ad9819e145dc4160878dd85c4afba6e047504e802804e01b406dba314e8f4", checked := Tryd.checked }
namespace Rows
def none {H : Type} : Left H := { results := [], args := [] }

/- WHAT THE LISTED PACKAGE-LEVEL VARIABLES READ AS WHEN THE CALL BEGINS. Each datum BY PROGRAM (the guide's laid-datum.mjs) off the statement by which the dump's own 'gosem.cut.vars' lays the variable. In a bare row this is a premise. The card (YtcfegbpoailbdaaDoorCards.lean) ties it to the program's text. -/
def laid_unicode_utf8_acceptRanges {H : Type} : DataW H := .agg [.agg [.lit (.int .u8 128), .lit (.int .u8 191)], .agg [.lit (.int .u8 160), .lit (.int .u8 191)], .agg [.lit (.int .u8 128), .lit (.int .u8 159)], .agg [.lit (.int .u8 144), .lit (.int .u8 191)], .agg [.lit (.int .u8 128), .lit (.int .u8 143)], .agg [.lit (.int .u8 0), .lit (.int .u8 0)], .agg [.lit (.int .u8 0), .lit (.int .u8 0)], .agg [.lit (.int .u8 0), .lit (.int .u8 0)], .agg [.lit (.int .u8 0), .lit (.int .u8 0)], .agg [.lit (.int .u8 0), .lit (.int .u8 0)], .agg [.lit (.int .u8 0), .lit (.int .u8 0)], .agg [.lit (.int .u8 0), .lit (.int .u8 0)], .agg [.lit (.int .u8 0), .lit (.int .u8 0)], .agg [.lit (.int .u8 0), .lit (.int .u8 0)], .agg [.lit (.int .u8 0), .lit (.int .u8 0)], .agg [.lit (.int .u8 0), .lit (.int .u8 0)]]
/-- One of Go's own tables, pinned by name: the form's constant. -/
def laid_unicode_utf8_first : DataW Unit := Go.Pinned.utf8First

/-- 'veneerlaw08.OverlayMerges': WHATEVER THE INPUT: true; the input reads as it did. -/
def overlayMergesSpec : ChangeSpec := { name := "overlayMerges", fn := fun _ => fun
  | [d] => { results := [.lit (.bool true)], args := [d] }
  | _ => none }
def overlayMergesRow : OpenClaim := { program := "ytcfegbpoailbdaadoor", sum := "4e1ad9819e145dc4160878dd85c4afba6e047504e802804e01b406dba314e8f4", func := "veneer/veneerlaw08.OverlayMerges", spec := "overlayMerges", inPlace := ["internal/bytealg.CountString", "internal/bytealg.IndexByteString", "internal/bytealg.IndexString", "internal/abi.NoEscape", "internal/bytealg.MakeNoZero"], unfollowed := true, recurses := true, named := ["unicode/utf8.first", "unicode/utf8.acceptRanges", "internal/bytealg.MaxLen"], apart := false, laid := [("unicode/utf8.acceptRanges", laid_unicode_utf8_acceptRanges), ("unicode/utf8.first", laid_unicode_utf8_first)] }
def OverlayMergesSaid : Prop := overlayMergesRow.holds Tryd.pinned (OpenSpec.ofChange overlayMergesSpec)

/-- ITS FALSE NEIGHBOUR: 'it returns false'. Refute it at one input. -/
def overlayMergesWrong : ChangeSpec := { name := "overlayMerges", fn := fun _ => fun
  | [d] => { results := [.lit (.bool false)], args := [d] }
  | _ => none }
def OverlayMergesWrongFalsely : Prop := overlayMergesRow.holds Tryd.pinned (OpenSpec.ofChange overlayMergesWrong)

/-- 'veneerlaw08.OverlayFlat': WHATEVER THE INPUT: true; the input reads as it did. -/
def overlayFlatSpec : ChangeSpec := { name := "overlayFlat", fn := fun _ => fun
  | [d1, d2] => { results := [.lit (.bool true)], args := [d1, d2] }
  | _ => none }
def overlayFlatRow : OpenClaim := { program := "ytcfegbpoailbdaadoor", sum := "4e1ad9819e145dc4160878dd85c4afba6e047504e802804e01b406dba314e8f4", func := "veneer/veneerlaw08.OverlayFlat", spec := "overlayFlat", inPlace := ["internal/bytealg.CountString", "internal/bytealg.IndexByteString", "internal/bytealg.IndexString", "internal/abi.NoEscape", "internal/bytealg.MakeNoZero"], unfollowed := true, recurses := true, named := ["unicode/utf8.first", "unicode/utf8.acceptRanges", "internal/bytealg.MaxLen"], apart := false, laid := [("unicode/utf8.acceptRanges", laid_unicode_utf8_acceptRanges), ("unicode/utf8.first", laid_unicode_utf8_first)] }
def OverlayFlatSaid : Prop := overlayFlatRow.holds Tryd.pinned (OpenSpec.ofChange overlayFlatSpec)

/-- ITS FALSE NEIGHBOUR: 'it returns false'. Refute it at one input. -/
def overlayFlatWrong : ChangeSpec := { name := "overlayFlat", fn := fun _ => fun
  | [d1, d2] => { results := [.lit (.bool false)], args := [d1, d2] }
  | _ => none }
def OverlayFlatWrongFalsely : Prop := overlayFlatRow.holds Tryd.pinned (OpenSpec.ofChange overlayFlatWrong)

/-- 'veneerlaw08.OverlayTwice': WHATEVER THE INPUT: true; the input reads as it did. -/
def overlayTwiceSpec : ChangeSpec := { name := "overlayTwice", fn := fun _ => fun
  | [d1, d2] => { results := [.lit (.bool true)], args := [d1, d2] }
  | _ => none }
def overlayTwiceRow : OpenClaim := { program := "ytcfegbpoailbdaadoor", sum := "4e1ad9819e145dc4160878dd85c4afba6e047504e802804e01b406dba314e8f4", func := "veneer/veneerlaw08.OverlayTwice", spec := "overlayTwice", inPlace := ["internal/bytealg.CountString", "internal/bytealg.IndexByteString", "internal/bytealg.IndexString", "internal/abi.NoEscape", "internal/bytealg.MakeNoZero"], unfollowed := true, recurses := true, named := ["unicode/utf8.first", "unicode/utf8.acceptRanges", "internal/bytealg.MaxLen"], apart := false, laid := [("unicode/utf8.acceptRanges", laid_unicode_utf8_acceptRanges), ("unicode/utf8.first", laid_unicode_utf8_first)] }
def OverlayTwiceSaid : Prop := overlayTwiceRow.holds Tryd.pinned (OpenSpec.ofChange overlayTwiceSpec)

/-- ITS FALSE NEIGHBOUR: 'it returns false'. Refute it at one input. -/
def overlayTwiceWrong : ChangeSpec := { name := "overlayTwice", fn := fun _ => fun
  | [d1, d2] => { results := [.lit (.bool false)], args := [d1, d2] }
  | _ => none }
def OverlayTwiceWrongFalsely : Prop := overlayTwiceRow.holds Tryd.pinned (OpenSpec.ofChange overlayTwiceWrong)

/-- 'veneerlaw08.OverlayWhite': WHATEVER THE INPUT: true; the input reads as it did. -/
def overlayWhiteSpec : ChangeSpec := { name := "overlayWhite", fn := fun _ => fun
  | [d1, d2] => { results := [.lit (.bool true)], args := [d1, d2] }
  | _ => none }
def overlayWhiteRow : OpenClaim := { program := "ytcfegbpoailbdaadoor", sum := "4e1ad9819e145dc4160878dd85c4afba6e047504e802804e01b406dba314e8f4", func := "veneer/veneerlaw08.OverlayWhite", spec := "overlayWhite", inPlace := ["internal/bytealg.CountString", "internal/bytealg.IndexByteString", "internal/bytealg.IndexString", "internal/abi.NoEscape", "internal/bytealg.MakeNoZero"], unfollowed := true, recurses := true, named := ["unicode/utf8.first", "unicode/utf8.acceptRanges", "internal/bytealg.MaxLen"], apart := false, laid := [("unicode/utf8.acceptRanges", laid_unicode_utf8_acceptRanges), ("unicode/utf8.first", laid_unicode_utf8_first)] }
def OverlayWhiteSaid : Prop := overlayWhiteRow.holds Tryd.pinned (OpenSpec.ofChange overlayWhiteSpec)

/-- ITS FALSE NEIGHBOUR: 'it returns false'. Refute it at one input. -/
def overlayWhiteWrong : ChangeSpec := { name := "overlayWhite", fn := fun _ => fun
  | [d1, d2] => { results := [.lit (.bool false)], args := [d1, d2] }
  | _ => none }
def OverlayWhiteWrongFalsely : Prop := overlayWhiteRow.holds Tryd.pinned (OpenSpec.ofChange overlayWhiteWrong)

/-- 'veneerlaw08.OverlayTop': WHATEVER THE INPUT: true; the input reads as it did. -/
def overlayTopSpec : ChangeSpec := { name := "overlayTop", fn := fun _ => fun
  | [d1, d2] => { results := [.lit (.bool true)], args := [d1, d2] }
  | _ => none }
def overlayTopRow : OpenClaim := { program := "ytcfegbpoailbdaadoor", sum := "4e1ad9819e145dc4160878dd85c4afba6e047504e802804e01b406dba314e8f4", func := "veneer/veneerlaw08.OverlayTop", spec := "overlayTop", inPlace := ["internal/bytealg.CountString", "internal/bytealg.IndexByteString", "internal/bytealg.IndexString", "internal/abi.NoEscape", "internal/bytealg.MakeNoZero"], unfollowed := true, recurses := true, named := ["unicode/utf8.first", "unicode/utf8.acceptRanges", "internal/bytealg.MaxLen"], apart := false, laid := [("unicode/utf8.acceptRanges", laid_unicode_utf8_acceptRanges), ("unicode/utf8.first", laid_unicode_utf8_first)] }
def OverlayTopSaid : Prop := overlayTopRow.holds Tryd.pinned (OpenSpec.ofChange overlayTopSpec)

/-- ITS FALSE NEIGHBOUR: 'it returns false'. Refute it at one input. -/
def overlayTopWrong : ChangeSpec := { name := "overlayTop", fn := fun _ => fun
  | [d1, d2] => { results := [.lit (.bool false)], args := [d1, d2] }
  | _ => none }
def OverlayTopWrongFalsely : Prop := overlayTopRow.holds Tryd.pinned (OpenSpec.ofChange overlayTopWrong)

/-- 'veneerlaw08.OverlayDiffs': WHATEVER THE INPUT: true; the input reads as it did. -/
def overlayDiffsSpec : ChangeSpec := { name := "overlayDiffs", fn := fun _ => fun
  | [d1, d2] => { results := [.lit (.bool true)], args := [d1, d2] }
  | _ => none }
def overlayDiffsRow : OpenClaim := { program := "ytcfegbpoailbdaadoor", sum := "4e1ad9819e145dc4160878dd85c4afba6e047504e802804e01b406dba314e8f4", func := "veneer/veneerlaw08.OverlayDiffs", spec := "overlayDiffs", inPlace := ["internal/bytealg.CountString", "internal/bytealg.IndexByteString", "internal/bytealg.IndexString", "internal/abi.NoEscape", "internal/bytealg.MakeNoZero"], unfollowed := true, recurses := true, named := ["unicode/utf8.first", "unicode/utf8.acceptRanges", "internal/bytealg.MaxLen"], apart := false, laid := [("unicode/utf8.acceptRanges", laid_unicode_utf8_acceptRanges), ("unicode/utf8.first", laid_unicode_utf8_first)] }
def OverlayDiffsSaid : Prop := overlayDiffsRow.holds Tryd.pinned (OpenSpec.ofChange overlayDiffsSpec)

/-- ITS FALSE NEIGHBOUR: 'it returns false'. Refute it at one input. -/
def overlayDiffsWrong : ChangeSpec := { name := "overlayDiffs", fn := fun _ => fun
  | [d1, d2] => { results := [.lit (.bool false)], args := [d1, d2] }
  | _ => none }
def OverlayDiffsWrongFalsely : Prop := overlayDiffsRow.holds Tryd.pinned (OpenSpec.ofChange overlayDiffsWrong)

/-- 'veneerlaw08.OverlayParts': WHATEVER THE INPUT: true; the input reads as it did. -/
def overlayPartsSpec : ChangeSpec := { name := "overlayParts", fn := fun _ => fun
  | [d1, d2] => { results := [.lit (.bool true)], args := [d1, d2] }
  | _ => none }
def overlayPartsRow : OpenClaim := { program := "ytcfegbpoailbdaadoor", sum := "4e1ad9819e145dc4160878dd85c4afba6e047504e802804e01b406dba314e8f4", func := "veneer/veneerlaw08.OverlayParts", spec := "overlayParts", inPlace := ["internal/bytealg.CountString", "internal/bytealg.IndexByteString", "internal/bytealg.IndexString", "internal/abi.NoEscape", "internal/bytealg.MakeNoZero"], unfollowed := true, recurses := true, named := ["unicode/utf8.first", "unicode/utf8.acceptRanges", "internal/bytealg.MaxLen"], apart := false, laid := [("unicode/utf8.acceptRanges", laid_unicode_utf8_acceptRanges), ("unicode/utf8.first", laid_unicode_utf8_first)] }
def OverlayPartsSaid : Prop := overlayPartsRow.holds Tryd.pinned (OpenSpec.ofChange overlayPartsSpec)

/-- ITS FALSE NEIGHBOUR: 'it returns false'. Refute it at one input. -/
def overlayPartsWrong : ChangeSpec := { name := "overlayParts", fn := fun _ => fun
  | [d1, d2] => { results := [.lit (.bool false)], args := [d1, d2] }
  | _ => none }
def OverlayPartsWrongFalsely : Prop := overlayPartsRow.holds Tryd.pinned (OpenSpec.ofChange overlayPartsWrong)

/-- 'veneerlaw08.OverlayTrees': WHATEVER THE INPUT: true; the input reads as it did. -/
def overlayTreesSpec : ChangeSpec := { name := "overlayTrees", fn := fun _ => fun
  | [d] => { results := [.lit (.bool true)], args := [d] }
  | _ => none }
def overlayTreesRow : OpenClaim := { program := "ytcfegbpoailbdaadoor", sum := "4e1ad9819e145dc4160878dd85c4afba6e047504e802804e01b406dba314e8f4", func := "veneer/veneerlaw08.OverlayTrees", spec := "overlayTrees", inPlace := ["internal/bytealg.CountString", "internal/bytealg.IndexByteString", "internal/bytealg.IndexString", "internal/abi.NoEscape", "internal/bytealg.MakeNoZero"], unfollowed := true, recurses := true, named := ["unicode/utf8.first", "unicode/utf8.acceptRanges", "internal/bytealg.MaxLen"], apart := false, laid := [("unicode/utf8.acceptRanges", laid_unicode_utf8_acceptRanges), ("unicode/utf8.first", laid_unicode_utf8_first)] }
def OverlayTreesSaid : Prop := overlayTreesRow.holds Tryd.pinned (OpenSpec.ofChange overlayTreesSpec)

/-- ITS FALSE NEIGHBOUR: 'it returns false'. Refute it at one input. -/
def overlayTreesWrong : ChangeSpec := { name := "overlayTrees", fn := fun _ => fun
  | [d] => { results := [.lit (.bool false)], args := [d] }
  | _ => none }
def OverlayTreesWrongFalsely : Prop := overlayTreesRow.holds Tryd.pinned (OpenSpec.ofChange overlayTreesWrong)

/- THE SECOND FORM. 'bulk': how many values and letters a reading holds, each counted each time it is reached (what is shared counts as often as it is met; a slice's spare places count too). A statement '..UptoSaid' is the law's where the arguments, and the package variables that the reading takes, are together of bulk at most 1048576: NARROWER than '..Said'. Prove '..Said' where nothing that the law and all that it calls make is longer than what came in: it says more and counts as full. Else prove '..UptoSaid'. A law counts once. -/
mutual
def uptoBulk {H : Type} : DataW H → Nat
  | .lit (.string bytes) => bytes.length + 1
  | .lit _ => 1
  | .nil => 1
  | .ptr d => uptoBulk d + 1
  | .slice elems spare => uptoBulkAll elems + uptoBulkAll spare + 1
  | .agg parts => uptoBulkAll parts + 1
  | .iface _ d => uptoBulk d + 1
  | .map entries => uptoBulkEntries entries + 1
  | .held _ => 1
def uptoBulkAll {H : Type} : List (DataW H) → Nat
  | [] => 0
  | d :: r => uptoBulk d + uptoBulkAll r
def uptoBulkEntries {H : Type} : List (Lit × DataW H) → Nat
  | [] => 0
  | x :: r => uptoBulkEntry x + uptoBulkEntries r
def uptoBulkEntry {H : Type} : Lit × DataW H → Nat
  | (.string bytes, d) => bytes.length + uptoBulk d + 1
  | (_, d) => uptoBulk d + 1
 end
def uptoSmall : (H : Type) → List (DataW H) → Bool := fun _ ds => decide (uptoBulkAll ds ≤ 1048576)
def OpenSpec.upto (s : _root_.Go.ChangeSpec) : _root_.Go.OpenSpec := { _root_.Go.OpenSpec.ofChange s with cond := some uptoSmall }

/-- 'veneerlaw08.OverlayMerges', WHERE WHAT IT READS IS OF BULK AT MOST 1048576: true; the input reads as it did. -/
def overlayMergesUptoRow : OpenClaim := { program := "ytcfegbpoailbdaadoor", sum := "4e1ad9819e145dc4160878dd85c4afba6e047504e802804e01b406dba314e8f4", func := "veneer/veneerlaw08.OverlayMerges", spec := "overlayMerges", inPlace := ["internal/bytealg.CountString", "internal/bytealg.IndexByteString", "internal/bytealg.IndexString", "internal/abi.NoEscape", "internal/bytealg.MakeNoZero"], unfollowed := true, recurses := true, named := ["unicode/utf8.first", "unicode/utf8.acceptRanges", "internal/bytealg.MaxLen"], apart := false, laid := [("unicode/utf8.acceptRanges", laid_unicode_utf8_acceptRanges), ("unicode/utf8.first", laid_unicode_utf8_first)], narrowed := true }
def OverlayMergesUptoSaid : Prop := overlayMergesUptoRow.holds Tryd.pinned (OpenSpec.upto overlayMergesSpec)

/-- 'veneerlaw08.OverlayFlat', WHERE WHAT IT READS IS OF BULK AT MOST 1048576: true; the input reads as it did. -/
def overlayFlatUptoRow : OpenClaim := { program := "ytcfegbpoailbdaadoor", sum := "4e1ad9819e145dc4160878dd85c4afba6e047504e802804e01b406dba314e8f4", func := "veneer/veneerlaw08.OverlayFlat", spec := "overlayFlat", inPlace := ["internal/bytealg.CountString", "internal/bytealg.IndexByteString", "internal/bytealg.IndexString", "internal/abi.NoEscape", "internal/bytealg.MakeNoZero"], unfollowed := true, recurses := true, named := ["unicode/utf8.first", "unicode/utf8.acceptRanges", "internal/bytealg.MaxLen"], apart := false, laid := [("unicode/utf8.acceptRanges", laid_unicode_utf8_acceptRanges), ("unicode/utf8.first", laid_unicode_utf8_first)], narrowed := true }
def OverlayFlatUptoSaid : Prop := overlayFlatUptoRow.holds Tryd.pinned (OpenSpec.upto overlayFlatSpec)

/-- 'veneerlaw08.OverlayTwice', WHERE WHAT IT READS IS OF BULK AT MOST 1048576: true; the input reads as it did. -/
def overlayTwiceUptoRow : OpenClaim := { program := "ytcfegbpoailbdaadoor", sum := "4e1ad9819e145dc4160878dd85c4afba6e047504e802804e01b406dba314e8f4", func := "veneer/veneerlaw08.OverlayTwice", spec := "overlayTwice", inPlace := ["internal/bytealg.CountString", "internal/bytealg.IndexByteString", "internal/bytealg.IndexString", "internal/abi.NoEscape", "internal/bytealg.MakeNoZero"], unfollowed := true, recurses := true, named := ["unicode/utf8.first", "unicode/utf8.acceptRanges", "internal/bytealg.MaxLen"], apart := false, laid := [("unicode/utf8.acceptRanges", laid_unicode_utf8_acceptRanges), ("unicode/utf8.first", laid_unicode_utf8_first)], narrowed := true }
def OverlayTwiceUptoSaid : Prop := overlayTwiceUptoRow.holds Tryd.pinned (OpenSpec.upto overlayTwiceSpec)

/-- 'veneerlaw08.OverlayWhite', WHERE WHAT IT READS IS OF BULK AT MOST 1048576: true; the input reads as it did. -/
def overlayWhiteUptoRow : OpenClaim := { program := "ytcfegbpoailbdaadoor", sum := "4e1ad9819e145dc4160878dd85c4afba6e047504e802804e01b406dba314e8f4", func := "veneer/veneerlaw08.OverlayWhite", spec := "overlayWhite", inPlace := ["internal/bytealg.CountString", "internal/bytealg.IndexByteString", "internal/bytealg.IndexString", "internal/abi.NoEscape", "internal/bytealg.MakeNoZero"], unfollowed := true, recurses := true, named := ["unicode/utf8.first", "unicode/utf8.acceptRanges", "internal/bytealg.MaxLen"], apart := false, laid := [("unicode/utf8.acceptRanges", laid_unicode_utf8_acceptRanges), ("unicode/utf8.first", laid_unicode_utf8_first)], narrowed := true }
def OverlayWhiteUptoSaid : Prop := overlayWhiteUptoRow.holds Tryd.pinned (OpenSpec.upto overlayWhiteSpec)

/-- 'veneerlaw08.OverlayTop', WHERE WHAT IT READS IS OF BULK AT MOST 1048576: true; the input reads as it did. -/
def overlayTopUptoRow : OpenClaim := { program := "ytcfegbpoailbdaadoor", sum := "4e1ad9819e145dc4160878dd85c4afba6e047504e802804e01b406dba314e8f4", func := "veneer/veneerlaw08.OverlayTop", spec := "overlayTop", inPlace := ["internal/bytealg.CountString", "internal/bytealg.IndexByteString", "internal/bytealg.IndexString", "internal/abi.NoEscape", "internal/bytealg.MakeNoZero"], unfollowed := true, recurses := true, named := ["unicode/utf8.first", "unicode/utf8.acceptRanges", "internal/bytealg.MaxLen"], apart := false, laid := [("unicode/utf8.acceptRanges", laid_unicode_utf8_acceptRanges), ("unicode/utf8.first", laid_unicode_utf8_first)], narrowed := true }
def OverlayTopUptoSaid : Prop := overlayTopUptoRow.holds Tryd.pinned (OpenSpec.upto overlayTopSpec)

/-- 'veneerlaw08.OverlayDiffs', WHERE WHAT IT READS IS OF BULK AT MOST 1048576: true; the input reads as it did. -/
def overlayDiffsUptoRow : OpenClaim := { program := "ytcfegbpoailbdaadoor", sum := "4e1ad9819e145dc4160878dd85c4afba6e047504e802804e01b406dba314e8f4", func := "veneer/veneerlaw08.OverlayDiffs", spec := "overlayDiffs", inPlace := ["internal/bytealg.CountString", "internal/bytealg.IndexByteString", "internal/bytealg.IndexString", "internal/abi.NoEscape", "internal/bytealg.MakeNoZero"], unfollowed := true, recurses := true, named := ["unicode/utf8.first", "unicode/utf8.acceptRanges", "internal/bytealg.MaxLen"], apart := false, laid := [("unicode/utf8.acceptRanges", laid_unicode_utf8_acceptRanges), ("unicode/utf8.first", laid_unicode_utf8_first)], narrowed := true }
def OverlayDiffsUptoSaid : Prop := overlayDiffsUptoRow.holds Tryd.pinned (OpenSpec.upto overlayDiffsSpec)

/-- 'veneerlaw08.OverlayParts', WHERE WHAT IT READS IS OF BULK AT MOST 1048576: true; the input reads as it did. -/
def overlayPartsUptoRow : OpenClaim := { program := "ytcfegbpoailbdaadoor", sum := "4e1ad9819e145dc4160878dd85c4afba6e047504e802804e01b406dba314e8f4", func := "veneer/veneerlaw08.OverlayParts", spec := "overlayParts", inPlace := ["internal/bytealg.CountString", "internal/bytealg.IndexByteString", "internal/bytealg.IndexString", "internal/abi.NoEscape", "internal/bytealg.MakeNoZero"], unfollowed := true, recurses := true, named := ["unicode/utf8.first", "unicode/utf8.acceptRanges", "internal/bytealg.MaxLen"], apart := false, laid := [("unicode/utf8.acceptRanges", laid_unicode_utf8_acceptRanges), ("unicode/utf8.first", laid_unicode_utf8_first)], narrowed := true }
def OverlayPartsUptoSaid : Prop := overlayPartsUptoRow.holds Tryd.pinned (OpenSpec.upto overlayPartsSpec)

/-- 'veneerlaw08.OverlayTrees', WHERE WHAT IT READS IS OF BULK AT MOST 1048576: true; the input reads as it did. -/
def overlayTreesUptoRow : OpenClaim := { program := "ytcfegbpoailbdaadoor", sum := "4e1ad9819e145dc4160878dd85c4afba6e047504e802804e01b406dba314e8f4", func := "veneer/veneerlaw08.OverlayTrees", spec := "overlayTrees", inPlace := ["internal/bytealg.CountString", "internal/bytealg.IndexByteString", "internal/bytealg.IndexString", "internal/abi.NoEscape", "internal/bytealg.MakeNoZero"], unfollowed := true, recurses := true, named := ["unicode/utf8.first", "unicode/utf8.acceptRanges", "internal/bytealg.MaxLen"], apart := false, laid := [("unicode/utf8.acceptRanges", laid_unicode_utf8_acceptRanges), ("unicode/utf8.first", laid_unicode_utf8_first)], narrowed := true }
def OverlayTreesUptoSaid : Prop := overlayTreesUptoRow.holds Tryd.pinned (OpenSpec.upto overlayTreesSpec)

end Rows
end Go.Proofs.YtcfegbpoailbdaaDoor
