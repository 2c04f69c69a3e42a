/-
  NARROWER THAN 'FOR EVERY INPUT', by the rows' own cells (each row's printed sentence says how): LayerSorted: laid · LayerChecks: laid · LayerLess: laid · LayerOnly: laid · LayerCuts: laid · LayerCodes: laid · LayerBack: laid.
  DERIVED. THE GIVEN ROWS OF THIS SEAT. 7 by the template 'for every input the law returns true; each argument reads behind the call as it read before'; 0 by the template 'total and deterministic' (their statements: YtnahhdkekchmfaaDoorTotals.lean).
  GIVEN WITH THE SEED: the statements are not yours to turn. If you find one false, say at which input.
  Laid BY PROGRAM, IN A SANDBOX (cutbox-rows.mjs): the forced cells as the released guide's own fill.sh prints them over the translation 0e9daf37c282350d… (all of the seat's roots in one cut). By AI agents, Wed Nov 11 2026. No macro, syntax, notation, axiom, sorry.
-/
import Derived.Test.YtnahhdkekchmfaaDoorChecked
import GoSem.PinnedTables
import GoSem.Claim
import GoSem.ClaimJoined
import GoSem.ClaimMapViews
import Derived.JoinedTies
import Derived.KernelRfl
namespace Go.Proofs.YtnahhdkekchmfaaDoor
/- THE CELL 'sum', in the pinned program and in every row, IS THE sha256 OF THE DUMP (.gsa) THAT YtnahhdkekchmfaaDoorProg.lean LOADS. Nothing in Lean hashes anything: it is a label: what it is worth is what the hold of that sum in a sandbox is worth. -/
noncomputable def Tryd.pinned : Pinned := { name := "ytnahhdkekchmfaadoor", sum := "0e9daf37c282350d9ae4bfa74fdc4d3a3f6d06f250bcf7a6620072559616d060", checked := Tryd.checked }
namespace Rows
def none {H : Type} : Left H := { results := [], args := [] }

/- WHAT THE LISTED PACKAGE-LEVEL VARIABLES READ AS WHEN THE CALL BEGINS. Each datum BY PROGRAM (the guide's laid-datum.mjs) off the statement by which the dump's own 'gosem.cut.vars' lays the variable. In a bare row this is a premise. The card (YtnahhdkekchmfaaDoorCards.lean) ties it to the program's text. -/
def laid_unicode_utf8_acceptRanges {H : Type} : DataW H := .agg [.agg [.lit (.int .u8 128), .lit (.int .u8 191)], .agg [.lit (.int .u8 160), .lit (.int .u8 191)], .agg [.lit (.int .u8 128), .lit (.int .u8 159)], .agg [.lit (.int .u8 144), .lit (.int .u8 191)], .agg [.lit (.int .u8 128), .lit (.int .u8 143)], .agg [.lit (.int .u8 0), .lit (.int .u8 0)], .agg [.lit (.int .u8 0), .lit (.int .u8 0)], .agg [.lit (.int .u8 0), .lit (.int .u8 0)], .agg [.lit (.int .u8 0), .lit (.int .u8 0)], .agg [.lit (.int .u8 0), .lit (.int .u8 0)], .agg [.lit (.int .u8 0), .lit (.int .u8 0)], .agg [.lit (.int .u8 0), .lit (.int .u8 0)], .agg [.lit (.int .u8 0), .lit (.int .u8 0)], .agg [.lit (.int .u8 0), .lit (.int .u8 0)], .agg [.lit (.int .u8 0), .lit (.int .u8 0)], .agg [.lit (.int .u8 0), .lit (.int .u8 0)]]
/-- One of Go's own tables, pinned by name: the form's constant. -/
def laid_unicode_utf8_first : DataW Unit := Go.Pinned.utf8First
def laid_veneer_sha_k {H : Type} : DataW H := .agg [.lit (.int .u32 1116352408), .lit (.int .u32 1899447441), .lit (.int .u32 3049323471), .lit (.int .u32 3921009573), .lit (.int .u32 961987163), .lit (.int .u32 1508970993), .lit (.int .u32 2453635748), .lit (.int .u32 2870763221), .lit (.int .u32 3624381080), .lit (.int .u32 310598401), .lit (.int .u32 607225278), .lit (.int .u32 1426881987), .lit (.int .u32 1925078388), .lit (.int .u32 2162078206), .lit (.int .u32 2614888103), .lit (.int .u32 3248222580), .lit (.int .u32 3835390401), .lit (.int .u32 4022224774), .lit (.int .u32 264347078), .lit (.int .u32 604807628), .lit (.int .u32 770255983), .lit (.int .u32 1249150122), .lit (.int .u32 1555081692), .lit (.int .u32 1996064986), .lit (.int .u32 2554220882), .lit (.int .u32 2821834349), .lit (.int .u32 2952996808), .lit (.int .u32 3210313671), .lit (.int .u32 3336571891), .lit (.int .u32 3584528711), .lit (.int .u32 113926993), .lit (.int .u32 338241895), .lit (.int .u32 666307205), .lit (.int .u32 773529912), .lit (.int .u32 1294757372), .lit (.int .u32 1396182291), .lit (.int .u32 1695183700), .lit (.int .u32 1986661051), .lit (.int .u32 2177026350), .lit (.int .u32 2456956037), .lit (.int .u32 2730485921), .lit (.int .u32 2820302411), .lit (.int .u32 3259730800), .lit (.int .u32 3345764771), .lit (.int .u32 3516065817), .lit (.int .u32 3600352804), .lit (.int .u32 4094571909), .lit (.int .u32 275423344), .lit (.int .u32 430227734), .lit (.int .u32 506948616), .lit (.int .u32 659060556), .lit (.int .u32 883997877), .lit (.int .u32 958139571), .lit (.int .u32 1322822218), .lit (.int .u32 1537002063), .lit (.int .u32 1747873779), .lit (.int .u32 1955562222), .lit (.int .u32 2024104815), .lit (.int .u32 2227730452), .lit (.int .u32 2361852424), .lit (.int .u32 2428436474), .lit (.int .u32 2756734187), .lit (.int .u32 3204031479), .lit (.int .u32 3329325298)]

/-- 'veneerlaw06.LayerSorted': WHATEVER THE INPUT: true; the input reads as it did. -/
def layerSortedSpec : ChangeSpec := { name := "layerSorted", fn := fun _ => fun
  | [d] => { results := [.lit (.bool true)], args := [d] }
  | _ => none }
def layerSortedRow : OpenClaim := { program := "ytnahhdkekchmfaadoor", sum := "0e9daf37c282350d9ae4bfa74fdc4d3a3f6d06f250bcf7a6620072559616d060", func := "veneer/veneerlaw06.LayerSorted", spec := "layerSorted", inPlace := ["internal/bytealg.CountString", "internal/bytealg.IndexByteString", "internal/bytealg.IndexString", "internal/abi.NoEscape", "internal/bytealg.MakeNoZero"], named := ["unicode/utf8.first", "unicode/utf8.acceptRanges", "internal/bytealg.MaxLen"], apart := false, laid := [("unicode/utf8.acceptRanges", laid_unicode_utf8_acceptRanges), ("unicode/utf8.first", laid_unicode_utf8_first)] }
def LayerSortedSaid : Prop := layerSortedRow.holds Tryd.pinned (OpenSpec.ofChange layerSortedSpec)

/-- ITS FALSE NEIGHBOUR: 'it returns false'. Refute it at one input. -/
def layerSortedWrong : ChangeSpec := { name := "layerSorted", fn := fun _ => fun
  | [d] => { results := [.lit (.bool false)], args := [d] }
  | _ => none }
def LayerSortedWrongFalsely : Prop := layerSortedRow.holds Tryd.pinned (OpenSpec.ofChange layerSortedWrong)

/-- 'veneerlaw06.LayerChecks': WHATEVER THE INPUT: true; the input reads as it did. -/
def layerChecksSpec : ChangeSpec := { name := "layerChecks", fn := fun _ => fun
  | [d] => { results := [.lit (.bool true)], args := [d] }
  | _ => none }
def layerChecksRow : OpenClaim := { program := "ytnahhdkekchmfaadoor", sum := "0e9daf37c282350d9ae4bfa74fdc4d3a3f6d06f250bcf7a6620072559616d060", func := "veneer/veneerlaw06.LayerChecks", spec := "layerChecks", inPlace := ["internal/bytealg.CountString", "internal/bytealg.IndexByteString", "internal/bytealg.IndexString", "internal/abi.NoEscape", "internal/bytealg.MakeNoZero"], named := ["unicode/utf8.first", "unicode/utf8.acceptRanges", "internal/bytealg.MaxLen"], apart := false, laid := [("unicode/utf8.acceptRanges", laid_unicode_utf8_acceptRanges), ("unicode/utf8.first", laid_unicode_utf8_first)] }
def LayerChecksSaid : Prop := layerChecksRow.holds Tryd.pinned (OpenSpec.ofChange layerChecksSpec)

/-- ITS FALSE NEIGHBOUR: 'it returns false'. Refute it at one input. -/
def layerChecksWrong : ChangeSpec := { name := "layerChecks", fn := fun _ => fun
  | [d] => { results := [.lit (.bool false)], args := [d] }
  | _ => none }
def LayerChecksWrongFalsely : Prop := layerChecksRow.holds Tryd.pinned (OpenSpec.ofChange layerChecksWrong)

/-- 'veneerlaw06.LayerLess': WHATEVER THE INPUT: true; the input reads as it did. -/
def layerLessSpec : ChangeSpec := { name := "layerLess", fn := fun _ => fun
  | [d1, d2] => { results := [.lit (.bool true)], args := [d1, d2] }
  | _ => none }
def layerLessRow : OpenClaim := { program := "ytnahhdkekchmfaadoor", sum := "0e9daf37c282350d9ae4bfa74fdc4d3a3f6d06f250bcf7a6620072559616d060", func := "veneer/veneerlaw06.LayerLess", spec := "layerLess", inPlace := ["internal/bytealg.CountString", "internal/bytealg.IndexByteString", "internal/bytealg.IndexString", "internal/abi.NoEscape", "internal/bytealg.MakeNoZero"], named := ["unicode/utf8.first", "unicode/utf8.acceptRanges", "internal/bytealg.MaxLen"], apart := false, laid := [("unicode/utf8.acceptRanges", laid_unicode_utf8_acceptRanges), ("unicode/utf8.first", laid_unicode_utf8_first)] }
def LayerLessSaid : Prop := layerLessRow.holds Tryd.pinned (OpenSpec.ofChange layerLessSpec)

/-- ITS FALSE NEIGHBOUR: 'it returns false'. Refute it at one input. -/
def layerLessWrong : ChangeSpec := { name := "layerLess", fn := fun _ => fun
  | [d1, d2] => { results := [.lit (.bool false)], args := [d1, d2] }
  | _ => none }
def LayerLessWrongFalsely : Prop := layerLessRow.holds Tryd.pinned (OpenSpec.ofChange layerLessWrong)

/-- 'veneerlaw06.LayerOnly': WHATEVER THE INPUT: true; the input reads as it did. -/
def layerOnlySpec : ChangeSpec := { name := "layerOnly", fn := fun _ => fun
  | [d] => { results := [.lit (.bool true)], args := [d] }
  | _ => none }
def layerOnlyRow : OpenClaim := { program := "ytnahhdkekchmfaadoor", sum := "0e9daf37c282350d9ae4bfa74fdc4d3a3f6d06f250bcf7a6620072559616d060", func := "veneer/veneerlaw06.LayerOnly", spec := "layerOnly", inPlace := ["internal/bytealg.CountString", "internal/bytealg.IndexByteString", "internal/bytealg.IndexString", "internal/abi.NoEscape", "internal/bytealg.MakeNoZero"], unfollowed := true, recurses := true, named := ["unicode/utf8.first", "unicode/utf8.acceptRanges", "internal/bytealg.MaxLen"], apart := false, laid := [("unicode/utf8.acceptRanges", laid_unicode_utf8_acceptRanges), ("unicode/utf8.first", laid_unicode_utf8_first)] }
def LayerOnlySaid : Prop := layerOnlyRow.holds Tryd.pinned (OpenSpec.ofChange layerOnlySpec)

/-- ITS FALSE NEIGHBOUR: 'it returns false'. Refute it at one input. -/
def layerOnlyWrong : ChangeSpec := { name := "layerOnly", fn := fun _ => fun
  | [d] => { results := [.lit (.bool false)], args := [d] }
  | _ => none }
def LayerOnlyWrongFalsely : Prop := layerOnlyRow.holds Tryd.pinned (OpenSpec.ofChange layerOnlyWrong)

/-- 'veneerlaw06.LayerCuts': WHATEVER THE INPUT: true; the input reads as it did. -/
def layerCutsSpec : ChangeSpec := { name := "layerCuts", fn := fun _ => fun
  | [d1, d2, d3] => { results := [.lit (.bool true)], args := [d1, d2, d3] }
  | _ => none }
def layerCutsRow : OpenClaim := { program := "ytnahhdkekchmfaadoor", sum := "0e9daf37c282350d9ae4bfa74fdc4d3a3f6d06f250bcf7a6620072559616d060", func := "veneer/veneerlaw06.LayerCuts", spec := "layerCuts", inPlace := ["internal/bytealg.CountString", "internal/bytealg.IndexByteString", "internal/bytealg.IndexString", "internal/abi.NoEscape", "internal/bytealg.MakeNoZero"], unfollowed := true, recurses := true, named := ["unicode/utf8.first", "unicode/utf8.acceptRanges", "internal/bytealg.MaxLen"], apart := false, laid := [("unicode/utf8.acceptRanges", laid_unicode_utf8_acceptRanges), ("unicode/utf8.first", laid_unicode_utf8_first)] }
def LayerCutsSaid : Prop := layerCutsRow.holds Tryd.pinned (OpenSpec.ofChange layerCutsSpec)

/-- ITS FALSE NEIGHBOUR: 'it returns false'. Refute it at one input. -/
def layerCutsWrong : ChangeSpec := { name := "layerCuts", fn := fun _ => fun
  | [d1, d2, d3] => { results := [.lit (.bool false)], args := [d1, d2, d3] }
  | _ => none }
def LayerCutsWrongFalsely : Prop := layerCutsRow.holds Tryd.pinned (OpenSpec.ofChange layerCutsWrong)

/-- 'veneerlaw06.LayerCodes': WHATEVER THE INPUT: true; the input reads as it did. -/
def layerCodesSpec : ChangeSpec := { name := "layerCodes", fn := fun _ => fun
  | [d1, d2] => { results := [.lit (.bool true)], args := [d1, d2] }
  | _ => none }
def layerCodesRow : OpenClaim := { program := "ytnahhdkekchmfaadoor", sum := "0e9daf37c282350d9ae4bfa74fdc4d3a3f6d06f250bcf7a6620072559616d060", func := "veneer/veneerlaw06.LayerCodes", spec := "layerCodes", inPlace := ["internal/bytealg.CountString", "internal/bytealg.IndexByteString", "internal/bytealg.IndexString", "internal/abi.NoEscape", "internal/bytealg.MakeNoZero"], unfollowed := true, recurses := true, named := ["unicode/utf8.first", "unicode/utf8.acceptRanges", "internal/bytealg.MaxLen", "veneer/sha.k"], apart := false, laid := [("unicode/utf8.acceptRanges", laid_unicode_utf8_acceptRanges), ("veneer/sha.k", laid_veneer_sha_k), ("unicode/utf8.first", laid_unicode_utf8_first)] }
def LayerCodesSaid : Prop := layerCodesRow.holds Tryd.pinned (OpenSpec.ofChange layerCodesSpec)

/-- ITS FALSE NEIGHBOUR: 'it returns false'. Refute it at one input. -/
def layerCodesWrong : ChangeSpec := { name := "layerCodes", fn := fun _ => fun
  | [d1, d2] => { results := [.lit (.bool false)], args := [d1, d2] }
  | _ => none }
def LayerCodesWrongFalsely : Prop := layerCodesRow.holds Tryd.pinned (OpenSpec.ofChange layerCodesWrong)

/-- 'veneerlaw06.LayerBack': WHATEVER THE INPUT: true; the input reads as it did. -/
def layerBackSpec : ChangeSpec := { name := "layerBack", fn := fun _ => fun
  | [d] => { results := [.lit (.bool true)], args := [d] }
  | _ => none }
def layerBackRow : OpenClaim := { program := "ytnahhdkekchmfaadoor", sum := "0e9daf37c282350d9ae4bfa74fdc4d3a3f6d06f250bcf7a6620072559616d060", func := "veneer/veneerlaw06.LayerBack", spec := "layerBack", inPlace := ["internal/bytealg.CountString", "internal/bytealg.IndexByteString", "internal/bytealg.IndexString", "internal/abi.NoEscape", "internal/bytealg.MakeNoZero"], unfollowed := true, recurses := true, named := ["unicode/utf8.first", "unicode/utf8.acceptRanges", "internal/bytealg.MaxLen", "veneer/sha.k"], apart := false, laid := [("unicode/utf8.acceptRanges", laid_unicode_utf8_acceptRanges), ("veneer/sha.k", laid_veneer_sha_k), ("unicode/utf8.first", laid_unicode_utf8_first)] }
def LayerBackSaid : Prop := layerBackRow.holds Tryd.pinned (OpenSpec.ofChange layerBackSpec)

/-- ITS FALSE NEIGHBOUR: 'it returns false'. Refute it at one input. -/
def layerBackWrong : ChangeSpec := { name := "layerBack", fn := fun _ => fun
  | [d] => { results := [.lit (.bool false)], args := [d] }
  | _ => none }
def LayerBackWrongFalsely : Prop := layerBackRow.holds Tryd.pinned (OpenSpec.ofChange layerBackWrong)

/- THE SECOND FORM. 'bulk': how many values and letters a reading holds, each counted each time it is reached (what is shared counts as often as it is met; a slice's spare places count too). A statement '..UptoSaid' is the law's where the arguments, and the package variables that the reading takes, are together of bulk at most 1048576: NARROWER than '..Said'. Prove '..Said' where nothing that the law and all that it calls make is longer than what came in: it says more and counts as full. Else prove '..UptoSaid'. A law counts once. -/
mutual
def uptoBulk {H : Type} : DataW H → Nat
  | .lit (.string bytes) => bytes.length + 1
  | .lit _ => 1
  | .nil => 1
  | .ptr d => uptoBulk d + 1
  | .slice elems spare => uptoBulkAll elems + uptoBulkAll spare + 1
  | .agg parts => uptoBulkAll parts + 1
  | .iface _ d => uptoBulk d + 1
  | .map entries => uptoBulkEntries entries + 1
  | .held _ => 1
def uptoBulkAll {H : Type} : List (DataW H) → Nat
  | [] => 0
  | d :: r => uptoBulk d + uptoBulkAll r
def uptoBulkEntries {H : Type} : List (Lit × DataW H) → Nat
  | [] => 0
  | x :: r => uptoBulkEntry x + uptoBulkEntries r
def uptoBulkEntry {H : Type} : Lit × DataW H → Nat
  | (.string bytes, d) => bytes.length + uptoBulk d + 1
  | (_, d) => uptoBulk d + 1
 end
def uptoSmall : (H : Type) → List (DataW H) → Bool := fun _ ds => decide (uptoBulkAll ds ≤ 1048576)
def OpenSpec.upto (s : _root_.Go.ChangeSpec) : _root_.Go.OpenSpec := { _root_.Go.OpenSpec.ofChange s with cond := some uptoSmall }

/-- 'veneerlaw06.LayerSorted', WHERE WHAT IT READS IS OF BULK AT MOST 1048576: true; the input reads as it did. -/
def layerSortedUptoRow : OpenClaim := { program := "ytnahhdkekchmfaadoor", sum := "0e9daf37c282350d9ae4bfa74fdc4d3a3f6d06f250bcf7a6620072559616d060", func := "veneer/veneerlaw06.LayerSorted", spec := "layerSorted", inPlace := ["internal/bytealg.CountString", "internal/bytealg.IndexByteString", "internal/bytealg.IndexString", "internal/abi.NoEscape", "internal/bytealg.MakeNoZero"], named := ["unicode/utf8.first", "unicode/utf8.acceptRanges", "internal/bytealg.MaxLen"], apart := false, laid := [("unicode/utf8.acceptRanges", laid_unicode_utf8_acceptRanges), ("unicode/utf8.first", laid_unicode_utf8_first)], narrowed := true }
def LayerSortedUptoSaid : Prop := layerSortedUptoRow.holds Tryd.pinned (OpenSpec.upto layerSortedSpec)

/-- 'veneerlaw06.LayerChecks', WHERE WHAT IT READS IS OF BULK AT MOST 1048576: true; the input reads as it did. -/
def layerChecksUptoRow : OpenClaim := { program := "ytnahhdkekchmfaadoor", sum := "0e9daf37c282350d9ae4bfa74fdc4d3a3f6d06f250bcf7a6620072559616d060", func := "veneer/veneerlaw06.LayerChecks", spec := "layerChecks", inPlace := ["internal/bytealg.CountString", "internal/bytealg.IndexByteString", "internal/bytealg.IndexString", "internal/abi.NoEscape", "internal/bytealg.MakeNoZero"], named := ["unicode/utf8.first", "unicode/utf8.acceptRanges", "internal/bytealg.MaxLen"], apart := false, laid := [("unicode/utf8.acceptRanges", laid_unicode_utf8_acceptRanges), ("unicode/utf8.first", laid_unicode_utf8_first)], narrowed := true }
def LayerChecksUptoSaid : Prop := layerChecksUptoRow.holds Tryd.pinned (OpenSpec.upto layerChecksSpec)

/-- 'veneerlaw06.LayerLess', WHERE WHAT IT READS IS OF BULK AT MOST 1048576: true; the input reads as it did. -/
def layerLessUptoRow : OpenClaim := { program := "ytnahhdkekchmfaadoor", sum := "0e9daf37c282350d9ae4bfa74fdc4d3a3f6d06f250bcf7a6620072559616d060", func := "veneer/veneerlaw06.LayerLess", spec := "layerLess", inPlace := ["internal/bytealg.CountString", "internal/bytealg.IndexByteString", "internal/bytealg.IndexString", "internal/abi.NoEscape", "internal/bytealg.MakeNoZero"], named := ["unicode/utf8.first", "unicode/utf8.acceptRanges", "internal/bytealg.MaxLen"], apart := false, laid := [("unicode/utf8.acceptRanges", laid_unicode_utf8_acceptRanges), ("unicode/utf8.first", laid_unicode_utf8_first)], narrowed := true }
def LayerLessUptoSaid : Prop := layerLessUptoRow.holds Tryd.pinned (OpenSpec.upto layerLessSpec)

/-- 'veneerlaw06.LayerOnly', WHERE WHAT IT READS IS OF BULK AT MOST 1048576: true; the input reads as it did. -/
def layerOnlyUptoRow : OpenClaim := { program := "ytnahhdkekchmfaadoor", sum := "0e9daf37c282350d9ae4bfa74fdc4d3a3f6d06f250bcf7a6620072559616d060", func := "veneer/veneerlaw06.LayerOnly", spec := "layerOnly", inPlace := ["internal/bytealg.CountString", "internal/bytealg.IndexByteString", "internal/bytealg.IndexString", "internal/abi.NoEscape", "internal/bytealg.MakeNoZero"], unfollowed := true, recurses := true, named := ["unicode/utf8.first", "unicode/utf8.acceptRanges", "internal/bytealg.MaxLen"], apart := false, laid := [("unicode/utf8.acceptRanges", laid_unicode_utf8_acceptRanges), ("unicode/utf8.first", laid_unicode_utf8_first)], narrowed := true }
def LayerOnlyUptoSaid : Prop := layerOnlyUptoRow.holds Tryd.pinned (OpenSpec.upto layerOnlySpec)

/-- 'veneerlaw06.LayerCuts', WHERE WHAT IT READS IS OF BULK AT MOST 1048576: true; the input reads as it did. -/
def layerCutsUptoRow : OpenClaim := { program := "ytnahhdkekchmfaadoor", sum := "0e9daf37c282350d9ae4bfa74fdc4d3a3f6d06f250bcf7a6620072559616d060", func := "veneer/veneerlaw06.LayerCuts", spec := "layerCuts", inPlace := ["internal/bytealg.CountString", "internal/bytealg.IndexByteString", "internal/bytealg.IndexString", "internal/abi.NoEscape", "internal/bytealg.MakeNoZero"], unfollowed := true, recurses := true, named := ["unicode/utf8.first", "unicode/utf8.acceptRanges", "internal/bytealg.MaxLen"], apart := false, laid := [("unicode/utf8.acceptRanges", laid_unicode_utf8_acceptRanges), ("unicode/utf8.first", laid_unicode_utf8_first)], narrowed := true }
def LayerCutsUptoSaid : Prop := layerCutsUptoRow.holds Tryd.pinned (OpenSpec.upto layerCutsSpec)

/-- 'veneerlaw06.LayerCodes', WHERE WHAT IT READS IS OF BULK AT MOST 1048576: true; the input reads as it did. -/
def layerCodesUptoRow : OpenClaim := { program := "ytnahhdkekchmfaadoor", sum := "0e9daf37c282350d9ae4bfa74fdc4d3a3f6d06f250bcf7a6620072559616d060", func := "veneer/veneerlaw06.LayerCodes", spec := "layerCodes", inPlace := ["internal/bytealg.CountString", "internal/bytealg.IndexByteString", "internal/bytealg.IndexString", "internal/abi.NoEscape", "internal/bytealg.MakeNoZero"], unfollowed := true, recurses := true, named := ["unicode/utf8.first", "unicode/utf8.acceptRanges", "internal/bytealg.MaxLen", "veneer/sha.k"], apart := false, laid := [("unicode/utf8.acceptRanges", laid_unicode_utf8_acceptRanges), ("veneer/sha.k", laid_veneer_sha_k), ("unicode/utf8.first", laid_unicode_utf8_first)], narrowed := true }
def LayerCodesUptoSaid : Prop := layerCodesUptoRow.holds Tryd.pinned (OpenSpec.upto layerCodesSpec)

/-- 'veneerlaw06.LayerBack', WHERE WHAT IT READS IS OF BULK AT MOST 1048576: true; the input reads as it did. -/
def layerBackUptoRow : OpenClaim := { program := "ytnahhdkekchmfaadoor", sum := "0e9daf37c282350d9ae4bfa74fdc4d3a3f6d06f250bcf7a6620072559616d060", func := "veneer/veneerlaw06.LayerBack", spec := "layerBack", inPlace := ["internal/bytealg.CountString", "internal/bytealg.IndexByteString", "internal/bytealg.IndexString", "internal/abi.NoEscape", "internal/bytealg.MakeNoZero"], unfollowed := true, recurses := true, named := ["unicode/utf8.first", "unicode/utf8.acceptRanges", "internal/bytealg.MaxLen", "veneer/sha.k"], apart := false, laid := [("unicode/utf8.acceptRanges", laid_unicode_utf8_acceptRanges), ("veneer/sha.k", laid_veneer_sha_k), ("unicode/utf8.first", laid_unicode_utf8_first)], narrowed := true }
def LayerBackUptoSaid : Prop := layerBackUptoRow.holds Tryd.pinned (OpenSpec.upto layerBackSpec)

end Rows
end Go.Proofs.YtnahhdkekchmfaaDoor
