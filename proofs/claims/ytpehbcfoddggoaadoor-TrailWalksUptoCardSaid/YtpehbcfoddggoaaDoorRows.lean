/-
  NARROWER THAN 'FOR EVERY INPUT', by the rows' own cells (each row's printed sentence says how): TrailOrders: laid · TrailOne: laid · TrailNear: laid · TrailCleans: laid · TrailOnce: laid · TrailWalks: laid · TrailTells: laid · TrailUps: laid.
  DERIVED. THE GIVEN ROWS OF THIS SEAT. 8 by the template 'for every input the law returns true; each argument reads behind the call as it read before'; 0 by the template 'total and deterministic' (their statements: YtpehbcfoddggoaaDoorTotals.lean).
  GIVEN WITH THE SEED: the statements are not yours to turn. If you find one false, say at which input.
  Laid BY PROGRAM, IN A SANDBOX (cutbox-rows.mjs): the forced cells as the released guide's own fill.sh prints them over the translation 11611abcc44d73d2… (all of the seat's roots in one cut). By AI agents, Wed Nov 11 2026. No macro, syntax, notation, axiom, sorry.
-/
import Derived.Test.YtpehbcfoddggoaaDoorChecked
import GoSem.PinnedTables
import GoSem.Claim
import GoSem.ClaimJoined
import GoSem.ClaimMapViews
import Derived.JoinedTies
import Derived.KernelRfl
namespace Go.Proofs.YtpehbcfoddggoaaDoor
/- THE CELL 'sum', in the pinned program and in every row, IS THE sha256 OF THE DUMP (.gsa) THAT YtpehbcfoddggoaaDoorProg.lean LOADS. Nothing in Lean hashes anything: it is a label: what it is worth is what the hold of that sum in a sandbox is worth. -/
noncomputable def Tryd.pinned : Pinned := { name := "ytpehbcfoddggoaadoor", sum := "11611abcc44d73d2b317ae337957e95682c5e41b089992dfda5cab1fef02d391", checked := Tryd.checked }
namespace Rows
def none {H : Type} : Left H := { results := [], args := [] }

/- WHAT THE LISTED PACKAGE-LEVEL VARIABLES READ AS WHEN THE CALL BEGINS. Each datum BY PROGRAM (the guide's laid-datum.mjs) off the statement by which the dump's own 'gosem.cut.vars' lays the variable. In a bare row this is a premise. The card (YtpehbcfoddggoaaDoorCards.lean) ties it to the program's text. -/
def laid_unicode_utf8_acceptRanges {H : Type} : DataW H := .agg [.agg [.lit (.int .u8 128), .lit (.int .u8 191)], .agg [.lit (.int .u8 160), .lit (.int .u8 191)], .agg [.lit (.int .u8 128), .lit (.int .u8 159)], .agg [.lit (.int .u8 144), .lit (.int .u8 191)], .agg [.lit (.int .u8 128), .lit (.int .u8 143)], .agg [.lit (.int .u8 0), .lit (.int .u8 0)], .agg [.lit (.int .u8 0), .lit (.int .u8 0)], .agg [.lit (.int .u8 0), .lit (.int .u8 0)], .agg [.lit (.int .u8 0), .lit (.int .u8 0)], .agg [.lit (.int .u8 0), .lit (.int .u8 0)], .agg [.lit (.int .u8 0), .lit (.int .u8 0)], .agg [.lit (.int .u8 0), .lit (.int .u8 0)], .agg [.lit (.int .u8 0), .lit (.int .u8 0)], .agg [.lit (.int .u8 0), .lit (.int .u8 0)], .agg [.lit (.int .u8 0), .lit (.int .u8 0)], .agg [.lit (.int .u8 0), .lit (.int .u8 0)]]
/-- One of Go's own tables, pinned by name: the form's constant. -/
def laid_unicode_utf8_first : DataW Unit := Go.Pinned.utf8First

/-- 'veneerlaw05.TrailOrders': WHATEVER THE INPUT: true; the input reads as it did. -/
def trailOrdersSpec : ChangeSpec := { name := "trailOrders", fn := fun _ => fun
  | [d1, d2] => { results := [.lit (.bool true)], args := [d1, d2] }
  | _ => none }
def trailOrdersRow : OpenClaim := { program := "ytpehbcfoddggoaadoor", sum := "11611abcc44d73d2b317ae337957e95682c5e41b089992dfda5cab1fef02d391", func := "veneer/veneerlaw05.TrailOrders", spec := "trailOrders", inPlace := ["internal/bytealg.CountString", "internal/bytealg.IndexByteString", "internal/bytealg.IndexString", "internal/abi.NoEscape", "internal/bytealg.MakeNoZero"], named := ["unicode/utf8.first", "unicode/utf8.acceptRanges", "internal/bytealg.MaxLen"], apart := false, laid := [("unicode/utf8.acceptRanges", laid_unicode_utf8_acceptRanges), ("unicode/utf8.first", laid_unicode_utf8_first)] }
def TrailOrdersSaid : Prop := trailOrdersRow.holds Tryd.pinned (OpenSpec.ofChange trailOrdersSpec)

/-- ITS FALSE NEIGHBOUR: 'it returns false'. Refute it at one input. -/
def trailOrdersWrong : ChangeSpec := { name := "trailOrders", fn := fun _ => fun
  | [d1, d2] => { results := [.lit (.bool false)], args := [d1, d2] }
  | _ => none }
def TrailOrdersWrongFalsely : Prop := trailOrdersRow.holds Tryd.pinned (OpenSpec.ofChange trailOrdersWrong)

/-- 'veneerlaw05.TrailOne': WHATEVER THE INPUT: true; the input reads as it did. -/
def trailOneSpec : ChangeSpec := { name := "trailOne", fn := fun _ => fun
  | [d1, d2, d3] => { results := [.lit (.bool true)], args := [d1, d2, d3] }
  | _ => none }
def trailOneRow : OpenClaim := { program := "ytpehbcfoddggoaadoor", sum := "11611abcc44d73d2b317ae337957e95682c5e41b089992dfda5cab1fef02d391", func := "veneer/veneerlaw05.TrailOne", spec := "trailOne", inPlace := ["internal/bytealg.CountString", "internal/bytealg.IndexByteString", "internal/bytealg.IndexString", "internal/abi.NoEscape", "internal/bytealg.MakeNoZero"], named := ["unicode/utf8.first", "unicode/utf8.acceptRanges", "internal/bytealg.MaxLen"], apart := false, laid := [("unicode/utf8.acceptRanges", laid_unicode_utf8_acceptRanges), ("unicode/utf8.first", laid_unicode_utf8_first)] }
def TrailOneSaid : Prop := trailOneRow.holds Tryd.pinned (OpenSpec.ofChange trailOneSpec)

/-- ITS FALSE NEIGHBOUR: 'it returns false'. Refute it at one input. -/
def trailOneWrong : ChangeSpec := { name := "trailOne", fn := fun _ => fun
  | [d1, d2, d3] => { results := [.lit (.bool false)], args := [d1, d2, d3] }
  | _ => none }
def TrailOneWrongFalsely : Prop := trailOneRow.holds Tryd.pinned (OpenSpec.ofChange trailOneWrong)

/-- 'veneerlaw05.TrailNear': WHATEVER THE INPUT: true; the input reads as it did. -/
def trailNearSpec : ChangeSpec := { name := "trailNear", fn := fun _ => fun
  | [d1, d2, d3] => { results := [.lit (.bool true)], args := [d1, d2, d3] }
  | _ => none }
def trailNearRow : OpenClaim := { program := "ytpehbcfoddggoaadoor", sum := "11611abcc44d73d2b317ae337957e95682c5e41b089992dfda5cab1fef02d391", func := "veneer/veneerlaw05.TrailNear", spec := "trailNear", inPlace := ["internal/bytealg.CountString", "internal/bytealg.IndexByteString", "internal/bytealg.IndexString", "internal/abi.NoEscape", "internal/bytealg.MakeNoZero"], named := ["unicode/utf8.first", "unicode/utf8.acceptRanges", "internal/bytealg.MaxLen"], apart := false, laid := [("unicode/utf8.acceptRanges", laid_unicode_utf8_acceptRanges), ("unicode/utf8.first", laid_unicode_utf8_first)] }
def TrailNearSaid : Prop := trailNearRow.holds Tryd.pinned (OpenSpec.ofChange trailNearSpec)

/-- ITS FALSE NEIGHBOUR: 'it returns false'. Refute it at one input. -/
def trailNearWrong : ChangeSpec := { name := "trailNear", fn := fun _ => fun
  | [d1, d2, d3] => { results := [.lit (.bool false)], args := [d1, d2, d3] }
  | _ => none }
def TrailNearWrongFalsely : Prop := trailNearRow.holds Tryd.pinned (OpenSpec.ofChange trailNearWrong)

/-- 'veneerlaw05.TrailCleans': WHATEVER THE INPUT: true; the input reads as it did. -/
def trailCleansSpec : ChangeSpec := { name := "trailCleans", fn := fun _ => fun
  | [d1, d2] => { results := [.lit (.bool true)], args := [d1, d2] }
  | _ => none }
def trailCleansRow : OpenClaim := { program := "ytpehbcfoddggoaadoor", sum := "11611abcc44d73d2b317ae337957e95682c5e41b089992dfda5cab1fef02d391", func := "veneer/veneerlaw05.TrailCleans", spec := "trailCleans", inPlace := ["internal/bytealg.CountString", "internal/bytealg.IndexByteString", "internal/bytealg.IndexString", "internal/abi.NoEscape", "internal/bytealg.MakeNoZero"], named := ["unicode/utf8.first", "unicode/utf8.acceptRanges", "internal/bytealg.MaxLen"], apart := false, laid := [("unicode/utf8.acceptRanges", laid_unicode_utf8_acceptRanges), ("unicode/utf8.first", laid_unicode_utf8_first)] }
def TrailCleansSaid : Prop := trailCleansRow.holds Tryd.pinned (OpenSpec.ofChange trailCleansSpec)

/-- ITS FALSE NEIGHBOUR: 'it returns false'. Refute it at one input. -/
def trailCleansWrong : ChangeSpec := { name := "trailCleans", fn := fun _ => fun
  | [d1, d2] => { results := [.lit (.bool false)], args := [d1, d2] }
  | _ => none }
def TrailCleansWrongFalsely : Prop := trailCleansRow.holds Tryd.pinned (OpenSpec.ofChange trailCleansWrong)

/-- 'veneerlaw05.TrailOnce': WHATEVER THE INPUT: true; the input reads as it did. -/
def trailOnceSpec : ChangeSpec := { name := "trailOnce", fn := fun _ => fun
  | [d] => { results := [.lit (.bool true)], args := [d] }
  | _ => none }
def trailOnceRow : OpenClaim := { program := "ytpehbcfoddggoaadoor", sum := "11611abcc44d73d2b317ae337957e95682c5e41b089992dfda5cab1fef02d391", func := "veneer/veneerlaw05.TrailOnce", spec := "trailOnce", inPlace := ["internal/bytealg.CountString", "internal/bytealg.IndexByteString", "internal/bytealg.IndexString", "internal/abi.NoEscape", "internal/bytealg.MakeNoZero"], named := ["unicode/utf8.first", "unicode/utf8.acceptRanges", "internal/bytealg.MaxLen"], apart := false, laid := [("unicode/utf8.acceptRanges", laid_unicode_utf8_acceptRanges), ("unicode/utf8.first", laid_unicode_utf8_first)] }
def TrailOnceSaid : Prop := trailOnceRow.holds Tryd.pinned (OpenSpec.ofChange trailOnceSpec)

/-- ITS FALSE NEIGHBOUR: 'it returns false'. Refute it at one input. -/
def trailOnceWrong : ChangeSpec := { name := "trailOnce", fn := fun _ => fun
  | [d] => { results := [.lit (.bool false)], args := [d] }
  | _ => none }
def TrailOnceWrongFalsely : Prop := trailOnceRow.holds Tryd.pinned (OpenSpec.ofChange trailOnceWrong)

/-- 'veneerlaw05.TrailWalks': WHATEVER THE INPUT: true; the input reads as it did. -/
def trailWalksSpec : ChangeSpec := { name := "trailWalks", fn := fun _ => fun
  | [d1, d2] => { results := [.lit (.bool true)], args := [d1, d2] }
  | _ => none }
def trailWalksRow : OpenClaim := { program := "ytpehbcfoddggoaadoor", sum := "11611abcc44d73d2b317ae337957e95682c5e41b089992dfda5cab1fef02d391", func := "veneer/veneerlaw05.TrailWalks", spec := "trailWalks", inPlace := ["internal/bytealg.CountString", "internal/bytealg.IndexByteString", "internal/bytealg.IndexString", "internal/abi.NoEscape", "internal/bytealg.MakeNoZero"], unfollowed := true, recurses := true, named := ["unicode/utf8.first", "unicode/utf8.acceptRanges", "internal/bytealg.MaxLen"], apart := false, laid := [("unicode/utf8.acceptRanges", laid_unicode_utf8_acceptRanges), ("unicode/utf8.first", laid_unicode_utf8_first)] }
def TrailWalksSaid : Prop := trailWalksRow.holds Tryd.pinned (OpenSpec.ofChange trailWalksSpec)

/-- ITS FALSE NEIGHBOUR: 'it returns false'. Refute it at one input. -/
def trailWalksWrong : ChangeSpec := { name := "trailWalks", fn := fun _ => fun
  | [d1, d2] => { results := [.lit (.bool false)], args := [d1, d2] }
  | _ => none }
def TrailWalksWrongFalsely : Prop := trailWalksRow.holds Tryd.pinned (OpenSpec.ofChange trailWalksWrong)

/-- 'veneerlaw05.TrailTells': WHATEVER THE INPUT: true; the input reads as it did. -/
def trailTellsSpec : ChangeSpec := { name := "trailTells", fn := fun _ => fun
  | [d] => { results := [.lit (.bool true)], args := [d] }
  | _ => none }
def trailTellsRow : OpenClaim := { program := "ytpehbcfoddggoaadoor", sum := "11611abcc44d73d2b317ae337957e95682c5e41b089992dfda5cab1fef02d391", func := "veneer/veneerlaw05.TrailTells", spec := "trailTells", inPlace := ["internal/bytealg.CountString", "internal/bytealg.IndexByteString", "internal/bytealg.IndexString", "internal/abi.NoEscape", "internal/bytealg.MakeNoZero"], named := ["unicode/utf8.first", "unicode/utf8.acceptRanges", "internal/bytealg.MaxLen"], apart := false, laid := [("unicode/utf8.acceptRanges", laid_unicode_utf8_acceptRanges), ("unicode/utf8.first", laid_unicode_utf8_first)] }
def TrailTellsSaid : Prop := trailTellsRow.holds Tryd.pinned (OpenSpec.ofChange trailTellsSpec)

/-- ITS FALSE NEIGHBOUR: 'it returns false'. Refute it at one input. -/
def trailTellsWrong : ChangeSpec := { name := "trailTells", fn := fun _ => fun
  | [d] => { results := [.lit (.bool false)], args := [d] }
  | _ => none }
def TrailTellsWrongFalsely : Prop := trailTellsRow.holds Tryd.pinned (OpenSpec.ofChange trailTellsWrong)

/-- 'veneerlaw05.TrailUps': WHATEVER THE INPUT: true; the input reads as it did. -/
def trailUpsSpec : ChangeSpec := { name := "trailUps", fn := fun _ => fun
  | [d] => { results := [.lit (.bool true)], args := [d] }
  | _ => none }
def trailUpsRow : OpenClaim := { program := "ytpehbcfoddggoaadoor", sum := "11611abcc44d73d2b317ae337957e95682c5e41b089992dfda5cab1fef02d391", func := "veneer/veneerlaw05.TrailUps", spec := "trailUps", inPlace := ["internal/bytealg.CountString", "internal/bytealg.IndexByteString", "internal/bytealg.IndexString", "internal/abi.NoEscape", "internal/bytealg.MakeNoZero"], named := ["unicode/utf8.first", "unicode/utf8.acceptRanges", "internal/bytealg.MaxLen"], apart := false, laid := [("unicode/utf8.acceptRanges", laid_unicode_utf8_acceptRanges), ("unicode/utf8.first", laid_unicode_utf8_first)] }
def TrailUpsSaid : Prop := trailUpsRow.holds Tryd.pinned (OpenSpec.ofChange trailUpsSpec)

/-- ITS FALSE NEIGHBOUR: 'it returns false'. Refute it at one input. -/
def trailUpsWrong : ChangeSpec := { name := "trailUps", fn := fun _ => fun
  | [d] => { results := [.lit (.bool false)], args := [d] }
  | _ => none }
def TrailUpsWrongFalsely : Prop := trailUpsRow.holds Tryd.pinned (OpenSpec.ofChange trailUpsWrong)

/- THE SECOND FORM. 'bulk': how many values and letters a reading holds, each counted each time it is reached (what is shared counts as often as it is met; a slice's spare places count too). A statement '..UptoSaid' is the law's where the arguments, and the package variables that the reading takes, are together of bulk at most 1048576: NARROWER than '..Said'. Prove '..Said' where nothing that the law and all that it calls make is longer than what came in: it says more and counts as full. Else prove '..UptoSaid'. A law counts once. -/
mutual
def uptoBulk {H : Type} : DataW H → Nat
  | .lit (.string bytes) => bytes.length + 1
  | .lit _ => 1
  | .nil => 1
  | .ptr d => uptoBulk d + 1
  | .slice elems spare => uptoBulkAll elems + uptoBulkAll spare + 1
  | .agg parts => uptoBulkAll parts + 1
  | .iface _ d => uptoBulk d + 1
  | .map entries => uptoBulkEntries entries + 1
  | .held _ => 1
def uptoBulkAll {H : Type} : List (DataW H) → Nat
  | [] => 0
  | d :: r => uptoBulk d + uptoBulkAll r
def uptoBulkEntries {H : Type} : List (Lit × DataW H) → Nat
  | [] => 0
  | x :: r => uptoBulkEntry x + uptoBulkEntries r
def uptoBulkEntry {H : Type} : Lit × DataW H → Nat
  | (.string bytes, d) => bytes.length + uptoBulk d + 1
  | (_, d) => uptoBulk d + 1
 end
def uptoSmall : (H : Type) → List (DataW H) → Bool := fun _ ds => decide (uptoBulkAll ds ≤ 1048576)
def OpenSpec.upto (s : _root_.Go.ChangeSpec) : _root_.Go.OpenSpec := { _root_.Go.OpenSpec.ofChange s with cond := some uptoSmall }

/-- 'veneerlaw05.TrailOrders', WHERE WHAT IT READS IS OF BULK AT MOST 1048576: true; the input reads as it did. -/
def trailOrdersUptoRow : OpenClaim := { program := "ytpehbcfoddggoaadoor", sum := "11611abcc44d73d2b317ae337957e95682c5e41b089992dfda5cab1fef02d391", func := "veneer/veneerlaw05.TrailOrders", spec := "trailOrders", inPlace := ["internal/bytealg.CountString", "internal/bytealg.IndexByteString", "internal/bytealg.IndexString", "internal/abi.NoEscape", "internal/bytealg.MakeNoZero"], named := ["unicode/utf8.first", "unicode/utf8.acceptRanges", "internal/bytealg.MaxLen"], apart := false, laid := [("unicode/utf8.acceptRanges", laid_unicode_utf8_acceptRanges), ("unicode/utf8.first", laid_unicode_utf8_first)], narrowed := true }
def TrailOrdersUptoSaid : Prop := trailOrdersUptoRow.holds Tryd.pinned (OpenSpec.upto trailOrdersSpec)

/-- 'veneerlaw05.TrailOne', WHERE WHAT IT READS IS OF BULK AT MOST 1048576: true; the input reads as it did. -/
def trailOneUptoRow : OpenClaim := { program := "ytpehbcfoddggoaadoor", sum := "11611abcc44d73d2b317ae337957e95682c5e41b089992dfda5cab1fef02d391", func := "veneer/veneerlaw05.TrailOne", spec := "trailOne", inPlace := ["internal/bytealg.CountString", "internal/bytealg.IndexByteString", "internal/bytealg.IndexString", "internal/abi.NoEscape", "internal/bytealg.MakeNoZero"], named := ["unicode/utf8.first", "unicode/utf8.acceptRanges", "internal/bytealg.MaxLen"], apart := false, laid := [("unicode/utf8.acceptRanges", laid_unicode_utf8_acceptRanges), ("unicode/utf8.first", laid_unicode_utf8_first)], narrowed := true }
def TrailOneUptoSaid : Prop := trailOneUptoRow.holds Tryd.pinned (OpenSpec.upto trailOneSpec)

/-- 'veneerlaw05.TrailNear', WHERE WHAT IT READS IS OF BULK AT MOST 1048576: true; the input reads as it did. -/
def trailNearUptoRow : OpenClaim := { program := "ytpehbcfoddggoaadoor", sum := "11611abcc44d73d2b317ae337957e95682c5e41b089992dfda5cab1fef02d391", func := "veneer/veneerlaw05.TrailNear", spec := "trailNear", inPlace := ["internal/bytealg.CountString", "internal/bytealg.IndexByteString", "internal/bytealg.IndexString", "internal/abi.NoEscape", "internal/bytealg.MakeNoZero"], named := ["unicode/utf8.first", "unicode/utf8.acceptRanges", "internal/bytealg.MaxLen"], apart := false, laid := [("unicode/utf8.acceptRanges", laid_unicode_utf8_acceptRanges), ("unicode/utf8.first", laid_unicode_utf8_first)], narrowed := true }
def TrailNearUptoSaid : Prop := trailNearUptoRow.holds Tryd.pinned (OpenSpec.upto trailNearSpec)

/-- 'veneerlaw05.TrailCleans', WHERE WHAT IT READS IS OF BULK AT MOST 1048576: true; the input reads as it did. -/
def trailCleansUptoRow : OpenClaim := { program := "ytpehbcfoddggoaadoor", sum := "11611abcc44d73d2b317ae337957e95682c5e41b089992dfda5cab1fef02d391", func := "veneer/veneerlaw05.TrailCleans", spec := "trailCleans", inPlace := ["internal/bytealg.CountString", "internal/bytealg.IndexByteString", "internal/bytealg.IndexString", "internal/abi.NoEscape", "internal/bytealg.MakeNoZero"], named := ["unicode/utf8.first", "unicode/utf8.acceptRanges", "internal/bytealg.MaxLen"], apart := false, laid := [("unicode/utf8.acceptRanges", laid_unicode_utf8_acceptRanges), ("unicode/utf8.first", laid_unicode_utf8_first)], narrowed := true }
def TrailCleansUptoSaid : Prop := trailCleansUptoRow.holds Tryd.pinned (OpenSpec.upto trailCleansSpec)

/-- 'veneerlaw05.TrailOnce', WHERE WHAT IT READS IS OF BULK AT MOST 1048576: true; the input reads as it did. -/
def trailOnceUptoRow : OpenClaim := { program := "ytpehbcfoddggoaadoor", sum := "11611abcc44d73d2b317ae337957e95682c5e41b089992dfda5cab1fef02d391", func := "veneer/veneerlaw05.TrailOnce", spec := "trailOnce", inPlace := ["internal/bytealg.CountString", "internal/bytealg.IndexByteString", "internal/bytealg.IndexString", "internal/abi.NoEscape", "internal/bytealg.MakeNoZero"], named := ["unicode/utf8.first", "unicode/utf8.acceptRanges", "internal/bytealg.MaxLen"], apart := false, laid := [("unicode/utf8.acceptRanges", laid_unicode_utf8_acceptRanges), ("unicode/utf8.first", laid_unicode_utf8_first)], narrowed := true }
def TrailOnceUptoSaid : Prop := trailOnceUptoRow.holds Tryd.pinned (OpenSpec.upto trailOnceSpec)

/-- 'veneerlaw05.TrailWalks', WHERE WHAT IT READS IS OF BULK AT MOST 1048576: true; the input reads as it did. -/
def trailWalksUptoRow : OpenClaim := { program := "ytpehbcfoddggoaadoor", sum := "11611abcc44d73d2b317ae337957e95682c5e41b089992dfda5cab1fef02d391", func := "veneer/veneerlaw05.TrailWalks", spec := "trailWalks", inPlace := ["internal/bytealg.CountString", "internal/bytealg.IndexByteString", "internal/bytealg.IndexString", "internal/abi.NoEscape", "internal/bytealg.MakeNoZero"], unfollowed := true, recurses := true, named := ["unicode/utf8.first", "unicode/utf8.acceptRanges", "internal/bytealg.MaxLen"], apart := false, laid := [("unicode/utf8.acceptRanges", laid_unicode_utf8_acceptRanges), ("unicode/utf8.first", laid_unicode_utf8_first)], narrowed := true }
def TrailWalksUptoSaid : Prop := trailWalksUptoRow.holds Tryd.pinned (OpenSpec.upto trailWalksSpec)

/-- 'veneerlaw05.TrailTells', WHERE WHAT IT READS IS OF BULK AT MOST 1048576: true; the input reads as it did. -/
def trailTellsUptoRow : OpenClaim := { program := "ytpehbcfoddggoaadoor", sum := "11611abcc44d73d2b317ae337957e95682c5e41b089992dfda5cab1fef02d391", func := "veneer/veneerlaw05.TrailTells", spec := "trailTells", inPlace := ["internal/bytealg.CountString", "internal/bytealg.IndexByteString", "internal/bytealg.IndexString", "internal/abi.NoEscape", "internal/bytealg.MakeNoZero"], named := ["unicode/utf8.first", "unicode/utf8.acceptRanges", "internal/bytealg.MaxLen"], apart := false, laid := [("unicode/utf8.acceptRanges", laid_unicode_utf8_acceptRanges), ("unicode/utf8.first", laid_unicode_utf8_first)], narrowed := true }
def TrailTellsUptoSaid : Prop := trailTellsUptoRow.holds Tryd.pinned (OpenSpec.upto trailTellsSpec)

/-- 'veneerlaw05.TrailUps', WHERE WHAT IT READS IS OF BULK AT MOST 1048576: true; the input reads as it did. -/
def trailUpsUptoRow : OpenClaim := { program := "ytpehbcfoddggoaadoor", sum := "11611abcc44d73d2b317ae337957e95682c5e41b089992dfda5cab1fef02d391", func := "veneer/veneerlaw05.TrailUps", spec := "trailUps", inPlace := ["internal/bytealg.CountString", "internal/bytealg.IndexByteString", "internal/bytealg.IndexString", "internal/abi.NoEscape", "internal/bytealg.MakeNoZero"], named := ["unicode/utf8.first", "unicode/utf8.acceptRanges", "internal/bytealg.MaxLen"], apart := false, laid := [("unicode/utf8.acceptRanges", laid_unicode_utf8_acceptRanges), ("unicode/utf8.first", laid_unicode_utf8_first)], narrowed := true }
def TrailUpsUptoSaid : Prop := trailUpsUptoRow.holds Tryd.pinned (OpenSpec.upto trailUpsSpec)

end Rows
end Go.Proofs.YtpehbcfoddggoaaDoor
