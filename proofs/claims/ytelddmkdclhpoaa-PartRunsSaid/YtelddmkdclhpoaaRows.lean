/-
  No cell of these rows narrows 'for every input' (looked for: loops, veiled, ifaces, maps, wideKeys, modest, calm, conditions, laid).
  DERIVED. THE GIVEN ROWS OF THIS SEAT. 6 by the template 'for every input the law returns true; each argument reads behind the call as it read before'; 0 by the template 'total and deterministic' (their statements: YtelddmkdclhpoaaTotals.lean).
  GIVEN WITH THE SEED: the statements are not yours to turn. If you find one false, say at which input.
  Laid BY PROGRAM, IN A SANDBOX (cutbox-rows.mjs): the forced cells as the released guide's own fill.sh prints them over the translation 8100435b0b0f60db… (all of the seat's roots in one cut). By AI agents, Wed Nov 11 2026. No macro, syntax, notation, axiom, sorry.
-/
import Derived.Test.YtelddmkdclhpoaaChecked
import GoSem.Claim
import GoSem.ClaimJoined
import GoSem.ClaimMapViews
import Derived.JoinedTies
import Derived.KernelRfl
namespace Go.Proofs.Ytelddmkdclhpoaa
/- THE CELL 'sum', in the pinned program and in every row, IS THE sha256 OF THE DUMP (.gsa) THAT YtelddmkdclhpoaaProg.lean LOADS. Nothing in Lean hashes anything: it is a label: what it is worth is what the hold of that sum in a sandbox is worth. -/
noncomputable def Try.pinned : Pinned := { name := "ytelddmkdclhpoaa", sum := "8100435b0b0f60db60fc136ad5f738e2d4b79d48420262dd9c84f815dfb5b992", checked := Try.checked }
namespace Rows
def none {H : Type} : Left H := { results := [], args := [] }

/-- 'veneerlaw16.PartTakes': WHATEVER THE INPUT: true; the input reads as it did. -/
def partTakesSpec : ChangeSpec := { name := "partTakes", fn := fun _ => fun
  | [d1, d2] => { results := [.lit (.bool true)], args := [d1, d2] }
  | _ => none }
def partTakesRow : OpenClaim := { program := "ytelddmkdclhpoaa", sum := "8100435b0b0f60db60fc136ad5f738e2d4b79d48420262dd9c84f815dfb5b992", func := "veneer/veneerlaw16.PartTakes", spec := "partTakes", unfollowed := true, recurses := true, plainKeys := false, apart := false }
def PartTakesSaid : Prop := partTakesRow.holds Try.pinned (OpenSpec.ofChange partTakesSpec)

/-- ITS FALSE NEIGHBOUR: 'it returns false'. Refute it at one input. -/
def partTakesWrong : ChangeSpec := { name := "partTakes", fn := fun _ => fun
  | [d1, d2] => { results := [.lit (.bool false)], args := [d1, d2] }
  | _ => none }
def PartTakesWrongFalsely : Prop := partTakesRow.holds Try.pinned (OpenSpec.ofChange partTakesWrong)

/-- 'veneerlaw16.PartTicks': WHATEVER THE INPUT: true; the input reads as it did. -/
def partTicksSpec : ChangeSpec := { name := "partTicks", fn := fun _ => fun
  | [d] => { results := [.lit (.bool true)], args := [d] }
  | _ => none }
def partTicksRow : OpenClaim := { program := "ytelddmkdclhpoaa", sum := "8100435b0b0f60db60fc136ad5f738e2d4b79d48420262dd9c84f815dfb5b992", func := "veneer/veneerlaw16.PartTicks", spec := "partTicks", unfollowed := true, recurses := true, plainKeys := false, apart := false }
def PartTicksSaid : Prop := partTicksRow.holds Try.pinned (OpenSpec.ofChange partTicksSpec)

/-- ITS FALSE NEIGHBOUR: 'it returns false'. Refute it at one input. -/
def partTicksWrong : ChangeSpec := { name := "partTicks", fn := fun _ => fun
  | [d] => { results := [.lit (.bool false)], args := [d] }
  | _ => none }
def PartTicksWrongFalsely : Prop := partTicksRow.holds Try.pinned (OpenSpec.ofChange partTicksWrong)

/-- 'veneerlaw16.PartKeeps': WHATEVER THE INPUT: true; the input reads as it did. -/
def partKeepsSpec : ChangeSpec := { name := "partKeeps", fn := fun _ => fun
  | [d1, d2] => { results := [.lit (.bool true)], args := [d1, d2] }
  | _ => none }
def partKeepsRow : OpenClaim := { program := "ytelddmkdclhpoaa", sum := "8100435b0b0f60db60fc136ad5f738e2d4b79d48420262dd9c84f815dfb5b992", func := "veneer/veneerlaw16.PartKeeps", spec := "partKeeps", unfollowed := true, recurses := true, plainKeys := false, apart := false }
def PartKeepsSaid : Prop := partKeepsRow.holds Try.pinned (OpenSpec.ofChange partKeepsSpec)

/-- ITS FALSE NEIGHBOUR: 'it returns false'. Refute it at one input. -/
def partKeepsWrong : ChangeSpec := { name := "partKeeps", fn := fun _ => fun
  | [d1, d2] => { results := [.lit (.bool false)], args := [d1, d2] }
  | _ => none }
def PartKeepsWrongFalsely : Prop := partKeepsRow.holds Try.pinned (OpenSpec.ofChange partKeepsWrong)

/-- 'veneerlaw16.PartAgain': WHATEVER THE INPUT: true; the input reads as it did. -/
def partAgainSpec : ChangeSpec := { name := "partAgain", fn := fun _ => fun
  | [d1, d2] => { results := [.lit (.bool true)], args := [d1, d2] }
  | _ => none }
def partAgainRow : OpenClaim := { program := "ytelddmkdclhpoaa", sum := "8100435b0b0f60db60fc136ad5f738e2d4b79d48420262dd9c84f815dfb5b992", func := "veneer/veneerlaw16.PartAgain", spec := "partAgain", unfollowed := true, recurses := true, plainKeys := false, apart := false }
def PartAgainSaid : Prop := partAgainRow.holds Try.pinned (OpenSpec.ofChange partAgainSpec)

/-- ITS FALSE NEIGHBOUR: 'it returns false'. Refute it at one input. -/
def partAgainWrong : ChangeSpec := { name := "partAgain", fn := fun _ => fun
  | [d1, d2] => { results := [.lit (.bool false)], args := [d1, d2] }
  | _ => none }
def PartAgainWrongFalsely : Prop := partAgainRow.holds Try.pinned (OpenSpec.ofChange partAgainWrong)

/-- 'veneerlaw16.PartRuns': WHATEVER THE INPUT: true; the input reads as it did. -/
def partRunsSpec : ChangeSpec := { name := "partRuns", fn := fun _ => fun
  | [d1, d2] => { results := [.lit (.bool true)], args := [d1, d2] }
  | _ => none }
def partRunsRow : OpenClaim := { program := "ytelddmkdclhpoaa", sum := "8100435b0b0f60db60fc136ad5f738e2d4b79d48420262dd9c84f815dfb5b992", func := "veneer/veneerlaw16.PartRuns", spec := "partRuns", unfollowed := true, recurses := true, plainKeys := false, apart := false }
def PartRunsSaid : Prop := partRunsRow.holds Try.pinned (OpenSpec.ofChange partRunsSpec)

/-- ITS FALSE NEIGHBOUR: 'it returns false'. Refute it at one input. -/
def partRunsWrong : ChangeSpec := { name := "partRuns", fn := fun _ => fun
  | [d1, d2] => { results := [.lit (.bool false)], args := [d1, d2] }
  | _ => none }
def PartRunsWrongFalsely : Prop := partRunsRow.holds Try.pinned (OpenSpec.ofChange partRunsWrong)

/-- 'veneerlaw16.PartForeign': WHATEVER THE INPUT: true; the input reads as it did. -/
def partForeignSpec : ChangeSpec := { name := "partForeign", fn := fun _ => fun
  | [d1, d2] => { results := [.lit (.bool true)], args := [d1, d2] }
  | _ => none }
def partForeignRow : OpenClaim := { program := "ytelddmkdclhpoaa", sum := "8100435b0b0f60db60fc136ad5f738e2d4b79d48420262dd9c84f815dfb5b992", func := "veneer/veneerlaw16.PartForeign", spec := "partForeign", unfollowed := true, recurses := true, plainKeys := false, apart := false }
def PartForeignSaid : Prop := partForeignRow.holds Try.pinned (OpenSpec.ofChange partForeignSpec)

/-- ITS FALSE NEIGHBOUR: 'it returns false'. Refute it at one input. -/
def partForeignWrong : ChangeSpec := { name := "partForeign", fn := fun _ => fun
  | [d1, d2] => { results := [.lit (.bool false)], args := [d1, d2] }
  | _ => none }
def PartForeignWrongFalsely : Prop := partForeignRow.holds Try.pinned (OpenSpec.ofChange partForeignWrong)

/- THE SECOND FORM. 'bulk': how many values and letters a reading holds, each counted each time it is reached (what is shared counts as often as it is met; a slice's spare places count too). A statement '..UptoSaid' is the law's where the arguments, and the package variables that the reading takes, are together of bulk at most 1048576: NARROWER than '..Said'. Prove '..Said' where nothing that the law and all that it calls make is longer than what came in: it says more and counts as full. Else prove '..UptoSaid'. A law counts once. -/
mutual
def uptoBulk {H : Type} : DataW H → Nat
  | .lit (.string bytes) => bytes.length + 1
  | .lit _ => 1
  | .nil => 1
  | .ptr d => uptoBulk d + 1
  | .slice elems spare => uptoBulkAll elems + uptoBulkAll spare + 1
  | .agg parts => uptoBulkAll parts + 1
  | .iface _ d => uptoBulk d + 1
  | .map entries => uptoBulkEntries entries + 1
  | .held _ => 1
def uptoBulkAll {H : Type} : List (DataW H) → Nat
  | [] => 0
  | d :: r => uptoBulk d + uptoBulkAll r
def uptoBulkEntries {H : Type} : List (Lit × DataW H) → Nat
  | [] => 0
  | x :: r => uptoBulkEntry x + uptoBulkEntries r
def uptoBulkEntry {H : Type} : Lit × DataW H → Nat
  | (.string bytes, d) => bytes.length + uptoBulk d + 1
  | (_, d) => uptoBulk d + 1
 end
def uptoSmall : (H : Type) → List (DataW H) → Bool := fun _ ds => decide (uptoBulkAll ds ≤ 1048576)
def OpenSpec.upto (s : _root_.Go.ChangeSpec) : _root_.Go.OpenSpec := { _root_.Go.OpenSpec.ofChange s with cond := some uptoSmall }

/-- 'veneerlaw16.PartTakes', WHERE WHAT IT READS IS OF BULK AT MOST 1048576: true; the input reads as it did. -/
def partTakesUptoRow : OpenClaim := { program := "ytelddmkdclhpoaa", sum := "8100435b0b0f60db60fc136ad5f738e2d4b79d48420262dd9c84f815dfb5b992", func := "veneer/veneerlaw16.PartTakes", spec := "partTakes", unfollowed := true, recurses := true, plainKeys := false, apart := false, narrowed := true }
def PartTakesUptoSaid : Prop := partTakesUptoRow.holds Try.pinned (OpenSpec.upto partTakesSpec)

/-- 'veneerlaw16.PartTicks', WHERE WHAT IT READS IS OF BULK AT MOST 1048576: true; the input reads as it did. -/
def partTicksUptoRow : OpenClaim := { program := "ytelddmkdclhpoaa", sum := "8100435b0b0f60db60fc136ad5f738e2d4b79d48420262dd9c84f815dfb5b992", func := "veneer/veneerlaw16.PartTicks", spec := "partTicks", unfollowed := true, recurses := true, plainKeys := false, apart := false, narrowed := true }
def PartTicksUptoSaid : Prop := partTicksUptoRow.holds Try.pinned (OpenSpec.upto partTicksSpec)

/-- 'veneerlaw16.PartKeeps', WHERE WHAT IT READS IS OF BULK AT MOST 1048576: true; the input reads as it did. -/
def partKeepsUptoRow : OpenClaim := { program := "ytelddmkdclhpoaa", sum := "8100435b0b0f60db60fc136ad5f738e2d4b79d48420262dd9c84f815dfb5b992", func := "veneer/veneerlaw16.PartKeeps", spec := "partKeeps", unfollowed := true, recurses := true, plainKeys := false, apart := false, narrowed := true }
def PartKeepsUptoSaid : Prop := partKeepsUptoRow.holds Try.pinned (OpenSpec.upto partKeepsSpec)

/-- 'veneerlaw16.PartAgain', WHERE WHAT IT READS IS OF BULK AT MOST 1048576: true; the input reads as it did. -/
def partAgainUptoRow : OpenClaim := { program := "ytelddmkdclhpoaa", sum := "8100435b0b0f60db60fc136ad5f738e2d4b79d48420262dd9c84f815dfb5b992", func := "veneer/veneerlaw16.PartAgain", spec := "partAgain", unfollowed := true, recurses := true, plainKeys := false, apart := false, narrowed := true }
def PartAgainUptoSaid : Prop := partAgainUptoRow.holds Try.pinned (OpenSpec.upto partAgainSpec)

/-- 'veneerlaw16.PartRuns', WHERE WHAT IT READS IS OF BULK AT MOST 1048576: true; the input reads as it did. -/
def partRunsUptoRow : OpenClaim := { program := "ytelddmkdclhpoaa", sum := "8100435b0b0f60db60fc136ad5f738e2d4b79d48420262dd9c84f815dfb5b992", func := "veneer/veneerlaw16.PartRuns", spec := "partRuns", unfollowed := true, recurses := true, plainKeys := false, apart := false, narrowed := true }
def PartRunsUptoSaid : Prop := partRunsUptoRow.holds Try.pinned (OpenSpec.upto partRunsSpec)

/-- 'veneerlaw16.PartForeign', WHERE WHAT IT READS IS OF BULK AT MOST 1048576: true; the input reads as it did. -/
def partForeignUptoRow : OpenClaim := { program := "ytelddmkdclhpoaa", sum := "8100435b0b0f60db60fc136ad5f738e2d4b79d48420262dd9c84f815dfb5b992", func := "veneer/veneerlaw16.PartForeign", spec := "partForeign", unfollowed := true, recurses := true, plainKeys := false, apart := false, narrowed := true }
def PartForeignUptoSaid : Prop := partForeignUptoRow.holds Try.pinned (OpenSpec.upto partForeignSpec)

end Rows
end Go.Proofs.Ytelddmkdclhpoaa
