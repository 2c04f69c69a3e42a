import Derived.Test.YtfknpbgneeefjaaDoorPlanT
import Derived.Test.YtfknpbgneeefjaaDoorVcR
import Derived.Test.YtfknpbgneeefjaaDoorVcP
import Derived.Test.YtfknpbgneeefjaaDoorVcX
import Derived.Test.YtfknpbgneeefjaaDoorCards
import Derived.Test.YtfknpbgneeefjaaDoorTie
import Derived.Deep.DeepHandedRow

namespace Go.Proofs.YtfknpbgneeefjaaDoor
open Go.ChangeShapes Go.WideShapes Go.ChangeAt Go.RowKit Go.Vc Go.Sha Go.Trail Go.Packs Go.Plan
set_option linter.unusedVariables false
set_option maxRecDepth 100000

theorem own : ownKnob Tryd.prog.godebug = none := by kernel_rfl
theorem laidOut : laidOutB Tryd.prog = true := by kernel_rfl
def ranges : List Nat := [128, 191, 160, 191, 128, 159, 144, 191, 128, 143] ++ List.replicate 22 0
def layCells (cs : Array Value) : Obj → Obj
  | .cells _ t frozen => .cells cs t frozen
  | o => o
noncomputable def laidWorld (os : Os) : World :=
  { World.holding Tryd.prog os ⟨#[], #[], []⟩ with heap := ((World.holding Tryd.prog os ⟨#[], #[], []⟩).heap.modify ((Tryd.prog.globalNamed "unicode/utf8.acceptRanges").getD 0) (layCells (ranges.map fun n : Nat => Value.int .u8 n).toArray)).modify ((Tryd.prog.globalNamed "unicode/utf8.first").getD 0) (layCells (Pinned.utf8FirstZ.map fun n : Nat => Value.int .u8 n).toArray) }
theorem laid_met (os : Os) (args : Array Value) : laidMet Tryd.prog [("unicode/utf8.acceptRanges", Rows.laid_unicode_utf8_acceptRanges), ("unicode/utf8.first", Rows.laid_unicode_utf8_first)] ((laidWorld os).forCall (fun _ _ => 0) ⟨#[], args, []⟩).memory :=
  laidMet_of_run' 8 (by kernel_rfl) (by kernel_rfl)
theorem maxAt {W : World} (h : W.ShapedOpen Tryd.prog) : Ord.MaxAt W.heap := Tryd.laysM219.s1_3 W h
section
variable {H : Type} {enc : TypeId × Value → H} {W : World} {hd : Bool}
theorem size4 : Tryd.prog.cellsOf 4 = 1 := by kernel_rfl
theorem size9 : Tryd.prog.cellsOf 9 = 1 := by kernel_rfl
theorem size3 : Tryd.prog.cellsOf 3 = 1 := by kernel_rfl
theorem size59 : Tryd.prog.cellsOf 59 = 3 := by kernel_rfl
theorem size23 : Tryd.prog.cellsOf 23 = 1 := by kernel_rfl
theorem size22 : Tryd.prog.cellsOf 22 = 1 := by kernel_rfl
theorem open_ref {m : Nat} {r : List Value} {y : DataW H × List MemPlace} (h : DataW.trod enc Tryd.prog W 0 (fun _ => true) hd m 75 r = some y) : ∃ v : RefV, r = v.cells ∧ v.ok := by
  have hl := trod_len Tryd.underlying75 h
  rw [size75] at hl
  obtain ⟨_, _, h0⟩ := trod_at Tryd.underlying75 h 0 (t' := 73) (o := 0) rfl size73
  obtain ⟨_, _, h1⟩ := trod_at Tryd.underlying75 h 1 (t' := 3) (o := 32) rfl size3
  obtain ⟨s, hs, hsl, hsb⟩ := arr_of Tryd.underlying73 Tryd.underlying5 size5 size73 (by simpa using h0)
  obtain ⟨z, hz, _⟩ := trod_int Tryd.underlying3 h1
  refine ⟨⟨s, z⟩, ?_, hsl, hsb⟩
  have h32 : r.drop 32 = [.int .i64 z] := by
    rw [← hz, List.take_of_length_le]
    rw [List.length_drop, hl]; omega
  unfold RefV.cells sumCells
  rw [← hs, ← h32, List.take_append_drop]
theorem open_refs {m : Nat} {r : List Value} {y : DataW H × List MemPlace} (h : DataW.trod enc Tryd.prog W 0 (fun _ => true) hd m 23 r = some y) : ∃ a l c rs, r = [.slice a l c] ∧ RefsAt W.heap a l c rs := by
  obtain ⟨a, l, c, rows, rfl, t, _, hr⟩ := trod_tab Tryd.underlying23 size75 (by omega) h
  obtain ⟨rs, rfl, hok⟩ := map_of (f := RefV.cells) (Q := RefV.ok) (fun r hr' => let ⟨_, _, h⟩ := hr r hr'; open_ref h)
  exact ⟨a, l, c, rs, rfl, t, hok⟩
theorem open_pack {m : Nat} {r : List Value} {y : DataW H × List MemPlace} (h : DataW.trod enc Tryd.prog W 0 (fun _ => true) hd m 61 r = some y) : ∃ (p : PackV) (d : Hdr), r = p.cells d ∧ p.ok ∧ RefsAt W.heap d.a d.l d.c p.refs := by
  have hl := trod_len Tryd.underlying61 h
  rw [size61] at hl
  match r, hl with
  | [c0, c1, c2, c3], _ =>
    obtain ⟨_, _, h0⟩ := trod_at Tryd.underlying61 h 0 (t' := 3) (o := 0) rfl size3
    obtain ⟨_, _, h1⟩ := trod_at Tryd.underlying61 h 1 (t' := 59) (o := 1) rfl size59
    obtain ⟨o, ho, _⟩ := trod_int Tryd.underlying3 h0
    obtain ⟨_, _, g0⟩ := trod_at Tryd.underlying59 h1 0 (t' := 9) (o := 0) rfl size9
    obtain ⟨_, _, g1⟩ := trod_at Tryd.underlying59 h1 1 (t' := 9) (o := 1) rfl size9
    obtain ⟨_, _, g2⟩ := trod_at Tryd.underlying59 h1 2 (t' := 23) (o := 2) rfl size23
    obtain ⟨nm, hnm, hn⟩ := trod_string_le Tryd.underlying9 g0
    obtain ⟨vr, hvr, hv⟩ := trod_string_le Tryd.underlying9 g1
    obtain ⟨a, l, c, rs, hsl, hr⟩ := open_refs g2
    simp at ho hnm hvr hsl
    subst ho; subst hnm; subst hvr; subst hsl
    exact ⟨⟨o, nm, vr, rs⟩, ⟨a, l, c⟩, rfl, ⟨hn, hv⟩, hr⟩
theorem open_packs {m : Nat} {r : List Value} {y : DataW H × List MemPlace} (h : DataW.trod enc Tryd.prog W 0 (fun _ => true) hd m 22 r = some y) : ∃ (a : Option Addr) (l c : Nat) (ps : List PackV) (ds : List Hdr), r = [.slice a l c] ∧ PacksAt W.heap a l c ps ds ∧ l < 9223372036854775808 := by
  obtain ⟨a, l, c, rows, rfl, t, hll, hr⟩ := trod_tab Tryd.underlying22 size61 (by omega) h
  obtain ⟨ps, ds, rfl, hlen, hok⟩ := zip_of (f := PackV.cells) (Q := fun p d => p.ok ∧ RefsAt W.heap d.a d.l d.c p.refs) (fun r hr' => let ⟨_, _, h⟩ := hr r hr'; open_pack h)
  refine ⟨a, l, c, ps, ds, rfl, ⟨hlen, t, fun i p d hp hd => (hok i p d hp hd).2, fun p hp => ?_⟩, hll⟩
  obtain ⟨i, hi⟩ := List.getElem?_of_mem hp
  have hlt := (List.getElem?_eq_some_iff.1 hi).1
  exact (hok i p _ hi (List.getElem?_eq_getElem (show i < ds.length by omega))).1
theorem open_opc {m : Nat} {r : List Value} {y : DataW H × List MemPlace} (h : DataW.trod enc Tryd.prog W 0 (fun _ => true) hd m 25 r = some y) : ∃ (o : OpV) (d : Hdr), r = OpV.cells o d ∧ OpV.ok o ∧ RefsAt W.heap d.a d.l d.c o.refs := by
  have hl := trod_len Tryd.underlying25 h
  rw [size25] at hl
  match r, hl with
  | [c0, c1, c2, c3, c4], _ =>
    obtain ⟨_, _, h0⟩ := trod_at Tryd.underlying25 h 0 (t' := 3) (o := 0) rfl size3
    obtain ⟨_, _, h1⟩ := trod_at Tryd.underlying25 h 1 (t' := 3) (o := 1) rfl size3
    obtain ⟨_, _, g0⟩ := trod_at Tryd.underlying25 h 2 (t' := 9) (o := 2) rfl size9
    obtain ⟨_, _, g1⟩ := trod_at Tryd.underlying25 h 3 (t' := 9) (o := 3) rfl size9
    obtain ⟨_, _, g2⟩ := trod_at Tryd.underlying25 h 4 (t' := 23) (o := 4) rfl size23
    obtain ⟨k, hk, _⟩ := trod_int Tryd.underlying3 h0
    obtain ⟨q, hq, _⟩ := trod_int Tryd.underlying3 h1
    obtain ⟨nm, hnm, hn⟩ := trod_string_le Tryd.underlying9 g0
    obtain ⟨vr, hvr, hv⟩ := trod_string_le Tryd.underlying9 g1
    obtain ⟨a, l, c, rs, hsl, hr⟩ := open_refs g2
    simp at hk hq hnm hvr hsl
    subst hk; subst hq; subst hnm; subst hvr; subst hsl
    exact ⟨⟨k, q, nm, vr, rs⟩, ⟨a, l, c⟩, rfl, ⟨hn, hv⟩, hr⟩
theorem open_stack {v : Value} {d : DataW H} {ps : List MemPlace} {b0 : Nat} {r : Reach} (hval : Value.okWide Tryd.prog W r b0 22 v) (h : DataW.Trod enc Tryd.prog W 0 (fun _ => true) hd 22 v d ps) :
    ∃ (a : Option Addr) (l c : Nat) (ps : List PackV) (ds : List Hdr), v = .slice a l c ∧ PacksAt W.heap a l c ps ds ∧ l < 9223372036854775808 := by
  obtain ⟨a, l, c, rfl⟩ := okWide_slice Tryd.underlying22 hval
  obtain ⟨fuel, h⟩ := h
  simp only [Value.cells] at h
  obtain ⟨a', l', c', ps', ds, e, hp, hl⟩ := open_packs h
  simp at e
  obtain ⟨rfl, rfl, rfl⟩ := e
  exact ⟨a, l, c, ps', ds, rfl, hp, hl⟩
theorem open_op {v : Value} {d : DataW H} {ps : List MemPlace} {b0 : Nat} {r : Reach} (hval : Value.okWide Tryd.prog W r b0 25 v) (h : DataW.Trod enc Tryd.prog W 0 (fun _ => true) hd 25 v d ps) :
    ∃ (o : OpV) (d : Hdr), v = .agg (opA o d) ∧ OpV.ok o ∧ RefsAt W.heap d.a d.l d.c o.refs := by
  obtain ⟨cs, rfl, _⟩ := okWide_struct Tryd.underlying25 hval
  obtain ⟨fuel, h⟩ := h
  simp only [Value.cells] at h
  obtain ⟨o, d, e, ho, hr⟩ := open_opc h
  obtain ⟨cs⟩ := cs
  simp only at e
  subst e
  exact ⟨o, d, rfl, ho, hr⟩
end
end Go.Proofs.YtfknpbgneeefjaaDoor
