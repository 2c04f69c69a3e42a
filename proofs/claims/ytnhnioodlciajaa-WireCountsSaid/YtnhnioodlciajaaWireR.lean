import Derived.Test.YtnhnioodlciajaaWireN
import Derived.Test.YtnhnioodlciajaaVcX
import Derived.Test.YtnhnioodlciajaaVcR
import Derived.Test.YtnhnioodlciajaaRows
import Derived.Deep.DeepHandedRow

namespace Go.Proofs.Ytnhnioodlciajaa
open Go.Vc Go.Sha Go.Trail Go.Packs Go.Wire Go.ChangeShapes Go.WideShapes Go.ChangeAt Go.RowKit
set_option linter.unusedVariables false
set_option maxRecDepth 100000
variable {H : Type} {enc : TypeId × Value → H} {W : World} {hd : Bool}

theorem size84 : Try.prog.cellsOf 84 = 32 := by kernel_rfl
theorem size5 : Try.prog.cellsOf 5 = 1 := by kernel_rfl
theorem size4 : Try.prog.cellsOf 4 = 1 := by kernel_rfl
theorem size9 : Try.prog.cellsOf 9 = 1 := by kernel_rfl
theorem size66 : Try.prog.cellsOf 66 = 3 := by kernel_rfl
theorem size64 : Try.prog.cellsOf 64 = 1 := by kernel_rfl
theorem size22 : Try.prog.cellsOf 22 = 1 := by kernel_rfl

theorem open_ref {m : Nat} {r : List Value} {y : DataW H × List MemPlace} (h : DataW.trod enc Try.prog W 0 (fun _ => true) hd m 86 r = some y) : ∃ v : RefV, r = v.cells ∧ v.ok := by
  have hl := trod_len Try.underlying86 h
  rw [size86] at hl
  obtain ⟨_, _, h0⟩ := trod_at Try.underlying86 h 0 (t' := 84) (o := 0) rfl size84
  obtain ⟨_, _, h1⟩ := trod_at Try.underlying86 h 1 (t' := 3) (o := 32) rfl size3
  obtain ⟨s, hs, hsl, hsb⟩ := arr_of Try.underlying84 Try.underlying5 size5 size84 (by simpa using h0)
  obtain ⟨z, hz, _⟩ := trod_int Try.underlying3 h1
  refine ⟨⟨s, z⟩, ?_, hsl, hsb⟩
  have h32 : r.drop 32 = [.int .i64 z] := by
    rw [← hz, List.take_of_length_le]
    rw [List.length_drop, hl]; omega
  unfold RefV.cells sumCells
  rw [← hs, ← h32, List.take_append_drop]
theorem open_refs {m : Nat} {r : List Value} {y : DataW H × List MemPlace} (h : DataW.trod enc Try.prog W 0 (fun _ => true) hd m 64 r = some y) : ∃ a l c rs, r = [.slice a l c] ∧ RefsAt W.heap a l c rs := by
  obtain ⟨a, l, c, rows, rfl, t, _, hr⟩ := trod_tab Try.underlying64 size86 (by omega) h
  obtain ⟨rs, rfl, hok⟩ := map_of (f := RefV.cells) (Q := RefV.ok) (fun r hr' => let ⟨_, _, h⟩ := hr r hr'; open_ref h)
  exact ⟨a, l, c, rs, rfl, t, hok⟩
theorem open_pack {m : Nat} {r : List Value} {y : DataW H × List MemPlace} (h : DataW.trod enc Try.prog W 0 (fun _ => true) hd m 68 r = some y) : ∃ (p : PackV) (d : Hdr), r = p.cells d ∧ p.ok ∧ RefsAt W.heap d.a d.l d.c p.refs := by
  have hl := trod_len Try.underlying68 h
  rw [size68] at hl
  match r, hl with
  | [c0, c1, c2, c3], _ =>
    obtain ⟨_, _, h0⟩ := trod_at Try.underlying68 h 0 (t' := 3) (o := 0) rfl size3
    obtain ⟨_, _, h1⟩ := trod_at Try.underlying68 h 1 (t' := 66) (o := 1) rfl size66
    obtain ⟨o, ho, _⟩ := trod_int Try.underlying3 h0
    obtain ⟨_, _, g0⟩ := trod_at Try.underlying66 h1 0 (t' := 9) (o := 0) rfl size9
    obtain ⟨_, _, g1⟩ := trod_at Try.underlying66 h1 1 (t' := 9) (o := 1) rfl size9
    obtain ⟨_, _, g2⟩ := trod_at Try.underlying66 h1 2 (t' := 64) (o := 2) rfl size64
    obtain ⟨nm, hnm, hn⟩ := trod_string_le Try.underlying9 g0
    obtain ⟨vr, hvr, hv⟩ := trod_string_le Try.underlying9 g1
    obtain ⟨a, l, c, rs, hsl, hr⟩ := open_refs g2
    simp at ho hnm hvr hsl
    subst ho; subst hnm; subst hvr; subst hsl
    exact ⟨⟨o, nm, vr, rs⟩, ⟨a, l, c⟩, rfl, ⟨hn, hv⟩, hr⟩
theorem open_packs {m : Nat} {r : List Value} {y : DataW H × List MemPlace} (h : DataW.trod enc Try.prog W 0 (fun _ => true) hd m 22 r = some y) : ∃ (a : Option Addr) (l c : Nat) (ps : List PackV) (ds : List Hdr), r = [.slice a l c] ∧ PacksAt W.heap a l c ps ds := by
  obtain ⟨a, l, c, rows, rfl, t, _, hr⟩ := trod_tab Try.underlying22 size68 (by omega) h
  obtain ⟨ps, ds, rfl, hlen, hok⟩ := zip_of (f := PackV.cells) (Q := fun p d => p.ok ∧ RefsAt W.heap d.a d.l d.c p.refs) (fun r hr' => let ⟨_, _, h⟩ := hr r hr'; open_pack h)
  refine ⟨a, l, c, ps, ds, rfl, hlen, t, fun i p d hp hd => (hok i p d hp hd).2, fun p hp => ?_⟩
  obtain ⟨i, hi⟩ := List.getElem?_of_mem hp
  have hlt := (List.getElem?_eq_some_iff.1 hi).1
  exact (hok i p _ hi (List.getElem?_eq_getElem (show i < ds.length by omega))).1
theorem open_msgcells {m : Nat} {r : List Value} {y : DataW H × List MemPlace} (h : DataW.trod enc Try.prog W 0 (fun _ => true) hd m 24 r = some y) : ∃ (m : MsgV) (e : Hdr) (es : List Hdr), r = msgCells m e ∧ PacksAt W.heap e.a e.l e.c m.packs es := by
  have hl := trod_len Try.underlying24 h
  rw [size24] at hl
  match r, hl with
  | [c0, c1, c2, c3, c4, c5], _ =>
    obtain ⟨_, _, h0⟩ := trod_at Try.underlying24 h 0 (t' := 3) (o := 0) rfl size3
    obtain ⟨_, _, h1⟩ := trod_at Try.underlying24 h 1 (t' := 3) (o := 1) rfl size3
    obtain ⟨_, _, h2⟩ := trod_at Try.underlying24 h 2 (t' := 3) (o := 2) rfl size3
    obtain ⟨_, _, h3⟩ := trod_at Try.underlying24 h 3 (t' := 3) (o := 3) rfl size3
    obtain ⟨_, _, h4⟩ := trod_at Try.underlying24 h 4 (t' := 4) (o := 4) rfl size4
    obtain ⟨_, _, h5⟩ := trod_at Try.underlying24 h 5 (t' := 22) (o := 5) rfl size22
    obtain ⟨z0, e0, _⟩ := trod_int Try.underlying3 h0
    obtain ⟨z1, e1, _⟩ := trod_int Try.underlying3 h1
    obtain ⟨z2, e2, _⟩ := trod_int Try.underlying3 h2
    obtain ⟨z3, e3, _⟩ := trod_int Try.underlying3 h3
    obtain ⟨b4, e4⟩ := trod_bool Try.underlying4 h4
    obtain ⟨a, l, c, ps, ds, e5, hp⟩ := open_packs h5
    simp at e0 e1 e2 e3 e4 e5
    subst e0; subst e1; subst e2; subst e3; subst e4; subst e5
    exact ⟨⟨z0, z1, z2, z3, b4, ps⟩, ⟨a, l, c⟩, ds, rfl, hp⟩
theorem open_msg {v : Value} {d : DataW H} {ps : List MemPlace} {b0 : Nat} {r : Reach} (hval : Value.okWide Try.prog W r b0 24 v) (h : DataW.Trod enc Try.prog W 0 (fun _ => true) hd 24 v d ps) : ∃ (m : MsgV) (e : Hdr) (es : List Hdr), v = .agg (msgCells m e).toArray ∧ PacksAt W.heap e.a e.l e.c m.packs es := by
  obtain ⟨cs, rfl, _⟩ := okWide_struct Try.underlying24 hval
  obtain ⟨fuel, h⟩ := h
  simp only [Value.cells] at h
  have hl := trod_len Try.underlying24 h
  rw [size24] at hl
  obtain ⟨cs⟩ := cs
  simp only [] at h hl
  match cs, hl with
  | [c0, c1, c2, c3, c4, c5], _ =>
    obtain ⟨_, _, h0⟩ := trod_at Try.underlying24 h 0 (t' := 3) (o := 0) rfl size3
    obtain ⟨_, _, h1⟩ := trod_at Try.underlying24 h 1 (t' := 3) (o := 1) rfl size3
    obtain ⟨_, _, h2⟩ := trod_at Try.underlying24 h 2 (t' := 3) (o := 2) rfl size3
    obtain ⟨_, _, h3⟩ := trod_at Try.underlying24 h 3 (t' := 3) (o := 3) rfl size3
    obtain ⟨_, _, h4⟩ := trod_at Try.underlying24 h 4 (t' := 4) (o := 4) rfl size4
    obtain ⟨_, _, h5⟩ := trod_at Try.underlying24 h 5 (t' := 22) (o := 5) rfl size22
    obtain ⟨z0, e0, _⟩ := trod_int Try.underlying3 h0
    obtain ⟨z1, e1, _⟩ := trod_int Try.underlying3 h1
    obtain ⟨z2, e2, _⟩ := trod_int Try.underlying3 h2
    obtain ⟨z3, e3, _⟩ := trod_int Try.underlying3 h3
    obtain ⟨b4, e4⟩ := trod_bool Try.underlying4 h4
    obtain ⟨a, l, c, ps, ds, e5, hp⟩ := open_packs h5
    simp at e0 e1 e2 e3 e4 e5
    subst e0; subst e1; subst e2; subst e3; subst e4; subst e5
    exact ⟨⟨z0, z1, z2, z3, b4, ps⟩, ⟨a, l, c⟩, ds, rfl, hp⟩

theorem own : ownKnob Try.prog.godebug = none := by kernel_rfl
theorem laidOut : laidOutB Try.prog = true := by kernel_rfl
end Go.Proofs.Ytnhnioodlciajaa
