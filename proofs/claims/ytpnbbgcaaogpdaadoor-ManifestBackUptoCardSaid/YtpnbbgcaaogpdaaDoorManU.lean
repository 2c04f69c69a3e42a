import Derived.Test.YtpnbbgcaaogpdaaDoorManK
import Derived.Test.YtpnbbgcaaogpdaaDoorVcR
import Derived.Test.YtpnbbgcaaogpdaaDoorVcP
import Derived.Test.YtpnbbgcaaogpdaaDoorVcX
import Derived.Test.YtpnbbgcaaogpdaaDoorCards
import Derived.Test.YtpnbbgcaaogpdaaDoorTie
import Derived.Deep.DeepHandedRow

namespace Go.Proofs.YtpnbbgcaaogpdaaDoor
open Go.ChangeShapes Go.WideShapes Go.ChangeAt Go.RowKit Go.Vc Go.Sha
set_option linter.unusedVariables false
set_option maxRecDepth 100000

theorem own : ownKnob Tryd.prog.godebug = none := by kernel_rfl
theorem laidOut : laidOutB Tryd.prog = true := by kernel_rfl
def ranges : List Nat := [128, 191, 160, 191, 128, 159, 144, 191, 128, 143] ++ List.replicate 22 0
def layCells (cs : Array Value) : Obj → Obj
  | .cells _ t frozen => .cells cs t frozen
  | o => o
noncomputable def laidWorld (os : Os) : World :=
  { World.holding Tryd.prog os ⟨#[], #[], []⟩ with heap := ((World.holding Tryd.prog os ⟨#[], #[], []⟩).heap.modify ((Tryd.prog.globalNamed "unicode/utf8.acceptRanges").getD 0) (layCells (ranges.map fun n : Nat => Value.int .u8 n).toArray)).modify ((Tryd.prog.globalNamed "unicode/utf8.first").getD 0) (layCells (Pinned.utf8FirstZ.map fun n : Nat => Value.int .u8 n).toArray) }
theorem laid_met (os : Os) (args : Array Value) : laidMet Tryd.prog [("unicode/utf8.acceptRanges", Rows.laid_unicode_utf8_acceptRanges), ("unicode/utf8.first", Rows.laid_unicode_utf8_first)] ((laidWorld os).forCall (fun _ _ => 0) ⟨#[], args, []⟩).memory :=
  laidMet_of_run' 8 (by kernel_rfl) (by kernel_rfl)
theorem maxAt {W : World} (h : W.ShapedOpen Tryd.prog) : MaxAt W.heap := Tryd.laysM138.s1_3 W h
theorem bulk_one {H : Type} (d : DataW H) : 1 ≤ Rows.uptoBulk d := by
  unfold Rows.uptoBulk; split <;> omega
theorem bulk_at {H : Type} : ∀ {l : List (DataW H)} (i : Nat) {d : DataW H}, l[i]? = some d → Rows.uptoBulk d ≤ Rows.uptoBulkAll l
  | [], i, d, h => by simp at h
  | x :: r, 0, d, h => by
    simp at h; subst h
    unfold Rows.uptoBulkAll; omega
  | x :: r, i + 1, d, h => by
    have := bulk_at (l := r) i (by simpa using h)
    unfold Rows.uptoBulkAll; omega
theorem bulk_len {H : Type} : ∀ l : List (DataW H), l.length ≤ Rows.uptoBulkAll l
  | [] => Nat.zero_le _
  | x :: r => by
    have := bulk_len r
    have := bulk_one x
    unfold Rows.uptoBulkAll
    simp only [List.length_cons]; omega
theorem bulk_bound {H : Type} {l : List (DataW H)} (hk : Rows.uptoSmall H (l ++ []) = true) : Rows.uptoBulkAll l ≤ 1048576 := by
  rw [List.append_nil] at hk
  exact of_decide_eq_true hk
theorem bulk_bytes {H : Type} {h : Heap} {a : Option Addr} {l c : Nat} {bs : List Nat} {d : DataW H} (i : InB h a l c bs) (e : (d = .nil ∧ bs = []) ∨ ∃ els sp, d = .slice els sp ∧ els.length = l ∧ els.length + sp.length = c) : bs.length ≤ Rows.uptoBulk d := by
  rcases e with ⟨_, rfl⟩ | ⟨els, sp, rfl, h1, h2⟩
  · exact Nat.zero_le _
  · have := bulk_len els
    have := i.len
    unfold Rows.uptoBulk; omega
theorem bulk_string {H : Type} (s : ByteArray) : s.size ≤ Rows.uptoBulk (DataW.lit (H := H) (.string s.data.toList)) := by
  unfold Rows.uptoBulk
  show s.data.size ≤ _
  simp
theorem bulk_mem {H : Type} {l : List (DataW H)} {d : DataW H} (h : d ∈ l) : Rows.uptoBulk d ≤ Rows.uptoBulkAll l := by
  obtain ⟨i, hi⟩ := List.getElem?_of_mem h
  exact bulk_at i hi
theorem bulk_slice {H : Type} {els rest : List (DataW H)} {d : DataW H} (h : d ∈ els) : Rows.uptoBulk d ≤ Rows.uptoBulk (DataW.slice els rest) := by
  have := bulk_mem h
  conv => rhs; unfold Rows.uptoBulk
  omega
theorem bulk_agg {H : Type} {parts : List (DataW H)} {d : DataW H} (h : d ∈ parts) : Rows.uptoBulk d ≤ Rows.uptoBulk (DataW.agg parts) := by
  have := bulk_mem h
  conv => rhs; unfold Rows.uptoBulk
  omega
section
variable {H : Type} {enc : TypeId × Value → H} {W : World} {hd : Bool}
theorem size54 : Tryd.prog.cellsOf 54 = 33 := by kernel_rfl
theorem size48 : Tryd.prog.cellsOf 48 = 32 := by kernel_rfl
theorem size5 : Tryd.prog.cellsOf 5 = 1 := by kernel_rfl
theorem size9 : Tryd.prog.cellsOf 9 = 1 := by kernel_rfl
theorem size3 : Tryd.prog.cellsOf 3 = 1 := by kernel_rfl
theorem size22 : Tryd.prog.cellsOf 22 = 1 := by kernel_rfl
theorem size24 : Tryd.prog.cellsOf 24 = 3 := by kernel_rfl
theorem tab_long {t e : TypeId} {fuel : Nat} {cs : List Value} {x : DataW H × List MemPlace} (ht : Tryd.prog.underlying t = some (.slice e)) (h : DataW.trod enc Tryd.prog W 0 (fun _ => true) hd fuel t cs = some x) :
    ∃ a l c, cs = [.slice a l c] ∧ l ≤ Rows.uptoBulk x.1 := by
  rcases Deep.open_slice ht h with ⟨rfl, _⟩ | ⟨a, l, c, m, q, D, Pl, rfl, _, hl, hm, hmm, hx, hel⟩
  · exact ⟨none, 0, 0, rfl, Nat.zero_le _⟩
  · refine ⟨some a, l, c, rfl, ?_⟩
    rw [hx]
    have hb := bulk_len ((List.range l).map D)
    simp only [List.length_map, List.length_range] at hb
    conv => rhs; unfold Rows.uptoBulk
    omega
theorem open_ref {m : Nat} {r : List Value} {y : DataW H × List MemPlace} (h : DataW.trod enc Tryd.prog W 0 (fun _ => true) hd m 54 r = some y) :
    ∃ e : RefV, r = refC e ∧ e.1.length = 32 ∧ (∀ x ∈ e.1, x < 256) ∧ -9223372036854775808 ≤ e.2 ∧ e.2 < 9223372036854775808 := by
  have hl := trod_len Tryd.underlying54 h
  rw [size54] at hl
  obtain ⟨_, _, h0⟩ := trod_at Tryd.underlying54 h 0 (t' := 48) (o := 0) rfl size48
  obtain ⟨_, _, h1⟩ := trod_at Tryd.underlying54 h 1 (t' := 3) (o := 32) rfl size3
  obtain ⟨s, es, sl, s256⟩ := arr_of Tryd.underlying48 Tryd.underlying5 size5 size48 h0
  obtain ⟨z, ez, wz⟩ := trod_int Tryd.underlying3 h1
  simp only [Lit.wf, IntKind.min, IntKind.max, IntKind.signed, IntKind.bits] at wz
  refine ⟨(s, z), ?_, sl, s256, ?_, ?_⟩
  · unfold refC
    simp only
    rw [List.drop_zero] at es
    rw [← es, ← ez]
    conv => lhs; rw [← List.take_append_drop 32 r]
    congr 1
    rw [List.take_of_length_le (by rw [List.length_drop]; omega)]
  · simp at wz; show _ ≤ z; omega
  · simp at wz; show z < _; omega
theorem open_man {v : Value} {d : DataW H} {ps : List MemPlace} {b0 : Nat} {r : Reach} (hval : Value.okWide Tryd.prog W r b0 24 v) (h : DataW.Trod enc Tryd.prog W 0 (fun _ => true) hd 24 v d ps) (hb : Rows.uptoBulk d ≤ 1048576) :
    ∃ (m : ManV) (a : Option Addr) (l c : Nat), v = .agg (manA m a l c) ∧ Tab 33 W.heap a l c (rowsR m.refs) ∧ Big m ∧ l ≤ 1048576 := by
  obtain ⟨cs, rfl, _⟩ := okWide_struct Tryd.underlying24 hval
  obtain ⟨fuel, h⟩ := h
  simp only [Value.cells] at h
  have hl := trod_len Tryd.underlying24 h
  rw [size24] at hl
  obtain ⟨cs⟩ := cs
  simp only [] at h hl
  match cs, hl with
  | [c0, c1, c2], _ =>
    obtain ⟨_, y0, h0, p0, e0, m0⟩ := trod_atD Tryd.underlying24 h 0 (t' := 9) (o := 0) rfl size9
    obtain ⟨_, y1, h1, p1, e1, m1⟩ := trod_atD Tryd.underlying24 h 1 (t' := 9) (o := 1) rfl size9
    obtain ⟨_, y2, h2, p2, e2, m2⟩ := trod_atD Tryd.underlying24 h 2 (t' := 22) (o := 2) rfl size22
    obtain ⟨s0, g0, d0⟩ := trod_stringD Tryd.underlying9 h0
    obtain ⟨s1, g1, d1⟩ := trod_stringD Tryd.underlying9 h1
    have b0 := bulk_agg m0
    have b1 := bulk_agg m1
    have b2 := bulk_agg m2
    simp only at e0 e1 e2
    rw [← e0, d0] at b0
    rw [← e1, d1] at b1
    rw [← e2] at b2
    have := bulk_string (H := H) s0
    have := bulk_string (H := H) s1
    obtain ⟨a, l, c, rows, g2, t, _, hr⟩ := trod_tabD Tryd.underlying22 size54 (by omega) h2
    obtain ⟨a', l', c', g2', hlong⟩ := tab_long Tryd.underlying22 h2
    rw [g2] at g2'
    simp at g2'
    obtain ⟨rfl, rfl, rfl⟩ := g2'
    obtain ⟨rs, rfl, hrs⟩ := map_of (f := refC) (Q := fun e => e.1.length = 32 ∧ (∀ x ∈ e.1, x < 256) ∧ -9223372036854775808 ≤ e.2 ∧ e.2 < 9223372036854775808) (rows := rows) (fun r hr' => by
      obtain ⟨m, y, hy, _⟩ := hr r hr'
      exact open_ref hy)
    simp at g0 g1 g2
    subst g0; subst g1; subst g2
    exact ⟨⟨s0, s1, rs⟩, a, l, c, rfl, t, ⟨by show s0.size < _; omega, by show s1.size < _; omega, hrs⟩, by omega⟩
end
end Go.Proofs.YtpnbbgcaaogpdaaDoor
