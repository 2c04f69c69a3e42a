import Derived.Test.YtcfegbpoailbdaaDoorOvlRa
import Derived.Test.YtcfegbpoailbdaaDoorVcP
import Derived.Test.YtcfegbpoailbdaaDoorOvlO

namespace Go.Proofs.YtcfegbpoailbdaaDoor
open Go.Vc
set_option maxRecDepth 100000
theorem bulk_one {H : Type} (d : DataW H) : 1 ≤ Rows.uptoBulk d := by
  unfold Rows.uptoBulk; split <;> omega
theorem bulk_at {H : Type} : ∀ {l : List (DataW H)} (i : Nat) {d : DataW H}, l[i]? = some d → Rows.uptoBulk d ≤ Rows.uptoBulkAll l
  | [], i, d, h => by simp at h
  | x :: r, 0, d, h => by
    simp at h; subst h
    unfold Rows.uptoBulkAll; omega
  | x :: r, i + 1, d, h => by
    have := bulk_at (l := r) i (by simpa using h)
    unfold Rows.uptoBulkAll; omega
theorem bulk_len {H : Type} : ∀ l : List (DataW H), l.length ≤ Rows.uptoBulkAll l
  | [] => Nat.zero_le _
  | x :: r => by
    have := bulk_len r
    have := bulk_one x
    unfold Rows.uptoBulkAll
    simp only [List.length_cons]; omega
theorem bulk_bound {H : Type} {l : List (DataW H)} (hk : Rows.uptoSmall H (l ++ []) = true) : Rows.uptoBulkAll l ≤ 1048576 := by
  rw [List.append_nil] at hk
  exact of_decide_eq_true hk
theorem bulk_bytes {H : Type} {h : Heap} {a : Option Addr} {l c : Nat} {bs : List Nat} {d : DataW H} (i : InB h a l c bs) (e : (d = .nil ∧ bs = []) ∨ ∃ els sp, d = .slice els sp ∧ els.length = l ∧ els.length + sp.length = c) : bs.length ≤ Rows.uptoBulk d := by
  rcases e with ⟨_, rfl⟩ | ⟨els, sp, rfl, h1, h2⟩
  · exact Nat.zero_le _
  · have := bulk_len els
    have := i.len
    unfold Rows.uptoBulk; omega
theorem bulk_string {H : Type} (s : ByteArray) : s.size ≤ Rows.uptoBulk (DataW.lit (H := H) (.string s.data.toList)) := by
  unfold Rows.uptoBulk
  show s.data.size ≤ _
  simp
theorem bulk_mem {H : Type} {l : List (DataW H)} {d : DataW H} (h : d ∈ l) : Rows.uptoBulk d ≤ Rows.uptoBulkAll l := by
  obtain ⟨i, hi⟩ := List.getElem?_of_mem h
  exact bulk_at i hi
theorem bulk_slice {H : Type} {els rest : List (DataW H)} {d : DataW H} (h : d ∈ els) : Rows.uptoBulk d ≤ Rows.uptoBulk (DataW.slice els rest) := by
  have := bulk_mem h
  conv => rhs; unfold Rows.uptoBulk
  omega
theorem bulk_agg {H : Type} {parts : List (DataW H)} {d : DataW H} (h : d ∈ parts) : Rows.uptoBulk d ≤ Rows.uptoBulk (DataW.agg parts) := by
  have := bulk_mem h
  conv => rhs; unfold Rows.uptoBulk
  omega
section
open Go.ChangeShapes Go.WideShapes Go.ChangeAt Go.RowKit Go.Lay
variable {H : Type} {enc : TypeId × Value → H} {W : World} {hd : Bool}
theorem size9 : Tryd.prog.cellsOf 9 = 1 := by kernel_rfl
theorem size3 : Tryd.prog.cellsOf 3 = 1 := by kernel_rfl
theorem open_ent {m : Nat} {r : List Value} {y : DataW H × List MemPlace} (h : DataW.trod enc Tryd.prog W 0 (fun _ => true) hd m 38 r = some y) (hb : Rows.uptoBulk y.1 ≤ 1048576) :
    ∃ e : EntV, r = entC e ∧ e.path.size < 2 ^ 29 ∧ e.body.size < 2 ^ 29 := by
  have hl := trod_len Tryd.underlying38 h
  rw [size38] at hl
  match r, hl with
  | [c0, c1, c2, c3], _ =>
    obtain ⟨_, y0, h0, p0, e0, m0⟩ := trod_atD Tryd.underlying38 h 0 (t' := 9) (o := 0) rfl size9
    obtain ⟨_, _, h1, _⟩ := trod_atD Tryd.underlying38 h 1 (t' := 3) (o := 1) rfl size3
    obtain ⟨_, _, h2, _⟩ := trod_atD Tryd.underlying38 h 2 (t' := 3) (o := 2) rfl size3
    obtain ⟨_, y3, h3, p3, e3, m3⟩ := trod_atD Tryd.underlying38 h 3 (t' := 9) (o := 3) rfl size9
    obtain ⟨s0, g0, d0⟩ := trod_stringD Tryd.underlying9 h0
    obtain ⟨z1, g1, _⟩ := trod_int Tryd.underlying3 h1
    obtain ⟨z2, g2, _⟩ := trod_int Tryd.underlying3 h2
    obtain ⟨s3, g3, d3⟩ := trod_stringD Tryd.underlying9 h3
    have b0 := bulk_agg m0
    have b3 := bulk_agg m3
    rw [← e0, d0] at b0
    rw [← e3, d3] at b3
    have := bulk_string (H := H) s0
    have := bulk_string (H := H) s3
    simp at g0 g1 g2 g3
    subst g0; subst g1; subst g2; subst g3
    exact ⟨⟨s0, z1, z2, s3⟩, rfl, by show s0.size < _; omega, by show s3.size < _; omega⟩
theorem tab_long {t e : TypeId} {fuel : Nat} {cs : List Value} {x : DataW H × List MemPlace} (ht : Tryd.prog.underlying t = some (.slice e)) (h : DataW.trod enc Tryd.prog W 0 (fun _ => true) hd fuel t cs = some x) :
    ∃ a l c, cs = [.slice a l c] ∧ l ≤ Rows.uptoBulk x.1 := by
  rcases Deep.open_slice ht h with ⟨rfl, _⟩ | ⟨a, l, c, m, q, D, Pl, rfl, _, hl, hm, hmm, hx, hel⟩
  · exact ⟨none, 0, 0, rfl, Nat.zero_le _⟩
  · refine ⟨some a, l, c, rfl, ?_⟩
    rw [hx]
    have hb := bulk_len ((List.range l).map D)
    simp only [List.length_map, List.length_range] at hb
    conv => rhs; unfold Rows.uptoBulk
    omega
theorem open_ents' {m : Nat} {cs : List Value} {x : DataW H × List MemPlace} (h : DataW.trod enc Tryd.prog W 0 (fun _ => true) hd m 26 cs = some x) (hb : Rows.uptoBulk x.1 ≤ 1048576) :
    ∃ a l c es, cs = [.slice a l c] ∧ Tab 4 W.heap a l c (ents es) ∧ Small es ∧ l ≤ 1048576 := by
  obtain ⟨a', l', c', rows, hc, t, _, hr⟩ := trod_tabD Tryd.underlying26 size38 (by omega) h
  obtain ⟨a, l, c, hc2, hlong⟩ := tab_long Tryd.underlying26 h
  rw [hc] at hc2
  simp at hc2
  obtain ⟨rfl, rfl, rfl⟩ := hc2
  obtain ⟨es, rfl, hes⟩ := map_of (f := entC) (Q := fun e => e.path.size < 2 ^ 29 ∧ e.body.size < 2 ^ 29) (rows := rows) (fun r hr' => by
    obtain ⟨m, y, hy, els, rest, hx, hm⟩ := hr r hr'
    have := bulk_slice (rest := rest) hm
    rw [← hx] at this
    exact open_ent hy (Nat.le_trans this hb))
  exact ⟨a', l', c', es, hc, t, hes, by omega⟩
theorem open_ents {v : Value} {d : DataW H} {ps : List MemPlace} {b0 : Nat} {r : Reach} (hval : Value.okWide Tryd.prog W r b0 26 v) (h : DataW.Trod enc Tryd.prog W 0 (fun _ => true) hd 26 v d ps) (hb : Rows.uptoBulk d ≤ 1048576) :
    ∃ a l c es, v = .slice a l c ∧ Tab 4 W.heap a l c (ents es) ∧ Small es ∧ l ≤ 1048576 := by
  obtain ⟨a, l, c, rfl⟩ := okWide_slice Tryd.underlying26 hval
  obtain ⟨fuel, hf⟩ := h
  obtain ⟨a', l', c', es, hc, t, hs, hl⟩ := open_ents' hf hb
  simp [Value.cells] at hc
  obtain ⟨rfl, rfl, rfl⟩ := hc
  exact ⟨a, l, c, es, rfl, t, hs, hl⟩
theorem open_stack {v : Value} {d : DataW H} {ps : List MemPlace} {b0 : Nat} {r : Reach} (hval : Value.okWide Tryd.prog W r b0 22 v) (h : DataW.Trod enc Tryd.prog W 0 (fun _ => true) hd 22 v d ps) (hb : Rows.uptoBulk d ≤ 1048576) :
    ∃ a l c stk hs, v = .slice a l c ∧ StackE W.heap a l c stk hs := by
  obtain ⟨a, l, c, rfl⟩ := okWide_slice Tryd.underlying22 hval
  obtain ⟨fuel, hf⟩ := h
  obtain ⟨a', l', c', rows, hc, t, _, hr⟩ := trod_tabD Tryd.underlying22 size26 (by omega) hf
  simp [Value.cells] at hc
  obtain ⟨rfl, rfl, rfl⟩ := hc
  obtain ⟨stk, hs, rfl, hlen, hq⟩ := zip_of (f := fun (_ : List EntV) (d : HdE) => sliceE d) (Q := fun es d => Tab 4 W.heap d.a d.l d.c (ents es) ∧ Small es ∧ d.l < 2 ^ 40) (rows := rows) (fun r hr' => by
    obtain ⟨m, y, hy, els, rest, hx, hm⟩ := hr r hr'
    have := bulk_slice (rest := rest) hm
    rw [← hx] at this
    obtain ⟨a2, l2, c2, es, e2, t2, s2, h2⟩ := open_ents' hy (Nat.le_trans this hb)
    exact ⟨es, ⟨a2, l2, c2⟩, e2, t2, s2, by show l2 < 2 ^ 40; omega⟩)
  have hz : ∀ (xs : List (List EntV)) (ys : List HdE), ys.length = xs.length → List.zipWith (fun (_ : List EntV) (d : HdE) => sliceE d) xs ys = ys.map sliceE := by
    intro xs
    induction xs with
    | nil => intro ys h; rw [List.eq_nil_of_length_eq_zero h]; rfl
    | cons x xs ih =>
      intro ys h
      cases ys with
      | nil => cases h
      | cons y ys => rw [List.zipWith_cons_cons, List.map_cons, ih ys (by simpa using h)]
  rw [hz _ _ hlen] at t
  exact ⟨a, l, c, stk, hs, rfl, hlen, t, hq⟩
end
end Go.Proofs.YtcfegbpoailbdaaDoor
