import Derived.Test.YtfknpbgneeefjaaDoorPlanU
import Derived.Test.YtfknpbgneeefjaaDoorPlanZ

namespace Go.Proofs.YtfknpbgneeefjaaDoor
open Go.ChangeShapes Go.WideShapes Go.ChangeAt Go.RowKit Go.Vc Go.Sha Go.Trail Go.Packs Go.Plan
set_option linter.unusedVariables false
set_option maxRecDepth 100000
section
variable {H : Type} {enc : TypeId × Value → H} {W : World} {hd : Bool}
theorem zip_snd {α β γ : Type} (f : β → γ) : ∀ (xs : List α) (ys : List β), ys.length = xs.length → List.zipWith (fun _ y => f y) xs ys = ys.map f
  | [], [], _ => rfl
  | x :: xs, y :: ys, h => by
    simp only [List.zipWith_cons_cons, List.map_cons]
    rw [zip_snd f xs ys (by simpa using h)]
theorem open_stacks {v : Value} {d : DataW H} {ps : List MemPlace} {b0 : Nat} {r : Reach} (hval : Value.okWide Tryd.prog W r b0 40 v) (h : DataW.Trod enc Tryd.prog W 0 (fun _ => true) hd 40 v d ps) :
    ∃ (a : Option Addr) (l c : Nat) (sts : List (List PackV)) (hs : List Hdr), v = .slice a l c ∧ StacksIn W.heap a l c sts hs ∧ l < 9223372036854775808 := by
  obtain ⟨a, l, c, rfl⟩ := okWide_slice Tryd.underlying40 hval
  obtain ⟨fuel, h⟩ := h
  simp only [Value.cells] at h
  obtain ⟨a', l', c', rows, e, t, hll, hr⟩ := trod_tab Tryd.underlying40 size22 (by omega) h
  simp at e
  obtain ⟨rfl, rfl, rfl⟩ := e
  obtain ⟨sts, hs, hrows, hlen, hok⟩ := zip_of (f := fun (_ : List PackV) (d : Hdr) => sliceC d) (Q := fun ps d => ∃ ds, PacksAt W.heap d.a d.l d.c ps ds ∧ d.l < 9223372036854775808) (fun r hr' => by
    obtain ⟨_, _, g⟩ := hr r hr'
    obtain ⟨a1, l1, c1, ps1, ds1, e1, g1, g2⟩ := open_packs g
    exact ⟨ps1, ⟨a1, l1, c1⟩, e1, ds1, g1, g2⟩)
  rw [zip_snd sliceC sts hs hlen] at hrows
  subst hrows
  exact ⟨a, l, c, sts, hs, rfl, ⟨hlen, t, hok⟩, hll⟩
theorem open_ops {v : Value} {d : DataW H} {ps : List MemPlace} {b0 : Nat} {r : Reach} (hval : Value.okWide Tryd.prog W r b0 27 v) (h : DataW.Trod enc Tryd.prog W 0 (fun _ => true) hd 27 v d ps) :
    ∃ (a : Option Addr) (l c : Nat) (os : List OpV) (ds : List Hdr), v = .slice a l c ∧ OpsAt W.heap a l c os ds ∧ l < 9223372036854775808 := by
  obtain ⟨a, l, c, rfl⟩ := okWide_slice Tryd.underlying27 hval
  obtain ⟨fuel, h⟩ := h
  simp only [Value.cells] at h
  obtain ⟨a', l', c', rows, e, t, hll, hr⟩ := trod_tab Tryd.underlying27 size25 (by omega) h
  simp at e
  obtain ⟨rfl, rfl, rfl⟩ := e
  obtain ⟨os, ds, rfl, hlen, hok⟩ := zip_of (f := OpV.cells) (Q := fun o d => OpV.ok o ∧ RefsAt W.heap d.a d.l d.c o.refs) (fun r hr' => let ⟨_, _, h⟩ := hr r hr'; open_opc h)
  refine ⟨a, l, c, os, ds, rfl, ⟨hlen, t, fun i o d ho hd => (hok i o d ho hd).2, fun o ho => ?_⟩, hll⟩
  obtain ⟨i, hi⟩ := List.getElem?_of_mem ho
  have hlt := (List.getElem?_eq_some_iff.1 hi).1
  exact (hok i o _ hi (List.getElem?_eq_getElem (show i < ds.length by omega))).1
theorem size53 : Tryd.prog.cellsOf 53 = 10 := by kernel_rfl
theorem open_two {v : Value} {d : DataW H} {ps : List MemPlace} {b0 : Nat} {r : Reach} (hval : Value.okWide Tryd.prog W r b0 53 v) (h : DataW.Trod enc Tryd.prog W 0 (fun _ => true) hd 53 v d ps) :
    ∃ (o1 o2 : OpV) (d1 d2 : Hdr), v = .agg (OpV.cells o1 d1 ++ OpV.cells o2 d2).toArray ∧ (OpV.ok o1 ∧ RefsAt W.heap d1.a d1.l d1.c o1.refs) ∧ (OpV.ok o2 ∧ RefsAt W.heap d2.a d2.l d2.c o2.refs) := by
  have hv : ∃ cs, v = .agg cs ∧ cs.size = 10 := by
    simp only [Value.okWide, Tryd.underlying53] at hval
    obtain ⟨cs, h1, h2, _⟩ := hval
    exact ⟨cs, h1, by rw [h2, size53]⟩
  obtain ⟨⟨cs⟩, rfl, hcs⟩ := hv
  obtain ⟨fuel, h⟩ := h
  simp only [Value.cells] at h
  obtain ⟨xs, m, _, _, hl, hxl, hf⟩ := DataW.trod_array Tryd.underlying53 h
  have f0 := hf 0 (by omega)
  have f1 := hf 1 (by omega)
  rw [size25, List.getElem?_eq_getElem (by omega)] at f0 f1
  obtain ⟨o1, d1, e1, k1, r1⟩ := open_opc f0
  obtain ⟨o2, d2, e2, k2, r2⟩ := open_opc f1
  refine ⟨o1, o2, d1, d2, ?_, ⟨k1, r1⟩, ⟨k2, r2⟩⟩
  rw [← e1, ← e2]
  congr 1
  have hl' : cs.length = 10 := by simpa using hcs
  simp only [Nat.zero_mul, Nat.one_mul, List.drop_zero]
  rw [List.take_of_length_le (l := cs.drop 5) (by rw [List.length_drop]; omega), List.take_append_drop]
theorem open_plans {v : Value} {d : DataW H} {ps : List MemPlace} {b0 : Nat} {r : Reach} (hval : Value.okWide Tryd.prog W r b0 42 v) (h : DataW.Trod enc Tryd.prog W 0 (fun _ => true) hd 42 v d ps) :
    ∃ (a : Option Addr) (l c : Nat) (pl : List PlanV) (hs : List Hdr), v = .slice a l c ∧ hs.length = pl.length ∧ Tab 2 W.heap a l c (List.zipWith planC pl hs) ∧ (∀ (i : Nat) (p : PlanV) (d : Hdr), pl[i]? = some p → hs[i]? = some d → ∃ ds, PacksAt W.heap d.a d.l d.c p.2 ds ∧ d.l < 9223372036854775808) ∧ l < 9223372036854775808 := by
  obtain ⟨a, l, c, rfl⟩ := okWide_slice Tryd.underlying42 hval
  obtain ⟨fuel, h⟩ := h
  simp only [Value.cells] at h
  obtain ⟨a', l', c', rows, e, t, hll, hr⟩ := trod_tab Tryd.underlying42 size49 (by omega) h
  simp at e
  obtain ⟨rfl, rfl, rfl⟩ := e
  obtain ⟨pl, hs, rfl, hlen, hok⟩ := zip_of (f := planC) (Q := fun p d => ∃ ds, PacksAt W.heap d.a d.l d.c p.2 ds ∧ d.l < 9223372036854775808) (fun r hr' => by
    obtain ⟨_, _, g⟩ := hr r hr'
    have gl := trod_len Tryd.underlying49 g
    rw [size49] at gl
    match r, gl with
    | [c0, c1], _ =>
      obtain ⟨_, _, g0⟩ := trod_at Tryd.underlying49 g 0 (t' := 3) (o := 0) rfl size3
      obtain ⟨_, _, g1⟩ := trod_at Tryd.underlying49 g 1 (t' := 22) (o := 1) rfl size22
      obtain ⟨k, hk, _⟩ := trod_int Tryd.underlying3 g0
      obtain ⟨a1, l1, c1, ps1, ds1, e1, p1, p2⟩ := open_packs g1
      simp at hk e1
      subst hk; subst e1
      exact ⟨(k, ps1), ⟨a1, l1, c1⟩, rfl, ds1, p1, p2⟩)
  exact ⟨a, l, c, pl, hs, rfl, hlen, t, hok, hll⟩
end
end Go.Proofs.YtfknpbgneeefjaaDoor
