import Derived.Test.YtcfegbpoailbdaaDoorVcR
import Derived.Deep.Slices

namespace Go.Vc
open Go.ChangeShapes Go.WideShapes Go.ChangeAt Go.RowKit
set_option linter.unusedVariables false
variable {H : Type} {enc : TypeId × Value → H} {P : Program} {W : World} {base : Nat} {sp : Nat → Bool} {hd : Bool}

theorem cells_at {w : World} {base : Nat} {a : Addr} {n : Nat} {cs : List Value} (h : w.cells? base a n = some cs) : cs.length = n ∧ ∀ j, j < n → w.cell? (a.add j) = cs[j]? := by
  unfold World.cells? at h
  split at h
  · have hl := mapM_some_length h
    simp at hl
    refine ⟨hl, fun j hj => ?_⟩
    obtain ⟨b, hb1, hb2⟩ := Lib.mapM_at h j j (by simp [hj])
    rw [hb1]; exact hb2
  · cases h

theorem trod_bool {fuel : Nat} {t : TypeId} {cs : List Value} {x : DataW H × List MemPlace} (ht : P.underlying t = some .bool) (h : DataW.trod enc P W base sp hd fuel t cs = some x) : ∃ b, cs = [.bool b] := by
  cases fuel with
  | zero => cases h
  | succ n =>
    unfold DataW.trod at h
    rw [ht] at h
    match cs, h with
    | [.bool b], _ => exact ⟨b, rfl⟩
theorem trod_int {fuel : Nat} {t : TypeId} {k : IntKind} {cs : List Value} {x : DataW H × List MemPlace} (ht : P.underlying t = some (.int k)) (h : DataW.trod enc P W base sp hd fuel t cs = some x) : ∃ z, cs = [.int k z] ∧ (Lit.int k z).wf = true := by
  cases fuel with
  | zero => cases h
  | succ n =>
    unfold DataW.trod at h
    rw [ht] at h
    match cs, h with
    | [.int k' z], h =>
      simp only at h
      split at h
      · rename_i hk; exact ⟨z, by rw [hk.1], hk.2⟩
      · cases h
theorem trod_string {fuel : Nat} {t : TypeId} {cs : List Value} {x : DataW H × List MemPlace} (ht : P.underlying t = some .string) (h : DataW.trod enc P W base sp hd fuel t cs = some x) : ∃ s, cs = [.string s] ∧ x.1 = .lit (.string s.data.toList) := by
  cases fuel with
  | zero => cases h
  | succ n =>
    unfold DataW.trod at h
    rw [ht] at h
    match cs, h with
    | [.string s], h =>
      simp only at h
      split at h
      · exact ⟨s, rfl, by rw [← Option.some.inj h]⟩
      · cases h
theorem trod_bytes {fuel : Nat} {t e : TypeId} {cs : List Value} {x : DataW H × List MemPlace} (ht : P.underlying t = some (.slice e)) (he : P.underlying e = some (.int .u8)) (hc : P.cellsOf e = 1)
    (h : DataW.trod enc P W 0 (fun _ => true) hd fuel t cs = some x) : ∃ a l c bs, cs = [.slice a l c] ∧ InB W.heap a l c bs ∧ ((x.1 = .nil ∧ bs = []) ∨ ∃ els sp, x.1 = .slice els sp ∧ els.length = l ∧ els.length + sp.length = c) := by
  rcases open_ints ht he hc h with ⟨rfl, rfl⟩ | ⟨a, l, c, zs, rfl, _, hl, hm, hz, rfl, hcell, hwz⟩
  · exact ⟨none, 0, 0, [], rfl, ⟨rfl, Nat.le_refl _, by simp, (fun ad e => by cases e), fun _ => rfl⟩, .inl ⟨rfl, rfl⟩⟩
  · simp at hz
    obtain ⟨D, rfl, hD⟩ := nats_of zs hwz
    rw [List.length_map] at hz
    refine ⟨_, l, c, D.take l, rfl, ⟨by simp; omega, hl, fun y hy => hD y (List.mem_of_mem_take hy), ?_, by rintro ⟨⟩⟩, .inr ⟨_, _, rfl, ?_, ?_⟩⟩
    · rintro ad ⟨⟩ hne
      obtain ⟨xb, xo, xs⟩ := a
      have hpos : 0 < D.length := by
        rcases D with _ | ⟨y, D⟩
        · simp at hne
        · simp
      have h0 := hcell 0 (by rw [List.length_map]; exact hpos)
      have hblt : xb < W.heap.size := lt_of_cell (h := W.heap) (a := (⟨xb, xo, xs⟩ : Addr).add 0) h0
      have hs : xs = none := by
        cases xs with
        | none => rfl
        | some q =>
          exfalso
          have hadd : (⟨xb, xo, some q⟩ : Addr).add 0 = ⟨xb, xo, some q⟩ := by unfold Addr.add; simp
          rw [hadd] at h0
          unfold World.cell? at h0
          split at h0
          · simp at h0
          · cases h0
      subst hs
      refine ⟨xb, xo, rfl, hblt, fun i v hv => ?_⟩
      have hi : i < l := by
        have := (List.getElem?_eq_some_iff.1 hv).1
        simp at this; omega
      have := hcell i (by rw [List.length_map]; omega)
      rw [List.getElem?_map, List.getElem?_take, if_pos hi] at hv
      show W.cell? _ = _
      rw [this, ← hv]
      simp [show i < D.length by omega]
    · simp [lits]; omega
    · simp [lits]; omega
/-- a slice: its elements' cells, each read. -/
theorem open_elems {t e : TypeId} {v : Value} {d : DataW H} {ps : List MemPlace} {b0 : Nat} {r : Reach} (ht : P.underlying t = some (.slice e))
    (hval : Value.okWide P W r b0 t v) (h : DataW.Trod enc P W 0 (fun _ => true) true t v d ps) :
    (v = .slice none 0 0) ∨ ∃ b o l c m els sp, v = .slice (some ⟨b, o, none⟩) l c ∧ l ≤ c ∧ d = .slice els sp ∧ els.length = l ∧
      ∀ i (hi : i < els.length), ∃ cs pl, cs.length = P.cellsOf e ∧ (∀ j, j < P.cellsOf e → cell W.heap ⟨b, o + i * P.cellsOf e + j, none⟩ = cs[j]?) ∧ DataW.trod enc P W 0 (fun _ => true) true m e cs = some (els[i], pl) := by
  obtain ⟨a, l, c, rfl⟩ := okWide_slice ht hval
  obtain ⟨fuel, hf⟩ := h
  have hval' : Cell.okWide P W r b0 t (.slice a l c) := by
    unfold Value.okWide at hval; rw [ht] at hval; exact hval
  have hok : Cell.ok P W r b0 t (.slice a l c) := by
    unfold Cell.okWide at hval'; rw [ht] at hval'; exact hval'
  rcases Deep.open_slice ht hf with ⟨hcs, hx⟩ | ⟨x, l', c', m, n, D, Pl, hcs, _, hl, hm, hmm, hx, hel⟩
  · simp [Value.cells] at hcs
    obtain ⟨rfl, rfl, rfl⟩ := hcs
    exact .inl rfl
  · simp [Value.cells] at hcs
    obtain ⟨rfl, rfl, rfl⟩ := hcs
    unfold Cell.ok at hok
    rw [ht] at hok
    obtain ⟨_, _, _, hspot, _⟩ := hok
    obtain ⟨xb, xo, xs⟩ := x
    simp only at hspot
    subst hspot
    simp at hmm
    refine .inr ⟨xb, xo, l, c, n, _, _, rfl, hl, congrArg Prod.fst hx, by simp, fun i hi => ?_⟩
    have hi' : i < l := by simpa using hi
    obtain ⟨cs, h1, h2⟩ := hel i (by omega)
    obtain ⟨hlen, hc⟩ := cells_at h1
    refine ⟨cs, Pl i, hlen, fun j hj => ?_, ?_⟩
    · have := hc j hj
      rw [add_mk, add_mk] at this
      exact this
    · rw [h2]; simp
theorem list_of {α : Type} {l : Nat} {Q : Nat → α → Prop} (h : ∀ i, i < l → ∃ x, Q i x) : ∃ xs : List α, xs.length = l ∧ ∀ i (hi : i < xs.length), Q i xs[i] := by
  refine ⟨List.ofFn fun i : Fin l => Classical.choose (h i.1 i.2), by simp, fun i hi => ?_⟩
  rw [List.getElem_ofFn]
  exact Classical.choose_spec (h i (by simpa using hi))
end Go.Vc
