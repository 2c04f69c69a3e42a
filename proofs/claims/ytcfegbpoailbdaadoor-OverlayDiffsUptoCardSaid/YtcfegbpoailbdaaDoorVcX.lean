import Derived.Test.YtcfegbpoailbdaaDoorVcO
import Derived.Test.YtcfegbpoailbdaaDoorVcW

namespace Go.Vc
open Go.ChangeShapes Go.WideShapes Go.ChangeAt Go.RowKit
set_option linter.unusedVariables false
variable {H : Type} {enc : TypeId × Value → H} {P : Program} {W : World} {base : Nat} {sp : Nat → Bool} {hd : Bool}

theorem trod_string_le {fuel : Nat} {t : TypeId} {cs : List Value} {x : DataW H × List MemPlace} (ht : P.underlying t = some .string) (h : DataW.trod enc P W base sp hd fuel t cs = some x) : ∃ s, cs = [.string s] ∧ s.size < 9223372036854775808 := by
  cases fuel with
  | zero => cases h
  | succ n =>
    unfold DataW.trod at h
    rw [ht] at h
    match cs, h with
    | [.string s], h =>
      simp only at h
      split at h
      · rename_i hs; exact ⟨s, rfl, by unfold maxLen at hs; omega⟩
      · cases h
/-- a slice, nil or not: its elements' cells, each read -/
theorem trod_tab {t e : TypeId} {n fuel : Nat} {cs : List Value} {x : DataW H × List MemPlace} (ht : P.underlying t = some (.slice e)) (hc : P.cellsOf e = n) (hn : 0 < n) (h : DataW.trod enc P W 0 (fun _ => true) hd fuel t cs = some x) :
    ∃ a l c rows, cs = [.slice a l c] ∧ Tab n W.heap a l c rows ∧ l < 9223372036854775808 ∧ ∀ r ∈ rows, ∃ m y, DataW.trod enc P W 0 (fun _ => true) hd m e r = some y := by
  rcases Deep.open_slice ht h with ⟨rfl, _⟩ | ⟨a, l, c, m, q, D, Pl, rfl, _, hl, hm, hmm, _, hel⟩
  · exact ⟨none, 0, 0, [], rfl, Tab.empty _ _ _ _, by omega, by simp⟩
  · simp only [if_true] at hmm
    subst hmm
    obtain ⟨rows, hrl, hrows⟩ := list_of (l := l) (Q := fun i r => W.cells? 0 (a.add (i * P.cellsOf e)) (P.cellsOf e) = some r ∧ ∃ y, DataW.trod enc P W 0 (fun _ => true) hd q e r = some y) (fun i hi => by
      obtain ⟨cs', h1, h2⟩ := hel i (by omega)
      exact ⟨cs', h1, _, h2⟩)
    rw [hc] at hrows
    have hmem : ∀ r ∈ rows, ∃ (i : Nat) (hi : i < rows.length), rows[i] = r := fun r hr => List.mem_iff_getElem.1 hr
    refine ⟨some a, l, m, rows, rfl, ⟨hrl, hl, fun r hr => ?_, fun hne => ?_, fun e => by cases e⟩, by unfold maxLen at hm; omega, fun r hr => ?_⟩
    · obtain ⟨i, hi, rfl⟩ := hmem r hr
      exact (cells_at (hrows i hi).1).1
    · have h0 : 0 < rows.length := List.length_pos_iff.2 hne
      obtain ⟨hl0, hc0⟩ := cells_at (hrows 0 h0).1
      have h00 := hc0 0 hn
      rw [List.getElem?_eq_getElem (by omega), Nat.zero_mul] at h00
      obtain ⟨xb, xo, xs⟩ := a
      have hs : xs = none := by
        cases xs with
        | none => rfl
        | some q =>
          exfalso
          have hadd : ((⟨xb, xo, some q⟩ : Addr).add 0).add 0 = ⟨xb, xo, some q⟩ := by unfold Addr.add; simp
          rw [hadd] at h00
          unfold World.cell? at h00
          split at h00
          · simp at h00
          · cases h00
      subst hs
      rw [add_mk, add_mk] at h00
      refine ⟨xb, xo, rfl, lt_of_cell (h := W.heap) h00, fun i r hi j v hj => ?_⟩
      obtain ⟨hi1, rfl⟩ := List.getElem?_eq_some_iff.1 hi
      obtain ⟨hli, hci⟩ := cells_at (hrows i hi1).1
      have := hci j (by have := (List.getElem?_eq_some_iff.1 hj).1; omega)
      rw [add_mk, add_mk, hj] at this
      exact this
    · obtain ⟨i, hi, rfl⟩ := hmem r hr
      exact ⟨q, (hrows i hi).2⟩
theorem trod_field {fs : Array Field} {t : TypeId} {fuel : Nat} {cs : List Value} {x : DataW H × List MemPlace} (ht : P.underlying t = some (.struct fs)) (h : DataW.trod enc P W base sp hd fuel t cs = some x) (i : Nat) {f : Field} (hf : fs[i]? = some f) :
    ∃ m y, DataW.trod enc P W base sp hd m f.type ((cs.drop f.offset).take (P.cellsOf f.type)) = some y := by
  obtain ⟨xs, n, _, _, _, hlen, hfs⟩ := DataW.trod_struct ht h
  have hi : i < xs.length := by
    have h2 := (Array.getElem?_eq_some_iff.1 hf).1
    omega
  exact ⟨n, _, (hfs i f hf).trans (List.getElem?_eq_getElem hi)⟩
theorem trod_at {fs : Array Field} {t : TypeId} {fuel : Nat} {cs : List Value} {x : DataW H × List MemPlace} (ht : P.underlying t = some (.struct fs)) (h : DataW.trod enc P W base sp hd fuel t cs = some x) (i : Nat) {t' : TypeId} {o n : Nat} (hf : (fs[i]?).map (fun f => (f.type, f.offset)) = some (t', o)) (hc : P.cellsOf t' = n) :
    ∃ m y, DataW.trod enc P W base sp hd m t' ((cs.drop o).take n) = some y := by
  cases hg : fs[i]? with
  | none => rw [hg] at hf; cases hf
  | some f =>
    rw [hg] at hf
    obtain ⟨rfl, rfl⟩ := Prod.mk.inj (Option.some.inj hf)
    subst hc
    exact trod_field ht h i hg
theorem trod_len {fs : Array Field} {t : TypeId} {fuel : Nat} {cs : List Value} {x : DataW H × List MemPlace} (ht : P.underlying t = some (.struct fs)) (h : DataW.trod enc P W base sp hd fuel t cs = some x) : cs.length = P.cellsOf t := by
  obtain ⟨xs, n, _, _, hl, _, _⟩ := DataW.trod_struct ht h
  exact hl
theorem map_of {α β : Type} {f : α → β} {Q : α → Prop} : ∀ {rows : List β}, (∀ r ∈ rows, ∃ x, r = f x ∧ Q x) → ∃ xs : List α, rows = xs.map f ∧ ∀ x ∈ xs, Q x
  | [], _ => ⟨[], rfl, by simp⟩
  | r :: rs, h => by
    obtain ⟨x, rfl, hx⟩ := h r (by simp)
    obtain ⟨xs, rfl, hxs⟩ := map_of (rows := rs) fun q hq => h q (List.mem_cons_of_mem _ hq)
    exact ⟨x :: xs, rfl, fun y hy => by rcases List.mem_cons.1 hy with rfl | hy; exact hx; exact hxs y hy⟩
theorem zip_of {α β γ : Type} {f : α → γ → β} {Q : α → γ → Prop} : ∀ {rows : List β}, (∀ r ∈ rows, ∃ x y, r = f x y ∧ Q x y) → ∃ (xs : List α) (ys : List γ), rows = List.zipWith f xs ys ∧ ys.length = xs.length ∧ ∀ (i : Nat) x y, xs[i]? = some x → ys[i]? = some y → Q x y
  | [], _ => ⟨[], [], rfl, rfl, by simp⟩
  | r :: rs, h => by
    obtain ⟨x, y, rfl, hx⟩ := h r (by simp)
    obtain ⟨xs, ys, rfl, hl, hxs⟩ := zip_of (rows := rs) fun q hq => h q (List.mem_cons_of_mem _ hq)
    refine ⟨x :: xs, y :: ys, rfl, by simp [hl], fun i u v hu hv => ?_⟩
    cases i with
    | zero => simp at hu hv; subst hu; subst hv; exact hx
    | succ i => exact hxs i u v (by simpa using hu) (by simpa using hv)
theorem arr_of {t e : TypeId} {n fuel : Nat} {cs : List Value} {x : DataW H × List MemPlace} (ht : P.underlying t = some (.array n e)) (he : P.underlying e = some (.int .u8)) (hc : P.cellsOf e = 1) (hct : P.cellsOf t = n) (h : DataW.trod enc P W base sp hd fuel t cs = some x) :
    ∃ s : List Nat, cs = s.map (fun n : Nat => Value.int .u8 n) ∧ s.length = n ∧ ∀ y ∈ s, y < 256 := by
  obtain ⟨xs, m, _, _, hl, hxl, hf⟩ := DataW.trod_array ht h
  rw [hct] at hl
  obtain ⟨s, hs, hb⟩ := map_of (rows := cs) (f := fun n : Nat => Value.int .u8 n) (Q := fun y => y < 256) (fun v hv => by
    obtain ⟨i, hi, rfl⟩ := List.mem_iff_getElem.1 hv
    have := hf i (by omega)
    rw [hc, Nat.mul_one, List.getElem?_eq_getElem (by omega)] at this
    obtain ⟨z, hz, hw⟩ := trod_int he this
    have h2 : (cs.drop i).take 1 = [cs[i]] := by rw [List.drop_eq_getElem_cons hi]; rfl
    rw [h2] at hz
    simp only [List.cons.injEq, and_true] at hz
    simp [Lit.wf, IntKind.min, IntKind.max, IntKind.signed, IntKind.bits] at hw
    exact ⟨z.toNat, by rw [hz, Int.toNat_of_nonneg (by omega)], by omega⟩)
  exact ⟨s, hs, by rw [← hl, hs, List.length_map], hb⟩
end Go.Vc
