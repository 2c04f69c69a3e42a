import Derived.Test.YtcfegbpoailbdaaDoorVcX

namespace Go.Vc
open Go.ChangeShapes Go.WideShapes Go.ChangeAt Go.RowKit
set_option linter.unusedVariables false
variable {H : Type} {enc : TypeId × Value → H} {P : Program} {W : World} {base : Nat} {sp : Nat → Bool} {hd : Bool}

theorem trod_stringD {fuel : Nat} {t : TypeId} {cs : List Value} {x : DataW H × List MemPlace} (ht : P.underlying t = some .string) (h : DataW.trod enc P W base sp hd fuel t cs = some x) : ∃ s, cs = [.string s] ∧ x.1 = .lit (.string s.data.toList) := by
  cases fuel with
  | zero => cases h
  | succ n =>
    unfold DataW.trod at h
    rw [ht] at h
    match cs, h with
    | [.string s], h =>
      simp only at h
      split at h
      · simp only [Option.some.injEq] at h
        exact ⟨s, rfl, by rw [← h]⟩
      · cases h
/-- a slice, nil or not: its elements' cells, each read, and what each stands for -/
theorem trod_tabD {t e : TypeId} {n fuel : Nat} {cs : List Value} {x : DataW H × List MemPlace} (ht : P.underlying t = some (.slice e)) (hc : P.cellsOf e = n) (hn : 0 < n) (h : DataW.trod enc P W 0 (fun _ => true) hd fuel t cs = some x) :
    ∃ a l c rows, cs = [.slice a l c] ∧ Tab n W.heap a l c rows ∧ l < 9223372036854775808 ∧ ∀ r ∈ rows, ∃ m y, DataW.trod enc P W 0 (fun _ => true) hd m e r = some y ∧ ∃ els rest, x.1 = .slice els rest ∧ y.1 ∈ els := by
  rcases Deep.open_slice ht h with ⟨rfl, _⟩ | ⟨a, l, c, m, q, D, Pl, rfl, _, hl, hm, hmm, hx, hel⟩
  · exact ⟨none, 0, 0, [], rfl, Tab.empty _ _ _ _, by omega, by simp⟩
  · simp only [if_true] at hmm
    subst hmm
    obtain ⟨rows, hrl, hrows⟩ := list_of (l := l) (Q := fun i r => W.cells? 0 (a.add (i * P.cellsOf e)) (P.cellsOf e) = some r ∧ DataW.trod enc P W 0 (fun _ => true) hd q e r = some (D i, Pl i)) (fun i hi => by
      obtain ⟨cs', h1, h2⟩ := hel i (by omega)
      exact ⟨cs', h1, h2⟩)
    rw [hc] at hrows
    have hmem : ∀ r ∈ rows, ∃ (i : Nat) (hi : i < rows.length), rows[i] = r := fun r hr => List.mem_iff_getElem.1 hr
    refine ⟨some a, l, m, rows, rfl, ⟨hrl, hl, fun r hr => ?_, fun hne => ?_, fun e => by cases e⟩, by unfold maxLen at hm; omega, fun r hr => ?_⟩
    · obtain ⟨i, hi, rfl⟩ := hmem r hr
      exact (cells_at (hrows i hi).1).1
    · have h0 : 0 < rows.length := List.length_pos_iff.2 hne
      obtain ⟨hl0, hc0⟩ := cells_at (hrows 0 h0).1
      have h00 := hc0 0 hn
      rw [List.getElem?_eq_getElem (by omega), Nat.zero_mul] at h00
      obtain ⟨xb, xo, xs⟩ := a
      have hs : xs = none := by
        cases xs with
        | none => rfl
        | some q =>
          exfalso
          have hadd : ((⟨xb, xo, some q⟩ : Addr).add 0).add 0 = ⟨xb, xo, some q⟩ := by unfold Addr.add; simp
          rw [hadd] at h00
          unfold World.cell? at h00
          split at h00
          · simp at h00
          · cases h00
      subst hs
      rw [add_mk, add_mk] at h00
      refine ⟨xb, xo, rfl, lt_of_cell (h := W.heap) h00, fun i r hi j v hj => ?_⟩
      obtain ⟨hi1, rfl⟩ := List.getElem?_eq_some_iff.1 hi
      obtain ⟨hli, hci⟩ := cells_at (hrows i hi1).1
      have := hci j (by have := (List.getElem?_eq_some_iff.1 hj).1; omega)
      rw [add_mk, add_mk, hj] at this
      exact this
    · obtain ⟨i, hi, rfl⟩ := hmem r hr
      refine ⟨q, _, (hrows i hi).2, _, _, by rw [hx], ?_⟩
      exact List.mem_map.2 ⟨i, by simp; omega, rfl⟩
/-- a field, and what it stands for -/
theorem trod_atD {fs : Array Field} {t : TypeId} {fuel : Nat} {cs : List Value} {x : DataW H × List MemPlace} (ht : P.underlying t = some (.struct fs)) (h : DataW.trod enc P W base sp hd fuel t cs = some x) (i : Nat) {t' : TypeId} {o n : Nat} (hf : (fs[i]?).map (fun f => (f.type, f.offset)) = some (t', o)) (hc : P.cellsOf t' = n) :
    ∃ m y, DataW.trod enc P W base sp hd m t' ((cs.drop o).take n) = some y ∧ ∃ parts, x.1 = .agg parts ∧ y.1 ∈ parts := by
  cases hg : fs[i]? with
  | none => rw [hg] at hf; cases hf
  | some f =>
    rw [hg] at hf
    obtain ⟨rfl, rfl⟩ := Prod.mk.inj (Option.some.inj hf)
    subst hc
    obtain ⟨xs, n, _, hx, _, hlen, hfs⟩ := DataW.trod_struct ht h
    have hi : i < xs.length := by
      have h2 := (Array.getElem?_eq_some_iff.1 hg).1
      omega
    refine ⟨n, _, (hfs i f hg).trans (List.getElem?_eq_getElem hi), _, by rw [hx], ?_⟩
    exact List.mem_map.2 ⟨_, List.getElem_mem hi, rfl⟩
end Go.Vc
