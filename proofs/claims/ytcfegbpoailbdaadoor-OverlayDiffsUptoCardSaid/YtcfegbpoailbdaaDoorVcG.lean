import Derived.Test.YtcfegbpoailbdaaDoorVcF

namespace Go.Vc
set_option linter.unusedSimpArgs false
set_option linter.unusedVariables false
variable {P : Program}

theorem setCell_eq (w : World) (a : Addr) (v : Value) : w.setCell a v = { w with heap := setC w.heap a v } := rfl
theorem setC_size (h : Heap) (a : Addr) (v : Value) : (setC h a v).size = h.size := by simp [setC]
theorem setC_get (h : Heap) (a : Addr) (v : Value) (k : Nat) : (setC h a v)[k]? = if a.block = k then (h[k]?).map (updC a v) else h[k]? := by
  simp only [setC, Array.getElem?_modify]
theorem frz_setC (h : Heap) (a b : Addr) (v : Value) : frz (setC h a v) b = frz h b := by
  unfold frz
  rw [setC_get]
  by_cases e : a.block = b.block
  · rw [if_pos e]
    cases hb : h[b.block]? with
    | none => simp
    | some o => cases o <;> simp [updC]
  · rw [if_neg e]
theorem cell_setC_some (h : Heap) (a b : Addr) (v u : Value) (hc : cell h b = some u) : ∃ u', cell (setC h a v) b = some u' := by
  unfold cell at *
  rw [setC_get]
  by_cases e : a.block = b.block
  · rw [if_pos e]
    cases hb : h[b.block]? with
    | none => simp [hb] at hc
    | some o =>
      cases o <;> simp [hb, updC] at hc ⊢
      rename_i c t fr
      obtain ⟨h1, h2⟩ := hc
      refine ⟨h1, ?_⟩
      split
      · exact ⟨u, h2⟩
      · obtain ⟨hlt, _⟩ := Array.getElem?_eq_some_iff.1 h2
        exact ⟨_, Array.getElem?_eq_getElem (by simpa using hlt)⟩
  · rw [if_neg e]; exact ⟨u, hc⟩
theorem Wr.setC {h : Heap} {b : Addr} (hw : Wr h b) (a : Addr) (v : Value) : Wr (Vc.setC h a v) b := by
  obtain ⟨⟨u, hc⟩, hf⟩ := hw
  exact ⟨cell_setC_some h a b v u hc, by rw [frz_setC]; exact hf⟩

theorem run_storeCells (w : World) (a : Addr) : ∀ (vs : List Value) (i : Nat) (h : Heap), (∀ j, j < vs.length → Wr h (a.add (i + j))) → (∀ u ∈ vs, one u = true) →
    (storeCells a vs i).run P { w with heap := h } = .ok () { w with heap := setCs h a i vs }
  | [], i, h, _, _ => by simp [storeCells, setCs]
  | v :: r, i, h, hw, h1 => by
    have hv : v.oneCell' = true := by have := h1 v (by simp); cases v <;> simp_all [one, Value.oneCell']
    obtain ⟨⟨u, hc⟩, hf⟩ := hw 0 (by simp)
    have hc' : ({ w with heap := h } : World).cell? (a.add i) = some u := hc
    have hf' : ({ w with heap := h } : World).frozen? (a.add i) = false := hf
    have ih := run_storeCells w a r (i + 1) (Vc.setC h (a.add i) v) (fun j hj => by
      have := (hw (j + 1) (by simp; omega)).setC (a.add i) v
      rwa [show i + (j + 1) = i + 1 + j by omega] at this) (fun u hu => h1 u (by simp [hu]))
    simp only [storeCells, Sem.run_bind, run_store P _ _ _ _ hv, hc', hf', Bool.false_eq_true, if_false, Result.andThen_ok, setCs]
    exact ih

theorem run_put {w : World} {a : Addr} {vs : List Value} (hw : ∀ j, j < vs.length → Wr w.heap (a.add j)) (h1 : ∀ u ∈ vs, one u = true) :
    (storeCells a vs 0).run P w = .ok () { w with heap := setCs w.heap a 0 vs } := by
  have := run_storeCells (P := P) w a vs 0 w.heap (by simpa using hw) h1
  exact this

theorem Addr.add_zero' (a : Addr) : a.add 0 = a := rfl

theorem run_storeK {t : TypeId} {d : TypeDesc} {h : Heap} {ad : Addr} {v : Value} {K : Heap → Prop} {w : World} (hd : P.underlying t = some d) (hw : w.heap = h) (H : storeK (P.cellsOf t) h ad v K) :
    ∃ h', K h' ∧ (storeVar t ad v).run P w = .ok () { w with heap := h' } := by
  subst hw
  have single : one v = true → v.cells = #[v] → (P.cellsOf t = 1 ∧ Wr w.heap ad ∧ ∀ h', Put w.heap ad [v] h' → K h') → ∃ h', K h' ∧ (storeVar t ad v).run P w = .ok () { w with heap := h' } := by
    intro h1 hc ⟨hn, hwr, hk⟩
    refine ⟨_, hk _ rfl, ?_⟩
    unfold storeVar
    have := run_put (P := P) (w := w) (a := ad) (vs := [v]) (fun j hj => (by
      have : j = 0 := by simpa using hj
      subst this
      exact hwr)) (by simp [h1])
    simp [run_size hd, hn, hc, this]
  cases v with
  | agg cs =>
    obtain ⟨hn, h1, hwr, hk⟩ := H
    refine ⟨_, hk _ rfl, ?_⟩
    unfold storeVar
    have := run_put (P := P) (w := w) (a := ad) (vs := cs.toList) (fun j hj => hwr j (by simp at hj; omega)) h1
    simp [run_size hd, hn, Value.cells, this]
  | tuple vs => exact H.elim
  | _ => exact single rfl rfl H

theorem run_newRow (w : World) (el : TypeId) (cs : Array Value) : (newRow el cs).run P w = .ok ⟨w.heap.size, 0, none⟩ { w with heap := w.heap.push (.cells cs el) } := by
  simp [newRow]

theorem wp_value {o : Oper} {a : Act} {w w' : World} {next : Act → World → Prop} {Q : Exit → Act → World → Prop} {v : Value} (hr : (execOp a.eval o).run P w = .ok (.value v) w') (h : next (a.put o.dst v) w') : o.wp P a w next Q := by
  unfold Oper.wp; rw [hr]; exact h
theorem wp_skip' {o : Oper} {a : Act} {w w' : World} {next : Act → World → Prop} {Q : Exit → Act → World → Prop} (hr : (execOp a.eval o).run P w = .ok .skip w') (h : next (a.put o.dst undef) w') : o.wp P a w next Q := by
  unfold Oper.wp; rw [hr]; exact h

/-- what stands behind an operation -/
def Nexts (o : Oper) (a : Act) (w : World) (K : Option Value → Heap → Prop) (next : Act → World → Prop) : Prop :=
  ∀ v u w', K v w'.heap → (v = none ∨ v = some u) → Kin w w' → next (a.put o.dst u) w'

theorem vcPure_wp {A : Ann} {o : Oper} {e : Env} {h : Heap} {K : Option Value → Heap → Prop} {a : Act} {w : World} {next : Act → World → Prop} {Q : Exit → Act → World → Prop}
    (hA : Agree e a.tmps) (hw : w.heap = h) (hn : Nexts o a w K next) (H : vcPure P A o e h fun v => K v h) : o.wp P a w next Q := by
  obtain ⟨v, hk, hr⟩ := vcPure_sound hA H
  exact wp_value (hr w (hw ▸ Ext.refl _)) (hn _ _ _ (by rw [hw]; exact hk) (.inr rfl) (Kin.refl w))

theorem partsV_eval {e : Env} {a : Act} (hA : Agree e a.tmps) : ∀ {l : List (Nat × Operand)} {vs : List (Nat × Value)}, partsV e l = some vs → l.map (fun p => (p.1, a.eval p.2)) = vs
  | [], vs, h => by simp [partsV] at h; simp [← h]
  | (i, x) :: l, vs, h => by
    simp only [partsV] at h
    split at h
    · rename_i v vs' hv hvs
      obtain rfl := Option.some.inj h
      simp [opv_eval hA hv, partsV_eval hA hvs]
    · cases h

theorem foldl_put (l : List Value) : ∀ (off k : Nat) (cs : List Value), off + k + l.length ≤ cs.length →
    ((l.zipIdx k).foldl (fun (cs : Array Value) (p : Value × Nat) => cs.setIfInBounds (off + p.2) p.1) cs.toArray) = (cs.take (off + k) ++ l ++ cs.drop (off + k + l.length)).toArray := by
  induction l with
  | nil => intro off k cs h; simp
  | cons v l ih =>
    intro off k cs h
    simp only [List.zipIdx_cons, List.foldl_cons, List.length_cons] at h ⊢
    have e : cs.toArray.setIfInBounds (off + k) v = (cs.set (off + k) v).toArray := by simp
    rw [e, ih off (k + 1) _ (by simp; omega)]
    congr 1
    have hlt : off + k < cs.length := by omega
    rw [show off + (k + 1) = (off + k) + 1 by omega, List.take_succ_eq_append_getElem (by simpa using hlt)]
    simp only [List.getElem_set_self, List.append_assoc, List.cons_append, List.nil_append]
    congr 1
    · rw [List.take_set_of_le (Nat.le_refl _)]
    · congr 2
      rw [List.drop_set_of_lt (by omega)]
      congr 1; omega

theorem fill_put (z : List Value) (off : Nat) (cs : Array Value) (h : off + cs.size ≤ z.length) :
    cs.zipIdx.foldl (fun (a : Array Value) (p : Value × Nat) => a.setIfInBounds (off + p.2) p.1) z.toArray = (z.take off ++ cs.toList ++ z.drop (off + cs.size)).toArray := by
  rw [← Array.foldl_toList, Array.toList_zipIdx]
  have := foldl_put cs.toList off 0 z (by simpa using h)
  simpa using this

theorem info_of {t : TypeId} {z : Value} (h : (P.info? t).bind (·.zero) = some z) : ∃ i, P.info? t = some i ∧ i.zero = some z := Option.bind_eq_some_iff.1 h
theorem run_zero {t : TypeId} {z : Value} (h : (P.info? t).bind (·.zero) = some z) (w : World) : (zeroValue t).run P w = .ok z w := by
  obtain ⟨i, hi, hz⟩ := info_of h
  unfold zeroValue typeInfo; simp [hi, hz]
theorem run_sizeI {t : TypeId} {i : TypeInfo} (h : P.info? t = some i) (w : World) : (sizeOf t).run P w = .ok (P.cellsOf t) w := by
  unfold sizeOf typeInfo; simp [h, Program.cellsOf]

theorem buildK_sound {fs : Array Field} {nz : Nat} {K : List Value → Prop} : ∀ (parts : List (Nat × Value)) (z : List Value), z.length = nz → buildK P fs nz parts z K →
    ∃ l, K l ∧ Instr.fill (fun i => (fs[i]?).map fun f => (f.offset, P.cellsOf f.type)) z.toArray parts = some l.toArray
  | [], z, _, H => ⟨z, H, by simp [Instr.fill]⟩
  | (i, v) :: r, z, hz, H => by
    simp only [buildK] at H
    split at H
    case h_2 => exact H.elim
    rename_i f hf
    split at H
    case h_2 => exact H.elim
    rename_i hle
    have hle' : f.offset + P.cellsOf f.type ≤ z.length := by rw [hz]; exact Nat.le_of_ble_eq_true hle
    have step : ∀ (cs : Array Value), v.cells = cs → cs.size = P.cellsOf f.type → buildK P fs nz r (z.take f.offset ++ cs.toList ++ z.drop (f.offset + P.cellsOf f.type)) K →
        ∃ l, K l ∧ Instr.fill (fun i => (fs[i]?).map fun f => (f.offset, P.cellsOf f.type)) z.toArray ((i, v) :: r) = some l.toArray := by
      intro cs hc hn H
      obtain ⟨l, hk, hl⟩ := buildK_sound r _ (by simp; omega) H
      refine ⟨l, hk, ?_⟩
      have hp := fill_put z f.offset cs (by omega)
      rw [hn] at hp
      have hp' : Array.foldl (fun (a : Array Value) (x : Value × Nat) => match x with | (c, j) => a.setIfInBounds (f.offset + j) c) z.toArray cs.zipIdx = (z.take f.offset ++ cs.toList ++ z.drop (f.offset + P.cellsOf f.type)).toArray := hp
      simp only [Instr.fill, hf, Option.map_some, hc]
      rw [if_neg (by simp [hn]; omega)]
      rw [hp']; exact hl
    have single : v.cells = #[v] → P.cellsOf f.type = 1 → buildK P fs nz r (z.set f.offset v) K →
        ∃ l, K l ∧ Instr.fill (fun i => (fs[i]?).map fun f => (f.offset, P.cellsOf f.type)) z.toArray ((i, v) :: r) = some l.toArray := by
      intro hc h1 H
      refine step _ hc (by simp [h1]) ?_
      have hlt : f.offset < z.length := by omega
      rw [List.set_eq_take_append_cons_drop, if_pos hlt] at H
      rw [h1]
      simpa using H
    cases v
    case agg cs => exact step cs rfl H.1 H.2
    all_goals
      simp only at H
      split at H
      · rename_i h1
        exact single rfl h1 H
      · exact H.elim

theorem seqParts_sound {size : Nat} {p : Prop} : ∀ (parts : List (Nat × Value)) (k n : Nat) (z : List Value), k + parts.length = n → z.length = n * size → seqParts size k parts p →
    p ∧ Instr.fill (fun i => some (i * size, size)) z.toArray parts = some (z.take (k * size) ++ catCells parts).toArray
  | [], k, n, z, hn, hz, H => ⟨H, by simp [Instr.fill, catCells]; rw [List.take_of_length_le (by rw [hz, ← hn]; simp)]⟩
  | (i, v) :: r, k, n, z, hn, hz, H => by
    simp only [seqParts] at H
    split at H
    case h_2 => exact H.elim
    rename_i hik
    obtain rfl : i = k := Nat.eq_of_beq_eq_true hik
    have hfit : i * size + size ≤ z.length := by
      rw [hz, ← Nat.succ_mul]
      exact Nat.mul_le_mul_right _ (by simp at hn; omega)
    have step : ∀ (cs : Array Value), v.cells = cs → cs.size = size → seqParts size (i + 1) r p → p ∧ Instr.fill (fun i => some (i * size, size)) z.toArray ((i, v) :: r) = some (z.take (i * size) ++ catCells ((i, v) :: r)).toArray := by
      intro cs hc hs H
      have hp := fill_put z (i * size) cs (by omega)
      rw [hs] at hp
      have hp' : Array.foldl (fun (a : Array Value) (x : Value × Nat) => match x with | (c, j) => a.setIfInBounds (i * size + j) c) z.toArray cs.zipIdx = (z.take (i * size) ++ cs.toList ++ z.drop (i * size + size)).toArray := hp
      obtain ⟨hpp, hf⟩ := seqParts_sound r (i + 1) n (z.take (i * size) ++ cs.toList ++ z.drop (i * size + size)) (by simp at hn; omega) (by simp; omega) H
      refine ⟨hpp, ?_⟩
      simp only [Instr.fill, hc]
      rw [if_neg (by simp [hs]; omega), hp', hf]
      congr 2
      rw [show (i + 1) * size = i * size + size by rw [Nat.succ_mul]]
      have hl : (z.take (i * size) ++ cs.toList).length = i * size + size := by simp; omega
      rw [List.take_append_of_le_length (by omega), List.take_of_length_le (by omega)]
      simp [catCells, hc]
    have single : v.cells = #[v] → size = 1 → seqParts size (i + 1) r p → p ∧ Instr.fill (fun i => some (i * size, size)) z.toArray ((i, v) :: r) = some (z.take (i * size) ++ catCells ((i, v) :: r)).toArray :=
      fun hc h1 H => step _ hc (by simp [h1]) H
    have step' := step
    clear step
    cases v
    case agg cs =>
      refine step' cs rfl H.1 H.2
    all_goals
      simp only at H
      split at H
      · exact single rfl rfl H
      · exact H.elim
end Go.Vc
