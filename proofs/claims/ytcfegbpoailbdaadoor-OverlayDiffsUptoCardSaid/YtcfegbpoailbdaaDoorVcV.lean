import Derived.Test.YtcfegbpoailbdaaDoorVcY
import Derived.Test.YtcfegbpoailbdaaDoorVcX

namespace Go.Vc
set_option linter.unusedVariables false
theorem flat_set {n : Nat} : ∀ {rows : List (List Value)} {i j : Nat} {r : List Value} {v : Value}, (∀ q ∈ rows, q.length = n) → rows[i]? = some r → j < n → (rows.set i (r.set j v)).flatten = rows.flatten.set (i * n + j) v
  | [], i, j, r, v, _, h, _ => by simp at h
  | q :: rs, i, j, r, v, hq, h, hj => by
    have hq0 := hq q (by simp)
    cases i with
    | zero =>
      simp at h; subst h
      rw [List.set_cons_zero, List.flatten_cons, List.flatten_cons, Nat.zero_mul, Nat.zero_add, List.set_append_left _ _ (by omega)]
    | succ i =>
      rw [List.set_cons_succ, List.flatten_cons, List.flatten_cons, flat_set (fun p hp => hq p (List.mem_cons_of_mem _ hp)) (by simpa using h) hj, List.set_append_right _ _ (by rw [hq0, Nat.succ_mul]; omega), hq0, Nat.succ_mul]
      congr 2; omega
/-- a cell of one's own slice, written -/
theorem OwnR.store {el : TypeId} {n : Nat} {h0 h : Heap} {a : Option Addr} {l c : Nat} {rows : List (List Value)} {i j : Nat} {r : List Value} {v : Value} {K : Heap → Prop} (o : OwnR el n h0 h a l c rows) (hi : rows[i]? = some r) (hj : j < n) (h1 : one v = true)
    (hK : ∀ h', OwnR el n h0 h' a l c (rows.set i (r.set j v)) → (∀ b, a = some ⟨b, 0, none⟩ → Only b h h') → K h') {q : Addr} (hq : a = some q) : storeK 1 h ((q.add (i * n)).add j) v K := by
  have hlt := (List.getElem?_eq_some_iff.1 hi).1
  have hr := o.row r (List.mem_of_getElem? hi)
  have hmul : (i + 1) * n ≤ l * n := Nat.mul_le_mul_right n (by have := o.len; omega)
  rw [Nat.succ_mul] at hmul
  rcases o.own with ⟨e, _⟩ | ⟨b, cs, e, g1, g2, g3, g4⟩
  · rw [e] at hq; cases hq
  · rw [e] at hq; cases hq
    have hcap : l * n ≤ c * n := Nat.mul_le_mul_right n o.cap
    rw [add_mk, add_mk, Nat.zero_add]
    refine storeK_one g2 (by omega) (.inr (Nat.zero_le _)) h1 fun h' hb ho => hK h' ⟨by rw [List.length_set]; exact o.len, o.cap, fun q hq => ?_, .inr ⟨b, _, e, g1, hb, by simpa using g3, ?_⟩, ?_⟩ (fun b' e' => by rw [e] at e'; cases e'; exact ho)
    · rcases List.mem_or_eq_of_mem_set hq with hq | rfl
      · exact o.row q hq
      · rw [List.length_set]; exact hr
    · rw [flat_set o.row hi hj, ← g4]
      simp only [Array.toList_setIfInBounds]
      rw [List.take_set]
    · exact ⟨Nat.le_trans o.ext.size (Nat.le_of_eq ho.size.symm), fun k hk => (ho.block k (by omega)).trans (o.ext.block k hk)⟩
/-- .. of another type lies elsewhere -/
theorem OwnR.type_ne {el el' : TypeId} {n n' : Nat} {h0 h0' h : Heap} {a a' : Option Addr} {l l' c c' : Nat} {rows rows' : List (List Value)} (o : OwnR el n h0 h a l c rows) (o' : OwnR el' n' h0' h a' l' c' rows') (he : el ≠ el') : ∀ k k', a = some ⟨k, 0, none⟩ → a' = some ⟨k', 0, none⟩ → k ≠ k' := by
  intro k k' e e' hk
  subst hk
  rcases o.own with ⟨e2, _⟩ | ⟨b, cs, e2, h1, h2, _⟩
  · rw [e] at e2; cases e2
  · rcases o'.own with ⟨e3, _⟩ | ⟨b', cs', e3, h3, h4, _⟩
    · rw [e'] at e3; cases e3
    · rw [e] at e2; rw [e'] at e3
      cases e2; cases e3
      rw [h2] at h4
      injection h4 with h4; injection h4 with _ h4; exact he h4
/-- a local that is read, whatever comes -/
theorem St.quiet {P : Program} {h0 h : Heap} {L : List Loc} (s : St h0 h L) (i : Nat) {l : Loc} (hi : L[i]? = some l) {k : Nat} {v : Value} {t : TypeId} {d : TypeDesc} (hv : l.cs[k]? = some v) (hd : P.underlying t = some d) (hp : plainD d = true) : ∀ w : World, Ext h w.heap → (loadVar t ((at0 l.b).add k)).run P w = .ok v w := by
  intro w x
  have hc' : w.cell? ((at0 l.b).add k) = some v := x.some (s.cell i hi hv)
  unfold loadVar
  simp [Sem.run_bind, run_isAgg_false hd hp, hc']
theorem St.quietAgg {P : Program} {h0 h : Heap} {L : List Loc} (s : St h0 h L) (i : Nat) {l : Loc} (hi : L[i]? = some l) {t : TypeId} {d : TypeDesc} (hd : P.underlying t = some d) (hp : plainD d = false) (hn : l.cs.size = P.cellsOf t) : ∀ w : World, Ext h w.heap → (loadVar t (at0 l.b)).run P w = .ok (.agg l.cs) w := by
  intro w x
  have hc : CellsAt w.heap (at0 l.b) l.cs.toList := by
    have := (s.cells i hi (k := 0) (vs := l.cs.toList) fun j v hv => by simpa using hv).ext x
    rw [add_at0] at this; exact this
  have hr := run_cells (P := P) hc
  simp only [Array.length_toList] at hr
  unfold loadVar
  simp [Sem.run_bind, run_isAgg_true hd hp, run_size hd, ← hn, hr]
theorem OwnR.since {el : TypeId} {n : Nat} {h0 h1 h : Heap} {a : Option Addr} {l c : Nat} {rows : List (List Value)} (o : OwnR el n h1 h a l c rows) (x : Ext h0 h1) : OwnR el n h0 h a l c rows :=
  ⟨o.len, o.cap, o.row, o.own.imp id fun ⟨b, cs, e, g1, g⟩ => ⟨b, cs, e, Nat.le_trans x.size g1, g⟩, x.trans o.ext⟩
theorem run_loadAgg {P : Program} {w : World} {b : Nat} {cs : Array Value} {t t' : TypeId} {d : TypeDesc} (hb : w.heap[b]? = some (.cells cs t' (0, 0))) (hd : P.underlying t = some d) (hp : plainD d = false) (hn : cs.size = P.cellsOf t) : (loadVar t (at0 b)).run P w = .ok (.agg cs) w := by
  have hc : CellsAt w.heap (at0 b) cs.toList := cells_blk0 hb
  have hr := run_cells (P := P) hc
  simp only [Array.length_toList] at hr
  unfold loadVar
  simp [Sem.run_bind, run_isAgg_true hd hp, run_size hd, ← hn, hr]
/-- a local and a slice of one's own of another type -/
theorem OwnR.loc_ne {el : TypeId} {n : Nat} {h0 h0' h : Heap} {a : Option Addr} {l c : Nat} {rows : List (List Value)} {L : List Loc} (o : OwnR el n h0 h a l c rows) (s : St h0' h L) {i : Nat} {x : Loc} (hi : L[i]? = some x) (he : x.t ≠ el) : ∀ k, a = some ⟨k, 0, none⟩ → k ≠ x.b := by
  intro k e hk
  subst hk
  rcases o.own with ⟨e2, _⟩ | ⟨b, cs, e2, h1, h2, _⟩
  · rw [e] at e2; cases e2
  · rw [e] at e2; cases e2
    have := (s.at_ i x hi).2
    rw [h2] at this
    injection this with this; injection this with _ this; exact he this.symm
theorem run_loadCell {P : Program} {w : World} {ad : Addr} {v : Value} {t : TypeId} {d : TypeDesc} (hc : cell w.heap ad = some v) (hd : P.underlying t = some d) (hp : plainD d = true) : (loadVar t ad).run P w = .ok v w := by
  have hc' : w.cell? ad = some v := hc
  unfold loadVar
  simp [Sem.run_bind, run_isAgg_false hd hp, hc']
/-- what is read in memory of which the blocks below B stay -/
theorem Keep.cell {B : Nat} {h h' : Heap} (x : Keep (B ≤ ·) h h') {ad : Addr} {v : Value} (hc : Vc.cell h ad = some v) (hb : ad.block < B) : Vc.cell h' ad = some v := by
  have := x.block ad.block (lt_of_cell hc) (by omega)
  rw [← hc]; simp only [Vc.cell, this]
theorem St.tail {h0 h : Heap} {x : Loc} {L : List Loc} (s : St h0 h (x :: L)) : St h0 h L :=
  ⟨s.ext, fun i l hl => s.at_ (i + 1) l hl, fun i j l m hi hj he => by have := s.apart (i + 1) (j + 1) l m hi hj he; omega⟩
theorem St.swap {h0 h : Heap} {x y : Loc} {L : List Loc} (s : St h0 h (x :: y :: L)) : St h0 h (y :: x :: L) := by
  have fx : ∀ (i : Nat) (l : Loc), (y :: x :: L)[i]? = some l → (x :: y :: L)[if i = 0 then 1 else if i = 1 then 0 else i]? = some l := by
    intro i l hl
    match i, hl with
    | 0, hl => exact hl
    | 1, hl => exact hl
    | i + 2, hl => exact hl
  refine ⟨s.ext, fun i l hl => s.at_ _ l (fx i l hl), fun i j l m hi hj he => ?_⟩
  have := s.apart _ _ l m (fx i l hi) (fx j m hj) he
  match i, j with
  | 0, 0 => rfl
  | 0, 1 => simp at this
  | 1, 0 => simp at this
  | 1, 1 => rfl
  | 0, j + 2 => simp at this
  | 1, j + 2 => simp at this
  | i + 2, 0 => simp at this
  | i + 2, 1 => simp at this
  | i + 2, j + 2 => simpa using this
/-- an append to a slice of one's own leaves the locals -/
theorem St.app {el : TypeId} {n : Nat} {h0 h h' : Heap} {a : Option Addr} {l c : Nat} {rows : List (List Value)} {L : List Loc} (s : St h0 h L) (o : OwnR el n h0 h a l c rows) (hL : ∀ (i : Nat) (x : Loc), L[i]? = some x → x.t ≠ el) (k : Keep (fun k => a = some ⟨k, 0, none⟩ ∨ h.size ≤ k) h h') : St h0 h' L :=
  s.keep k (fun k hk hs => by
    rcases hs with hs | hs
    · have := (o.lt k hs).1; omega
    · have := s.ext.size; omega) (fun i x hx hs => by
    rcases hs with hs | hs
    · exact o.loc_ne s hx (hL i x hx) _ hs rfl
    · have := s.lt hx; omega)
end Go.Vc
