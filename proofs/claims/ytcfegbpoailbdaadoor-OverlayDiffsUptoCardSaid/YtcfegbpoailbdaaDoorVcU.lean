import Derived.Test.YtcfegbpoailbdaaDoorVcV

namespace Go.Vc
set_option linter.unusedVariables false
set_option linter.unusedSimpArgs false

/-! ### slices at a place of a block -/
/-- elements of n cells that may be written and appended to; where their block is one's own is told apart from this -/
structure OwnS (el : TypeId) (n : Nat) (h : Heap) (a : Option Addr) (l c : Nat) (rows : List (List Value)) : Prop where
  len : rows.length = l
  cap : l ≤ c
  row : ∀ r ∈ rows, r.length = n
  own : (a = none ∧ c = 0) ∨ ∃ b o cs, a = some ⟨b, o, none⟩ ∧ h[b]? = some (.cells cs el (0, 0)) ∧ o + c * n ≤ cs.size ∧ (cs.toList.drop o).take (l * n) = rows.flatten
theorem OwnS.nil (el : TypeId) (n : Nat) (h : Heap) : OwnS el n h none 0 0 [] := ⟨rfl, Nat.le_refl _, by simp, .inl ⟨rfl, rfl⟩⟩
theorem OwnR.toS {el : TypeId} {n : Nat} {h0 h : Heap} {a : Option Addr} {l c : Nat} {rows : List (List Value)} (o : OwnR el n h0 h a l c rows) : OwnS el n h a l c rows :=
  ⟨o.len, o.cap, o.row, o.own.imp id fun ⟨b, cs, e, _, h2, h3, h4⟩ => ⟨b, 0, cs, e, h2, by omega, by rw [List.drop_zero]; exact h4⟩⟩
theorem OwnS.keep {S : Nat → Prop} {el : TypeId} {n : Nat} {h h' : Heap} {a : Option Addr} {l c : Nat} {rows : List (List Value)} (o : OwnS el n h a l c rows) (x : Keep S h h') (h2 : ∀ ad, a = some ad → ¬ S ad.block) : OwnS el n h' a l c rows :=
  ⟨o.len, o.cap, o.row, o.own.imp id fun ⟨b, o, cs, e, g1, g2, g3⟩ => ⟨b, o, cs, e, x.blk g1 (h2 _ e), g2, g3⟩⟩
theorem OwnS.grow {el : TypeId} {n : Nat} {h h' : Heap} {a : Option Addr} {l c : Nat} {rows : List (List Value)} (o : OwnS el n h a l c rows) (x : Ext h h') : OwnS el n h' a l c rows :=
  ⟨o.len, o.cap, o.row, o.own.imp id fun ⟨b, o, cs, e, g1, g2, g3⟩ => ⟨b, o, cs, e, x.blk g1, g2, g3⟩⟩
/-- its block holds elements of its type -/
theorem OwnS.type_ {el : TypeId} {n : Nat} {h : Heap} {a : Option Addr} {l c : Nat} {rows : List (List Value)} (o : OwnS el n h a l c rows) {ad : Addr} (e : a = some ad) : ∃ cs, h[ad.block]? = some (.cells cs el (0, 0)) ∧ ad.spot = none := by
  rcases o.own with ⟨e2, _⟩ | ⟨b, o, cs, e2, g, _⟩
  · rw [e] at e2; cases e2
  · rw [e] at e2; cases e2; exact ⟨cs, g, rfl⟩
theorem flat_at {n : Nat} {r : List Value} {j : Nat} {v : Value} (hj : r[j]? = some v) : ∀ (rs : List (List Value)) (i : Nat), (∀ q ∈ rs, q.length = n) → rs[i]? = some r → rs.flatten[i * n + j]? = some v
  | [], i, _, h => by simp at h
  | q :: rs, 0, hq, h => by
    simp at h; subst h
    rw [List.flatten_cons, Nat.zero_mul, Nat.zero_add, List.getElem?_append_left (List.getElem?_eq_some_iff.1 hj).1]; exact hj
  | q :: rs, i + 1, hq, h => by
    have := flat_at hj rs i (fun p hp => hq p (List.mem_cons_of_mem _ hp)) (by simpa using h)
    have hq0 := hq q (by simp)
    rw [List.flatten_cons, List.getElem?_append_right (by rw [hq0, Nat.succ_mul]; omega), hq0, Nat.succ_mul, show i * n + n + j - n = i * n + j by omega]; exact this
theorem OwnS.rows {el : TypeId} {n : Nat} {h : Heap} {a : Option Addr} {l c : Nat} {rows : List (List Value)} (o : OwnS el n h a l c rows) : Tab n h a l c rows := by
  refine ⟨o.len, o.cap, o.row, fun hne => ?_, fun e => ?_⟩
  · rcases o.own with ⟨_, e⟩ | ⟨b, oo, cs, e, h2, h3, h4⟩
    · have := o.cap; have := o.len
      exact absurd (List.eq_nil_of_length_eq_zero (by omega)) hne
    · refine ⟨b, oo, e, blk_lt h2, fun i r hi j v hj => ?_⟩
      have hfl := flat_at hj rows i o.row hi
      rw [← h4, List.getElem?_take] at hfl
      split at hfl
      · rw [cell_blk h2]
        rw [List.getElem?_drop] at hfl
        rw [Nat.add_assoc]; simpa using hfl
      · cases hfl
  · rcases o.own with ⟨_, e2⟩ | ⟨b, oo, cs, e2, _⟩
    · have := o.cap; have := o.len
      exact List.eq_nil_of_length_eq_zero (by omega)
    · rw [e] at e2; cases e2
theorem flat_take {n : Nat} : ∀ (rs : List (List Value)) (k : Nat), (∀ q ∈ rs, q.length = n) → (rs.take k).flatten = rs.flatten.take (k * n)
  | [], k, _ => by simp
  | q :: rs, 0, _ => by simp
  | q :: rs, k + 1, hq => by
    have hq0 := hq q (by simp)
    rw [List.take_succ_cons, List.flatten_cons, List.flatten_cons, flat_take rs k (fun p hp => hq p (List.mem_cons_of_mem _ hp)), List.take_append, hq0, List.take_of_length_le (l := q) (by rw [hq0, Nat.succ_mul]; omega), Nat.succ_mul, show k * n + n - n = k * n by omega]
theorem mul_pred {l n : Nat} (h : 0 < l) : n + (l - 1) * n = l * n := by
  obtain ⟨k, rfl⟩ : ∃ k, l = k + 1 := ⟨l - 1, by omega⟩
  rw [Nat.add_sub_cancel, Nat.succ_mul, Nat.add_comm]
/-- the first ones -/
theorem OwnS.take {el : TypeId} {n : Nat} {h : Heap} {a : Option Addr} {l c : Nat} {rows : List (List Value)} (o : OwnS el n h a l c rows) (k : Nat) (hk : k ≤ l) : OwnS el n h a k c (rows.take k) := by
  refine ⟨by rw [List.length_take, o.len]; omega, by have := o.cap; omega, fun r hr => o.row r (List.mem_of_mem_take hr), o.own.imp id fun ⟨b, oo, cs, e, g1, g2, g3⟩ => ⟨b, oo, cs, e, g1, g2, ?_⟩⟩
  have hf := flat_take rows k o.row
  rw [hf, ← g3, List.take_take]
  have : k * n ≤ l * n := Nat.mul_le_mul_right n hk
  rw [Nat.min_eq_left this]
/-- all but the first one -/
theorem OwnS.tail {el : TypeId} {n : Nat} {h : Heap} {a : Option Addr} {l c : Nat} {r : List Value} {rows : List (List Value)} (o : OwnS el n h a l c (r :: rows)) : OwnS el n h (cutAt c 1 n a) (l - 1) (c - 1) rows := by
  have hl := o.len
  have hc := o.cap
  simp only [List.length_cons] at hl
  refine ⟨by omega, by omega, fun q hq => o.row q (List.mem_cons_of_mem _ hq), ?_⟩
  rcases o.own with ⟨e, e2⟩ | ⟨b, oo, cs, e, g1, g2, g3⟩
  · omega
  · have hr := o.row r (by simp)
    by_cases h1 : c = 1
    · have hrows : rows = [] := List.eq_nil_of_length_eq_zero (by omega)
      subst hrows
      have : cutAt c 1 n a = a := by unfold cutAt; rw [if_pos h1]
      rw [this]
      exact .inr ⟨b, oo, cs, e, g1, by rw [h1]; simp; omega, by rw [show l - 1 = 0 by omega]; simp⟩
    · have : cutAt c 1 n a = some ⟨b, oo + n, none⟩ := by unfold cutAt; rw [if_neg h1, e]; simp [add_mk]
      rw [this]
      refine .inr ⟨b, oo + n, cs, rfl, g1, ?_, ?_⟩
      · have : n + (c - 1) * n = c * n := mul_pred (by omega)
        omega
      · rw [List.flatten_cons] at g3
        have h2 : l * n = n + (l - 1) * n := (mul_pred (by omega)).symm
        have h3 := congrArg (List.drop n) g3
        rw [List.drop_left' hr, h2, List.drop_take, List.drop_drop, Nat.add_sub_cancel_left] at h3
        exact h3
/-- An append to it. -/
theorem appK_S {P : Program} {el : TypeId} {n : Nat} {h : Heap} {l c m : Nat} {a : Option Addr} {x : Value} {rows new : List (List Value)} {K : Option Addr → Nat → Nat → Heap → Prop}
    (hs : P.cellsOf el = n) (o : OwnS el n h a l c rows) (src : srcK h n x m new.flatten) (hnew : new.length = m) (hrow : ∀ r ∈ new, r.length = n) (h1 : ∀ r ∈ new, ∀ u ∈ r, one u = true) (room : (l + m) * P.bytesOf el ≤ 140737488355328)
    (hz : (((P.info? el).bind (·.zero)).getD undef).cells.size = n)
    (hK : ∀ a' c' h', OwnS el n h' a' (l + m) c' (rows ++ new) → Keep (fun k => (∃ ad, a = some ad ∧ ad.block = k) ∨ h.size ≤ k) h h' → (∀ ad, a' = some ad → (∃ ad0, a = some ad0 ∧ ad0.block = ad.block) ∨ (h.size ≤ ad.block ∧ ad.block < h'.size)) → K a' (l + m) c' h') : appK P el h a l c x K := by
  have hfl : new.flatten.length = m * n := by rw [flat_len hrow, hnew]
  have hol : rows.flatten.length = l * n := by rw [flat_len o.row, o.len]
  have hone : ∀ u ∈ new.flatten, one u = true := fun u hu => by
    obtain ⟨r, hr, hur⟩ := List.mem_flatten.1 hu
    exact h1 r hr u hur
  have hrow' : ∀ r ∈ rows ++ new, r.length = n := fun r hr => (List.mem_append.1 hr).elim (o.row r) (hrow r)
  have hlen' : (rows ++ new).length = l + m := by rw [List.length_append, o.len, hnew]
  refine ⟨m, new.flatten, by rw [hs]; exact src, fun hle => ⟨hone, ?_, ?_⟩, fun hgt => ⟨rows.flatten, by rw [hs]; exact hol, o.rows.cells, fun e => by rw [o.rows.nil e]; rfl, growslice_fits hgt room, ?_⟩⟩
  · rintro ad rfl i hi
    rcases o.own with ⟨e, _⟩ | ⟨b, oo, cs, e, g2, g3, g4⟩
    · cases e
    · obtain rfl := Option.some.inj e
      rw [hs, add_mk, add_mk]
      refine Wr_blk g2 ?_ (.inr (Nat.zero_le _))
      have := Nat.mul_le_mul_right n hle
      rw [Nat.add_mul] at this; omega
  · intro h' hput hn
    rcases o.own with ⟨rfl, e⟩ | ⟨b, oo, cs, rfl, g2, g3, g4⟩
    · have hm : m = 0 := by omega
      subst hm
      have hne : new = [] := List.eq_nil_of_length_eq_zero hnew
      subst hne
      rw [hn rfl]
      refine hK _ _ _ ?_ (Keep.refl _ _) (fun ad e => by cases e)
      rw [List.append_nil]; exact o
    · have hp := hput _ rfl
      rw [hs, add_mk, Put] at hp
      have hfit : l * n + m * n ≤ c * n := by rw [← Nat.add_mul]; exact Nat.mul_le_mul_right n hle
      obtain ⟨h3, h4⟩ := setCs_blk new.flatten h b (oo + l * n) 0 cs el (0, 0) g2 (by omega)
      rw [← hp] at h3 h4
      rw [Nat.add_zero, hfl] at h3
      refine hK _ _ _ ⟨hlen', hle, hrow', .inr ⟨b, oo, _, rfl, h3, ?_, ?_⟩⟩ (h4.keep (.inl ⟨_, rfl, rfl⟩)) (fun ad e => by cases e; exact .inl ⟨_, rfl, rfl⟩)
      · simp only [List.size_toArray, List.length_append, List.length_drop, List.length_take, Array.length_toList]
        omega
      · have e1 : cs.toList.take (oo + l * n) = cs.toList.take oo ++ rows.flatten := by rw [List.take_add, g4]
        have e2 : (cs.toList.take oo).length = oo := by simp; omega
        have e3 : (rows ++ new).flatten.length = (l + m) * n := by rw [flat_len hrow', hlen']
        show ((cs.toList.take (oo + l * n) ++ new.flatten ++ cs.toList.drop (oo + l * n + m * n)).drop oo).take ((l + m) * n) = _
        rw [e1, List.append_assoc, List.append_assoc, List.drop_left' e2, ← List.append_assoc, ← List.flatten_append, List.take_left' e3]
  · rintro c' b' h' hc ⟨rfl, rfl⟩
    refine hK _ _ _ ⟨hlen', hc, hrow', .inr ⟨h.size, 0, _, rfl, Array.getElem?_push_size, ?_, ?_⟩⟩ ((Ext.push _ _).keep _) (fun ad e => by cases e; exact .inr ⟨Nat.le_refl _, by simp⟩)
    · simp only [Array.size_append, List.size_toArray, hol, hfl, Builtin.zeroCells, Array.size_map, Array.size_range, hz]
      rw [← Nat.add_mul, ← Nat.add_mul, Nat.zero_add]
      exact Nat.mul_le_mul_right n (by omega)
    · simp only [Array.toList_append, List.toList_toArray, List.drop_zero]
      have : (rows.flatten ++ new.flatten).length = (l + m) * n := by rw [List.length_append, hfl, hol, Nat.add_mul]
      rw [List.take_append_of_le_length (by omega), List.take_of_length_le (by omega), List.flatten_append]
/-- An append that has room: it stays where it is. -/
theorem appK_in {P : Program} {el : TypeId} {n : Nat} {h : Heap} {l c m b oo : Nat} {cs : Array Value} {x : Value} {rows new : List (List Value)} {K : Option Addr → Nat → Nat → Heap → Prop}
    (hs : P.cellsOf el = n) (hb : h[b]? = some (.cells cs el (0, 0))) (fit : oo + c * n ≤ cs.size) (src : srcK h n x m new.flatten) (hnew : new.length = m) (hrow : ∀ r ∈ new, r.length = n) (h1 : ∀ r ∈ new, ∀ u ∈ r, one u = true) (room : l + m ≤ c)
    (hK : ∀ h', h'[b]? = some (.cells (cs.toList.take (oo + l * n) ++ new.flatten ++ cs.toList.drop (oo + l * n + m * n)).toArray el (0, 0)) → Only b h h' → K (some ⟨b, oo, none⟩) (l + m) c h') : appK P el h (some ⟨b, oo, none⟩) l c x K := by
  have hfl : new.flatten.length = m * n := by rw [flat_len hrow, hnew]
  have hone : ∀ u ∈ new.flatten, one u = true := fun u hu => by
    obtain ⟨r, hr, hur⟩ := List.mem_flatten.1 hu
    exact h1 r hr u hur
  have hfit : l * n + m * n ≤ c * n := by rw [← Nat.add_mul]; exact Nat.mul_le_mul_right n room
  refine ⟨m, new.flatten, by rw [hs]; exact src, fun hle => ⟨hone, ?_, ?_⟩, fun hgt => by omega⟩
  · rintro ad e i hi
    obtain rfl := Option.some.inj e
    rw [hs, add_mk, add_mk]
    exact Wr_blk hb (by omega) (.inr (Nat.zero_le _))
  · intro h' hput hn
    have hp := hput _ rfl
    rw [hs, add_mk, Put] at hp
    obtain ⟨h3, h4⟩ := setCs_blk new.flatten h b (oo + l * n) 0 cs el (0, 0) hb (by omega)
    rw [← hp] at h3 h4
    rw [Nat.add_zero, hfl] at h3
    exact hK _ h3 h4
/-- A clear of a slice. -/
theorem semK_clear {P : Program} {t el ty : TypeId} {z : Value} {h : Heap} {b o k c : Nat} {cs : Array Value} {K : Value → Heap → Prop} (ht : P.underlying t = some (.slice el)) (hz : (P.info? el).bind (·.zero) = some z) (hk : 0 < k) (hb : h[b]? = some (.cells cs el (0, 0))) (fit : o + (Builtin.zeroCells z.cells k).size ≤ cs.size) (h1 : ∀ u ∈ (Builtin.zeroCells z.cells k).toList, one u = true)
    (hK : ∀ h', h'[b]? = some (.cells (cs.toList.take o ++ (Builtin.zeroCells z.cells k).toList ++ cs.toList.drop (o + (Builtin.zeroCells z.cells k).size)).toArray el (0, 0)) → Only b h h' → K (.tuple #[]) h') :
    semK P (Builtin.clear_ #[t] ty #[.slice (some ⟨b, o, none⟩) k c]) h K := by
  rintro w rfl
  obtain ⟨k, rfl⟩ : ∃ j, k = j + 1 := ⟨k - 1, by omega⟩
  obtain ⟨h3, h4⟩ := setCs_blk (Builtin.zeroCells z.cells (k + 1)).toList w.heap b o 0 cs el (0, 0) hb (by simpa using fit)
  refine ⟨.tuple #[], { w with heap := setCs w.heap ⟨b, o, none⟩ 0 (Builtin.zeroCells z.cells (k + 1)).toList }, ?_, ⟨rfl, rfl, rfl⟩, hK _ (by simpa using h3) h4⟩
  have hr := run_storeCells (P := P) w ⟨b, o, none⟩ (Builtin.zeroCells z.cells (k + 1)).toList 0 w.heap (fun j hj => by
    rw [add_mk]
    simp at hj
    exact Wr_blk hb (by omega) (.inr (Nat.zero_le _))) h1
  unfold Builtin.clear_
  simp [Sem.run_bind, run_und ht, run_zero hz, hr]

/-! ### maps -/
section
variable {α : Type} [DecidableEq α] {P : Program}
theorem look_del : ∀ (l : List (α × Value)) (a b : α), lookA (delA l a) b = if b = a then none else lookA l b
  | [], a, b => by simp [delA, lookA]
  | (c, u) :: r, a, b => by
    have ih := look_del r a b
    unfold delA at ih ⊢
    rw [List.filter_cons]
    by_cases h : c = a
    · subst h
      simp only [ne_eq, not_true_eq_false, decide_false, Bool.false_eq_true, if_false]
      rw [ih]
      by_cases h2 : b = c
      · simp [h2]
      · simp [lookA, h2]
    · simp only [ne_eq, h, not_false_eq_true, decide_true, if_true]
      unfold lookA
      by_cases h2 : b = c
      · subst h2; simp [h]
      · rw [if_neg h2, if_neg h2, ih]
theorem del_erase : ∀ (l : List (α × Value)) (a : α) (j : Nat) (v : Value), (l.map Prod.fst).Nodup → l[j]? = some (a, v) → delA l a = l.eraseIdx j
  | [], a, j, v, _, h => by simp at h
  | (c, u) :: r, a, 0, v, hn, h => by
    simp at h
    obtain ⟨rfl, rfl⟩ := h
    simp only [List.map_cons, List.nodup_cons] at hn
    unfold delA
    rw [List.filter_cons]
    simp only [ne_eq, not_true_eq_false, decide_false, Bool.false_eq_true, if_false, List.eraseIdx_cons_zero]
    refine List.filter_eq_self.2 fun p hp => ?_
    simp only [decide_eq_true_eq]
    rintro rfl
    exact hn.1 (List.mem_map_of_mem hp)
  | (c, u) :: r, a, j + 1, v, hn, h => by
    simp only [List.map_cons, List.nodup_cons] at hn
    have h' : r[j]? = some (a, v) := by simpa using h
    have hca : c ≠ a := by
      rintro rfl
      exact hn.1 (List.mem_map.2 ⟨_, List.mem_of_getElem? h', rfl⟩)
    have ih := del_erase r a j v hn.2 h'
    unfold delA at ih ⊢
    rw [List.filter_cons]
    simp only [ne_eq, hca, not_false_eq_true, decide_true, if_true, List.eraseIdx_cons_succ]
    rw [ih]
theorem del_none {l : List (α × Value)} {a : α} (h : findA l a 0 = none) : delA l a = l := by
  unfold delA
  refine List.filter_eq_self.2 fun p hp => ?_
  simp only [decide_eq_true_eq]
  exact (findA_none h).2 p hp
theorem erase_map {β γ : Type} (f : β → γ) : ∀ (l : List β) (i : Nat), (l.eraseIdx i).map f = (l.map f).eraseIdx i
  | [], _ => by simp
  | x :: l, 0 => by simp
  | x :: l, i + 1 => by simp [erase_map f l i]
theorem semK_delete {mt kt et ty : TypeId} {ts : List TypeId} {enc : α → Value} {ok : α → Prop} (K : Keyed P kt enc ok) (hm : P.underlying mt = some (.map kt et)) {h : Heap} {r : Nat} {kvs : List (α × Value)} (m : MapAt enc ok h r kvs) {a : α} (ha : ok a) {Kk : Value → Heap → Prop}
    (hK : ∀ h', MapAt enc ok h' r (delA kvs a) → Only r h h' → Kk (.tuple #[]) h') : semK P (Builtin.delete_ (mt :: ts).toArray ty #[.map (some r), enc a]) h Kk := by
  rintro w rfl
  have hlt := m.lt
  obtain ⟨⟨es, clock, hb, he, hn, hc⟩, hk, hok⟩ := m
  cases hf : findA kvs a 0 with
  | none =>
    refine ⟨.tuple #[], { w with heap := w.heap.setIfInBounds r (.map es clock) }, ?_, ⟨rfl, rfl, rfl⟩, hK _ ?_ (set_only _ _ _ hlt).2⟩
    · unfold Builtin.delete_
      simp [Sem.run_bind, run_und hm, run_getM hb, K.chk _ a ha, run_find K ha w es.toList kvs hok he, hf, run_setM _ hb]
    · rw [del_none hf]
      exact ⟨⟨es, clock, (set_only _ _ _ hlt).1, he, hn, hc⟩, hk, hok⟩
  | some p =>
    obtain ⟨i, u⟩ := p
    obtain ⟨j, e0, hj, _⟩ := findA_some hf
    rw [Nat.zero_add] at e0
    subst e0
    have hlist : (es.eraseIdxIfInBounds i).toList = es.toList.eraseIdx i := by simp
    have hd := del_erase kvs a i u hk hj
    refine ⟨.tuple #[], { w with heap := w.heap.setIfInBounds r (.map (es.eraseIdxIfInBounds i) clock) }, ?_, ⟨rfl, rfl, rfl⟩, hK _ ⟨⟨_, _, (set_only _ _ _ hlt).1, ?_, ?_, ?_⟩, ?_, ?_⟩ (set_only _ _ _ hlt).2⟩
    · unfold Builtin.delete_
      simp [Sem.run_bind, run_und hm, run_getM hb, K.chk _ a ha, run_find K ha w es.toList kvs hok he, hf, run_setM _ hb]
    · rw [hlist, hd, erase_map, erase_map, he]
    · rw [hlist, erase_map]
      exact hn.sublist (List.eraseIdx_sublist _ _)
    · rw [hlist]
      intro e hem
      exact hc e (List.mem_of_mem_eraseIdx hem)
    · rw [hd, erase_map]
      exact hk.sublist (List.eraseIdx_sublist _ _)
    · rw [hd]
      intro p hp
      exact hok p (List.mem_of_mem_eraseIdx hp)
end
theorem run_chk_num {P : Program} {e : TypeId} {k : IntKind} (he : P.underlying e = some (.int k)) (em : Bool) (d : Nat) (z : Int) (w : World) : (Instr.checkKey em (d + 1) e (.int k z)).run P w = .ok () w := by
  simp [Instr.checkKey, run_und he]
/-- numbers as keys -/
def intV (n : Int) : Value := .int .i64 n
theorem ints_keyed {P : Program} {t : TypeId} (ht : P.underlying t = some (.int .i64)) : Keyed P t intV (fun _ => True) where
  und := ⟨_, ht, .inl fun a b _ _ => by
    simp only [Instr.sameNow, intV, if_true]
    congr 1⟩
  eq a b _ _ w := by
    have := run_equal_int (P := P) ht 9999 a b w
    exact this
  chk em a _ w := run_chk_num ht em 9999 a w
  same a _ := by simp [intV, Instr.sameBits]
/-- pairs of numbers as keys -/
def pairV (p : Int × Int) : Value := .agg #[.int .i64 p.1, .int .i64 p.2]
theorem run_equal_pair {P : Program} {t ti : TypeId} {f0 f1 : Field} (ht : P.underlying t = some (.struct #[f0, f1])) (hst : P.stoodInHeld t = false) (n0 : (f0.name == "_") = false) (n1 : (f1.name == "_") = false) (t0 : f0.type = ti) (o0 : f0.offset = 0) (t1 : f1.type = ti) (o1 : f1.offset = 1)
    (hti : P.underlying ti = some (.int .i64)) (p q : Int × Int) (w : World) : (Op.equal t (pairV p) (pairV q)).run P w = .ok (decide (p = q)) w := by
  have hp0 : ∀ (r : Int × Int) w, (part ti #[Value.int .i64 r.1, Value.int .i64 r.2] 0).run P w = .ok (.int .i64 r.1) w := fun r w => Vc.run_part_plain hti rfl rfl w
  have hp1 : ∀ (r : Int × Int) w, (part ti #[Value.int .i64 r.1, Value.int .i64 r.2] 1).run P w = .ok (.int .i64 r.2) w := fun r w => Vc.run_part_plain hti rfl rfl w
  have e1 : ∀ (a b : Int) w, (Op.equalIn 9999 ti (.int .i64 a) (.int .i64 b)).run P w = .ok (a == b) w := fun a b w => run_equal_int hti 9998 a b w
  have n0' : f0.name ≠ "_" := by simpa using n0
  have n1' : f1.name ≠ "_" := by simpa using n1
  show (Op.equalIn (9999 + 1) t _ _).run P w = _
  unfold pairV
  generalize 9999 = dd at e1
  obtain ⟨a, b⟩ := p
  obtain ⟨c, d⟩ := q
  have h00 := hp0 (a, b)
  have h01 := hp0 (c, d)
  have h10 := hp1 (a, b)
  have h11 := hp1 (c, d)
  simp only at h00 h01 h10 h11
  simp only [Op.equalIn, Sem.run_bind, run_underlying ht, Result.andThen_ok, hst, Bool.false_eq_true, if_false]
  simp only [List.forIn_toArray, List.forIn_cons, List.forIn_nil, t0, t1, o0, o1, Sem.run_bind, h00, h01, h10, h11, e1, Result.andThen_ok, Sem.run_ite, Sem.run_pure]
  by_cases h1 : a = c
  · subst h1
    by_cases h2 : b = d
    · subst h2
      simp [hst, n0', n1', h00, h01, h10, h11, e1]
    · simp [hst, n0', n1', h00, h01, h10, h11, e1, h2]
  · simp [hst, n0', n1', h00, h01, h10, h11, e1, h1]
theorem pairs_keyed {P : Program} {t ti : TypeId} {f0 f1 : Field} (ht : P.underlying t = some (.struct #[f0, f1])) (hst : P.stoodInHeld t = false) (n0 : (f0.name == "_") = false) (n1 : (f1.name == "_") = false) (t0 : f0.type = ti) (o0 : f0.offset = 0) (t1 : f1.type = ti) (o1 : f1.offset = 1)
    (hti : P.underlying ti = some (.int .i64)) : Keyed P t pairV (fun _ => True) where
  und := ⟨_, ht, .inr fun _ _ => rfl⟩
  eq a b _ _ w := run_equal_pair ht hst n0 n1 t0 o0 t1 o1 hti a b w
  chk em a _ w := by
    have n0' : f0.name ≠ "_" := by simpa using n0
    have n1' : f1.name ≠ "_" := by simpa using n1
    have hp0 : ∀ w, (part ti #[Value.int .i64 a.1, Value.int .i64 a.2] 0).run P w = .ok (.int .i64 a.1) w := fun w => Vc.run_part_plain hti rfl rfl w
    have hp1 : ∀ w, (part ti #[Value.int .i64 a.1, Value.int .i64 a.2] 1).run P w = .ok (.int .i64 a.2) w := fun w => Vc.run_part_plain hti rfl rfl w
    have hi : ∀ (z : Int) w, (Instr.checkKey em 9999 ti (.int .i64 z)).run P w = .ok () w := fun z w => run_chk_num hti em 9998 z w
    show (Instr.checkKey em (9999 + 1) t (pairV a)).run P w = .ok () w
    unfold pairV
    generalize 9999 = dd at hi
    simp only [Instr.checkKey, Sem.run_bind, run_und ht, Result.andThen_ok]
    simp [t0, t1, o0, o1, n0', n1', Sem.run_bind, hp0, hp1, hi]
  same a _ := by simp [pairV, Instr.sameBits]
/-- a map's lookup, whatever else may have turned -/
theorem quiet_lookup {α : Type} [DecidableEq α] {P : Program} {mt kt et : TypeId} {enc : α → Value} {ok : α → Prop} {z : Value} (K : Keyed P kt enc ok) (hm : P.underlying mt = some (.map kt et)) (hz : (P.info? et).bind (·.zero) = some z) {h : Heap} {r : Nat} {kvs : List (α × Value)} (m : MapAt enc ok h r kvs) {a : α} (ha : ok a) (w : World) (e : w.heap[r]? = h[r]?) :
    (Instr.lookup mt (.map (some r)) (enc a) false).run P w = .ok ((lookA kvs a).getD z) w :=
  run_lookup K hm hz (m.block e) ha false
end Go.Vc
