import Derived.Test.YtcfegbpoailbdaaDoorVcT

namespace Go.Vc
set_option linter.unusedVariables false
set_option linter.unusedSimpArgs false

/-! ### locals -/
structure Loc where
  b : Nat
  cs : Array Value
  t : TypeId
/-- A call began over h0; now there is h; these are its own variables, the last made first. -/
structure St (h0 h : Heap) (L : List Loc) : Prop where
  ext : Ext h0 h
  at_ : ∀ (i : Nat) (l : Loc), L[i]? = some l → h0.size ≤ l.b ∧ h[l.b]? = some (.cells l.cs l.t (0, 0))
  apart : ∀ (i j : Nat) (l m : Loc), L[i]? = some l → L[j]? = some m → l.b = m.b → i = j
theorem St.start (h : Heap) : St h h [] := ⟨Ext.refl h, by simp, by simp⟩
theorem St.lt {h0 h : Heap} {L : List Loc} (s : St h0 h L) {i : Nat} {l : Loc} (hi : L[i]? = some l) : l.b < h.size := blk_lt (s.at_ i l hi).2
/-- what grew -/
theorem St.grow {h0 h h' : Heap} {L : List Loc} (s : St h0 h L) (x : Ext h h') : St h0 h' L :=
  ⟨s.ext.trans x, fun i l hi => ⟨(s.at_ i l hi).1, x.blk (s.at_ i l hi).2⟩, s.apart⟩
/-- what was written elsewhere -/
theorem St.keep {S : Nat → Prop} {h0 h h' : Heap} {L : List Loc} (s : St h0 h L) (x : Keep S h h') (h1 : ∀ k, k < h0.size → ¬ S k) (h2 : ∀ (i : Nat) (l : Loc), L[i]? = some l → ¬ S l.b) : St h0 h' L :=
  ⟨⟨Nat.le_trans s.ext.size x.size, fun k hk => (x.block k (Nat.lt_of_lt_of_le hk s.ext.size) (h1 k hk)).trans (s.ext.block k hk)⟩, fun i l hi => ⟨(s.at_ i l hi).1, x.blk (s.at_ i l hi).2 (h2 i l hi)⟩, s.apart⟩
theorem St.new {h0 h : Heap} {L : List Loc} {cs : Array Value} {t : TypeId} {K : Nat → Heap → Prop} (s : St h0 h L) (hK : ∀ b h', St h0 h' (⟨b, cs, t⟩ :: L) → Ext h h' → h.size ≤ b → K b h') : newK h (.cells cs t) K := by
  refine newK_intro fun h' n x e => hK _ _ ⟨s.ext.trans x, fun i l hi => ?_, fun i j l m hi hj he => ?_⟩ x (Nat.le_refl _)
  · cases i with
    | zero => simp at hi; subst hi; exact ⟨s.ext.size, n⟩
    | succ i => exact (s.grow x).at_ i l (by simpa using hi)
  · cases i with
    | zero =>
      cases j with
      | zero => rfl
      | succ j =>
        simp at hi hj; subst hi
        have := s.lt hj
        simp at he; omega
    | succ i =>
      cases j with
      | zero =>
        simp at hi hj; subst hj
        have := s.lt hi
        simp at he; omega
      | succ j => rw [s.apart i j l m (by simpa using hi) (by simpa using hj) he]
theorem St.cell {h0 h : Heap} {L : List Loc} (s : St h0 h L) (i : Nat) {l : Loc} (hi : L[i]? = some l) {k : Nat} {v : Value} (hv : l.cs[k]? = some v) : Vc.cell h ((at0 l.b).add k) = some v := by
  rw [add_at0, cell_blk (s.at_ i l hi).2]; exact hv
theorem St.cell2 {h0 h : Heap} {L : List Loc} (s : St h0 h L) (i : Nat) {l : Loc} (hi : L[i]? = some l) {j k : Nat} {v : Value} (hv : l.cs[j + k]? = some v) : Vc.cell h (((at0 l.b).add j).add k) = some v := by
  rw [add_at0, add_mk, cell_blk (s.at_ i l hi).2]; exact hv
theorem St.cell0 {h0 h : Heap} {L : List Loc} (s : St h0 h L) (i : Nat) {l : Loc} (hi : L[i]? = some l) {v : Value} (hv : l.cs[0]? = some v) : Vc.cell h (at0 l.b) = some v := by
  rw [at0, cell_blk (s.at_ i l hi).2]; exact hv
theorem St.cells {h0 h : Heap} {L : List Loc} (s : St h0 h L) (i : Nat) {l : Loc} (hi : L[i]? = some l) {k : Nat} {vs : List Value} (hv : ∀ j v, vs[j]? = some v → l.cs[k + j]? = some v) : CellsAt h ((at0 l.b).add k) vs := by
  rw [add_at0]
  exact cells_blk (s.at_ i l hi).2 hv
/-- the block of a local, written -/
theorem St.wrote {h0 h h' : Heap} {L : List Loc} (s : St h0 h L) (i : Nat) {l : Loc} (hi : L[i]? = some l) {cs : Array Value} (hb : h'[l.b]? = some (.cells cs l.t (0, 0))) (ho : Only l.b h h') : St h0 h' (L.set i ⟨l.b, cs, l.t⟩) := by
  have hlen : i < L.length := (List.getElem?_eq_some_iff.1 hi).1
  have hnb := (s.at_ i l hi).1
  refine ⟨⟨Nat.le_trans s.ext.size (Nat.le_of_eq ho.size.symm), fun k hk => (ho.block k (by omega)).trans (s.ext.block k hk)⟩, fun j m hj => ?_, fun j k m n hj hk he => ?_⟩
  · rw [List.getElem?_set] at hj
    split at hj
    · rename_i e; subst e
      simp only [hlen, if_true, Option.some.injEq] at hj
      subst hj; exact ⟨hnb, hb⟩
    · rename_i e
      have := s.at_ j m hj
      exact ⟨this.1, ho.blk this.2 fun e2 => e (s.apart i j l m hi hj e2.symm)⟩
  · have ob : ∀ (j : Nat) (m : Loc), (L.set i ⟨l.b, cs, l.t⟩)[j]? = some m → ∃ m', L[j]? = some m' ∧ m'.b = m.b := by
      intro j m hj
      rw [List.getElem?_set] at hj
      split at hj
      · rename_i e; subst e
        simp only [hlen, if_true, Option.some.injEq] at hj
        subst hj; exact ⟨l, hi, rfl⟩
      · exact ⟨m, hj, rfl⟩
    obtain ⟨m', h1, h2⟩ := ob j m hj
    obtain ⟨n', h3, h4⟩ := ob k n hk
    exact s.apart j k m' n' h1 h3 (by rw [h2, h4, he])
theorem St.store {h0 h : Heap} {L : List Loc} {K : Heap → Prop} {v : Value} (s : St h0 h L) (i : Nat) {l : Loc} (hi : L[i]? = some l) {k : Nat} (hk : k < l.cs.size) (h1 : one v = true)
    (hK : ∀ h', St h0 h' (L.set i ⟨l.b, l.cs.setIfInBounds k v, l.t⟩) → Only l.b h h' → K h') : storeK 1 h ((at0 l.b).add k) v K := by
  rw [add_at0]
  exact storeK_one (s.at_ i l hi).2 hk (.inr (Nat.zero_le _)) h1 fun h' hb ho => hK h' (s.wrote i hi hb ho) ho
theorem St.store2 {h0 h : Heap} {L : List Loc} {K : Heap → Prop} {v : Value} (s : St h0 h L) (i : Nat) {l : Loc} (hi : L[i]? = some l) {j k : Nat} (hk : j + k < l.cs.size) (h1 : one v = true)
    (hK : ∀ h', St h0 h' (L.set i ⟨l.b, l.cs.setIfInBounds (j + k) v, l.t⟩) → Only l.b h h' → K h') : storeK 1 h (((at0 l.b).add j).add k) v K := by
  rw [add_at0, add_mk, ← add_at0]
  exact s.store i hi hk h1 hK
theorem St.storeAll {h0 h : Heap} {L : List Loc} {K : Heap → Prop} {n : Nat} {vs : Array Value} (s : St h0 h L) (i : Nat) {l : Loc} (hi : L[i]? = some l) (hn : vs.size = n) (hs : l.cs.size = n) (h1 : ∀ u ∈ vs.toList, one u = true)
    (hK : ∀ h', St h0 h' (L.set i ⟨l.b, vs, l.t⟩) → Only l.b h h' → K h') : storeK n h (at0 l.b) (.agg vs) K :=
  storeK_whole (s.at_ i l hi).2 hn hs h1 fun h' hb ho => hK h' (s.wrote i hi hb ho) ho
/-- a store into a local keeps all that lies elsewhere -/
theorem St.only {h0 h h' : Heap} {L : List Loc} (s : St h0 h L) {i : Nat} {l : Loc} (hi : L[i]? = some l) (ho : Only l.b h h') {hx : Heap} (x : Ext hx h) (hb : hx.size ≤ l.b) : Ext hx h' :=
  ⟨Nat.le_trans x.size (Nat.le_of_eq ho.size.symm), fun k hk => (ho.block k (by omega)).trans (x.block k hk)⟩

/-! ### slices whose elements have n cells -/
/-- a slice that may be read: its elements' cells -/
structure Tab (n : Nat) (h : Heap) (a : Option Addr) (l c : Nat) (rows : List (List Value)) : Prop where
  len : rows.length = l
  cap : l ≤ c
  row : ∀ r ∈ rows, r.length = n
  at_ : rows ≠ [] → ∃ b o, a = some ⟨b, o, none⟩ ∧ b < h.size ∧ ∀ i r, rows[i]? = some r → ∀ j v, r[j]? = some v → cell h ⟨b, o + i * n + j, none⟩ = some v
  nil : a = none → rows = []
theorem Tab.block {n : Nat} {h h' : Heap} {a : Option Addr} {l c : Nat} {rows : List (List Value)} (w : Tab n h a l c rows) (x : ∀ k o, a = some ⟨k, o, none⟩ → h'[k]? = h[k]?) : Tab n h' a l c rows := by
  refine ⟨w.len, w.cap, w.row, fun hne => ?_, w.nil⟩
  obtain ⟨b, o, e, hb, hc⟩ := w.at_ hne
  have hx := x b o e
  refine ⟨b, o, e, ?_, fun i r hi j v hj => ?_⟩
  · have h1 : h[b]? = some (h[b]'hb) := Array.getElem?_eq_getElem hb
    rw [h1] at hx
    exact blk_lt hx
  · rw [← hc i r hi j v hj]; simp only [cell, hx]
theorem Tab.grow {n : Nat} {h h' : Heap} {a : Option Addr} {l c : Nat} {rows : List (List Value)} (w : Tab n h a l c rows) (x : Ext h h') : Tab n h' a l c rows := by
  refine ⟨w.len, w.cap, w.row, fun hne => ?_, w.nil⟩
  obtain ⟨b, o, e, hb, hc⟩ := w.at_ hne
  exact ⟨b, o, e, Nat.lt_of_lt_of_le hb x.size, fun i r hi j v hj => x.some (hc i r hi j v hj)⟩
theorem Tab.empty (n c : Nat) (h : Heap) (a : Option Addr) : Tab n h a 0 c [] := ⟨rfl, Nat.zero_le _, by simp, fun h => absurd rfl h, fun _ => rfl⟩
/-- the i-th element's j-th cell -/
theorem Tab.get {n : Nat} {h : Heap} {a : Option Addr} {l c : Nat} {rows : List (List Value)} (w : Tab n h a l c rows) {i : Nat} {r : List Value} (hi : rows[i]? = some r) :
    ∃ q, a = some q ∧ i < l ∧ ∀ j v, r[j]? = some v → cell h ((q.add (i * n)).add j) = some v := by
  have hlt := (List.getElem?_eq_some_iff.1 hi).1
  obtain ⟨b, o, e, hb, hc⟩ := w.at_ (fun e => by rw [e] at hlt; simp at hlt)
  refine ⟨_, e, by have := w.len; omega, fun j v hj => ?_⟩
  rw [add_mk, add_mk]; exact hc i r hi j v hj
theorem flat_get {n : Nat} : ∀ {rows : List (List Value)} (k : Nat) (v : Value), (∀ r ∈ rows, r.length = n) → rows.flatten[k]? = some v → ∃ i r j, k = i * n + j ∧ j < n ∧ rows[i]? = some r ∧ r[j]? = some v
  | [], k, v, _, h => by simp at h
  | r :: rs, k, v, hr, h => by
    have hrl := hr r (by simp)
    rw [List.flatten_cons] at h
    by_cases hk : k < n
    · rw [List.getElem?_append_left (by omega)] at h
      exact ⟨0, r, k, by omega, hk, rfl, h⟩
    · rw [List.getElem?_append_right (by omega), hrl] at h
      obtain ⟨i, r', j, e, hj, h1, h2⟩ := flat_get (k - n) v (fun q hq => hr q (List.mem_cons_of_mem _ hq)) h
      exact ⟨i + 1, r', j, by rw [Nat.succ_mul]; omega, hj, by simpa using h1, h2⟩
theorem flat_len {n : Nat} : ∀ {rows : List (List Value)}, (∀ r ∈ rows, r.length = n) → rows.flatten.length = rows.length * n
  | [], _ => by simp
  | r :: rs, h => by
    rw [List.flatten_cons, List.length_append, h r (by simp), flat_len fun q hq => h q (List.mem_cons_of_mem _ hq), List.length_cons, Nat.succ_mul]; omega
theorem Tab.cells {n : Nat} {h : Heap} {a : Option Addr} {l c : Nat} {rows : List (List Value)} (w : Tab n h a l c rows) : ∀ ad, a = some ad → CellsAt h ad rows.flatten := by
  intro ad e k v hv
  obtain ⟨i, r, j, ek, hj, h1, h2⟩ := flat_get k v w.row hv
  obtain ⟨q, e2, _, hc⟩ := w.get h1
  rw [e] at e2
  obtain rfl := Option.some.inj e2
  have := hc j v h2
  obtain ⟨b, o, e3, hb, _⟩ := w.at_ (fun e => by rw [e] at h1; simp at h1)
  rw [e] at e3
  obtain rfl := Option.some.inj e3
  rw [add_mk, add_mk] at this
  rw [add_mk, ek, ← Nat.add_assoc]; exact this
theorem Tab.src {n : Nat} {h : Heap} {a : Option Addr} {l c : Nat} {rows : List (List Value)} (w : Tab n h a l c rows) : srcK h n (.slice a l c) l rows.flatten :=
  srcK_slice (by rw [flat_len w.row, w.len]) w.cells fun e => by rw [w.nil e]; rfl
/-- fewer of them -/
theorem Tab.take {n : Nat} {h : Heap} {a : Option Addr} {l c : Nat} {rows : List (List Value)} (w : Tab n h a l c rows) (k : Nat) (hk : k ≤ l) : Tab n h a k c (rows.take k) := by
  refine ⟨by rw [List.length_take, w.len]; omega, by have := w.cap; omega, fun r hr => w.row r (List.mem_of_mem_take hr), fun hne => ?_, fun e => by rw [w.nil e]; simp⟩
  obtain ⟨b, o, e, hb, hc⟩ := w.at_ (fun e => hne (by rw [e]; simp))
  refine ⟨b, o, e, hb, fun i r hi => hc i r ?_⟩
  rw [List.getElem?_take] at hi
  split at hi
  · exact hi
  · cases hi
theorem cutAt0 (m sz : Nat) (a : Option Addr) : cutAt m 0 sz a = a := by
  unfold cutAt; split
  · rfl
  · cases a with
    | none => rfl
    | some q => simp [Addr.add]

/-- .. that the call made itself, or nil: it may be appended to -/
structure OwnR (el : TypeId) (n : Nat) (h0 h : Heap) (a : Option Addr) (l c : Nat) (rows : List (List Value)) : Prop where
  len : rows.length = l
  cap : l ≤ c
  row : ∀ r ∈ rows, r.length = n
  own : (a = none ∧ c = 0) ∨ ∃ b cs, a = some ⟨b, 0, none⟩ ∧ h0.size ≤ b ∧ h[b]? = some (.cells cs el (0, 0)) ∧ c * n ≤ cs.size ∧ cs.toList.take (l * n) = rows.flatten
  ext : Ext h0 h
theorem OwnR.nil (el : TypeId) (n : Nat) {h0 h : Heap} (x : Ext h0 h) : OwnR el n h0 h none 0 0 [] := ⟨rfl, Nat.le_refl _, by simp, .inl ⟨rfl, rfl⟩, x⟩
theorem OwnR.new_ {el : TypeId} {n : Nat} {h0 h : Heap} {b l : Nat} {rows : List (List Value)} (hb : h[b]? = some (.cells rows.flatten.toArray el (0, 0))) (x : Ext h0 h) (hB : h0.size ≤ b) (hr : ∀ r ∈ rows, r.length = n) (hl : rows.length = l) : OwnR el n h0 h (some ⟨b, 0, none⟩) l l rows :=
  ⟨hl, Nat.le_refl _, hr, .inr ⟨b, _, rfl, hB, hb, by simp only [List.size_toArray]; rw [flat_len hr, hl]; exact Nat.le_refl _, by rw [List.take_of_length_le (by simp only []; rw [flat_len hr, hl]; exact Nat.le_refl _)]⟩, x⟩
theorem OwnR.grow {el : TypeId} {n : Nat} {h0 h h' : Heap} {a : Option Addr} {l c : Nat} {rows : List (List Value)} (o : OwnR el n h0 h a l c rows) (x : Ext h h') : OwnR el n h0 h' a l c rows :=
  ⟨o.len, o.cap, o.row, o.own.imp id fun ⟨b, cs, e, h1, h2, h3, h4⟩ => ⟨b, cs, e, h1, x.blk h2, h3, h4⟩, o.ext.trans x⟩
/-- writes elsewhere -/
theorem OwnR.keep {S : Nat → Prop} {el : TypeId} {n : Nat} {h0 h h' : Heap} {a : Option Addr} {l c : Nat} {rows : List (List Value)} (o : OwnR el n h0 h a l c rows) (x : Keep S h h') (h1 : ∀ k, k < h0.size → ¬ S k) (h2 : ∀ k, a = some ⟨k, 0, none⟩ → ¬ S k) : OwnR el n h0 h' a l c rows :=
  ⟨o.len, o.cap, o.row, o.own.imp id fun ⟨b, cs, e, g1, g2, g3, g4⟩ => ⟨b, cs, e, g1, x.blk g2 (h2 b e), g3, g4⟩, ⟨Nat.le_trans o.ext.size x.size, fun k hk => (x.block k (Nat.lt_of_lt_of_le hk o.ext.size) (h1 k hk)).trans (o.ext.block k hk)⟩⟩
theorem OwnR.rows {el : TypeId} {n : Nat} {h0 h : Heap} {a : Option Addr} {l c : Nat} {rows : List (List Value)} (o : OwnR el n h0 h a l c rows) : Tab n h a l c rows := by
  refine ⟨o.len, o.cap, o.row, fun hne => ?_, fun e => ?_⟩
  · rcases o.own with ⟨_, e⟩ | ⟨b, cs, e, h1, h2, h3, h4⟩
    · have := o.cap; have := o.len
      exact absurd (List.eq_nil_of_length_eq_zero (by omega)) hne
    · refine ⟨b, 0, e, blk_lt h2, fun i r hi j v hj => ?_⟩
      have hlt := (List.getElem?_eq_some_iff.1 hi).1
      have hr := o.row r (List.mem_of_getElem? hi)
      have hjlt := (List.getElem?_eq_some_iff.1 hj).1
      have hfl : rows.flatten[i * n + j]? = some v := by
        have : ∀ (rs : List (List Value)) (i : Nat), (∀ q ∈ rs, q.length = n) → rs[i]? = some r → rs.flatten[i * n + j]? = some v := by
          intro rs
          induction rs with
          | nil => intro i _ h; simp at h
          | cons q rs ih =>
            intro i hq h
            have hq0 := hq q (by simp)
            cases i with
            | zero => simp at h; subst h; rw [List.flatten_cons, Nat.zero_mul, Nat.zero_add, List.getElem?_append_left hjlt]; exact hj
            | succ i =>
              have := ih i (fun p hp => hq p (List.mem_cons_of_mem _ hp)) (by simpa using h)
              rw [List.flatten_cons, List.getElem?_append_right (by rw [hq0, Nat.succ_mul]; omega), hq0, Nat.succ_mul, show i * n + n + j - n = i * n + j by omega]; exact this
        exact this rows i o.row hi
      rw [← h4] at hfl
      rw [List.getElem?_take] at hfl
      split at hfl
      · rw [cell_blk h2, Nat.zero_add]; simpa using hfl
      · cases hfl
  · rcases o.own with ⟨_, e2⟩ | ⟨b, cs, e2, _⟩
    · have := o.cap; have := o.len
      exact List.eq_nil_of_length_eq_zero (by omega)
    · rw [e] at e2; cases e2
theorem OwnR.lt {el : TypeId} {n : Nat} {h0 h : Heap} {a : Option Addr} {l c : Nat} {rows : List (List Value)} (o : OwnR el n h0 h a l c rows) : ∀ k, a = some ⟨k, 0, none⟩ → h0.size ≤ k ∧ k < h.size := by
  intro k e
  rcases o.own with ⟨e2, _⟩ | ⟨b, cs, e2, h1, h2, _⟩
  · rw [e] at e2; cases e2
  · rw [e] at e2; cases e2; exact ⟨h1, blk_lt h2⟩
/-- An append to it. -/
theorem appK_R {P : Program} {el : TypeId} {n : Nat} {h0 h : Heap} {l c m : Nat} {a : Option Addr} {x : Value} {rows new : List (List Value)} {K : Option Addr → Nat → Nat → Heap → Prop}
    (hs : P.cellsOf el = n) (o : OwnR el n h0 h a l c rows) (src : srcK h n x m new.flatten) (hnew : new.length = m) (hrow : ∀ r ∈ new, r.length = n) (h1 : ∀ r ∈ new, ∀ u ∈ r, one u = true) (room : (l + m) * P.bytesOf el ≤ 140737488355328)
    (hz : (((P.info? el).bind (·.zero)).getD undef).cells.size = n)
    (hK : ∀ a' c' h', OwnR el n h0 h' a' (l + m) c' (rows ++ new) → Keep (fun k => a = some ⟨k, 0, none⟩ ∨ h.size ≤ k) h h' → (∀ k, a' = some ⟨k, 0, none⟩ → a = some ⟨k, 0, none⟩ ∨ h.size ≤ k) → K a' (l + m) c' h') : appK P el h a l c x K := by
  have hfl : new.flatten.length = m * n := by rw [flat_len hrow, hnew]
  have hol : rows.flatten.length = l * n := by rw [flat_len o.row, o.len]
  have hone : ∀ u ∈ new.flatten, one u = true := fun u hu => by
    obtain ⟨r, hr, hur⟩ := List.mem_flatten.1 hu
    exact h1 r hr u hur
  have hrow' : ∀ r ∈ rows ++ new, r.length = n := fun r hr => (List.mem_append.1 hr).elim (o.row r) (hrow r)
  have hlen' : (rows ++ new).length = l + m := by rw [List.length_append, o.len, hnew]
  refine ⟨m, new.flatten, by rw [hs]; exact src, fun hle => ⟨hone, ?_, ?_⟩, fun hgt => ⟨rows.flatten, by rw [hs]; exact hol, o.rows.cells, fun e => by rw [o.rows.nil e]; rfl, growslice_fits hgt room, ?_⟩⟩
  · rintro ad rfl i hi
    rcases o.own with ⟨e, _⟩ | ⟨b, cs, e, g1, g2, g3, g4⟩
    · cases e
    · obtain rfl := Option.some.inj e
      rw [hs, add_mk, add_mk, Nat.zero_add]
      refine Wr_blk g2 ?_ (.inr (Nat.zero_le _))
      have := Nat.mul_le_mul_right n hle
      rw [Nat.add_mul] at this; omega
  · intro h' hput hn
    rcases o.own with ⟨rfl, e⟩ | ⟨b, cs, rfl, g1, g2, g3, g4⟩
    · have hm : m = 0 := by omega
      subst hm
      have hne : new = [] := List.eq_nil_of_length_eq_zero hnew
      subst hne
      rw [hn rfl]
      have hl0 : l = 0 := by have := o.cap; omega
      refine hK _ _ _ ?_ (Keep.refl _ _) (fun k e => .inl e)
      rw [List.append_nil]; exact o
    · have hp := hput _ rfl
      rw [hs, add_mk, Nat.zero_add, Put] at hp
      have hfit : l * n + m * n ≤ c * n := by rw [← Nat.add_mul]; exact Nat.mul_le_mul_right n hle
      obtain ⟨h3, h4⟩ := setCs_blk new.flatten h b (l * n) 0 cs el (0, 0) g2 (by omega)
      rw [← hp] at h3 h4
      rw [Nat.add_zero, hfl, g4] at h3
      refine hK _ _ _ ⟨hlen', hle, hrow', .inr ⟨b, _, rfl, g1, h3, ?_, ?_⟩, ?_⟩ (h4.keep (.inl rfl)) (fun k e => .inl e)
      · simp only [List.size_toArray, List.length_append, List.length_drop, Array.length_toList]
        omega
      · have : (rows.flatten ++ new.flatten).length = (l + m) * n := by rw [List.length_append, hfl, hol, Nat.add_mul]
        show ((rows.flatten ++ new.flatten) ++ _).take ((l + m) * n) = _
        rw [List.take_append_of_le_length (by omega), List.take_of_length_le (by omega), List.flatten_append]
      · exact ⟨Nat.le_trans o.ext.size (Nat.le_of_eq h4.size.symm), fun k hk => (h4.block k (by omega)).trans (o.ext.block k hk)⟩
  · rintro c' b' h' hc ⟨rfl, rfl⟩
    refine hK _ _ _ ⟨hlen', hc, hrow', .inr ⟨h.size, _, rfl, o.ext.size, Array.getElem?_push_size, ?_, ?_⟩, o.ext.trans (Ext.push _ _)⟩ ((Ext.push _ _).keep _) (fun k e => by cases e; exact .inr (Nat.le_refl _))
    · simp only [Array.size_append, List.size_toArray, hol, hfl, Builtin.zeroCells, Array.size_map, Array.size_range, hz]
      rw [← Nat.add_mul, ← Nat.add_mul]
      exact Nat.mul_le_mul_right n (by omega)
    · simp only [Array.toList_append, List.toList_toArray]
      have : (rows.flatten ++ new.flatten).length = (l + m) * n := by rw [List.length_append, hfl, hol, Nat.add_mul]
      rw [List.take_append_of_le_length (by omega), List.take_of_length_le (by omega), List.flatten_append]
end Go.Vc
