import Derived.Test.YtcfegbpoailbdaaDoorVcN
import Derived.Laws.Append

namespace Go.Vc
set_option linter.unusedVariables false

theorem Keep.of_only {b B : Nat} {h h' : Heap} (x : Only b h h') (hb : B ≤ b) : Keep (B ≤ ·) h h' := x.keep hb
theorem Keep.ext_of {B : Nat} {h h' : Heap} (x : Keep (B ≤ ·) h h') (hB : h.size ≤ B) : Ext h h' := x.ext fun k hk hs => by omega
theorem CellsAt.keep {S : Nat → Prop} {h h' : Heap} {b o : Nat} {l : List Value} (c : CellsAt h ⟨b, o, none⟩ l) (k : Keep S h h') (hb : ¬ S b) : CellsAt h' ⟨b, o, none⟩ l := by
  intro i v hv
  have := c i v hv
  rw [add_mk] at this ⊢
  have hlt : b < h.size := lt_of_cell this
  have e := k.block b hlt hb
  rw [← this]
  simp only [cell, e]

/-- A slice at a block's beginning, of the call's own making (no block below B): these values. -/
structure Own (el : TypeId) (h : Heap) (B : Nat) (a : Option Addr) (l c : Nat) (vs : List Value) : Prop where
  len : vs.length = l
  cap : l ≤ c
  ex : ∃ b cs, a = some ⟨b, 0, none⟩ ∧ B ≤ b ∧ h[b]? = some (.cells cs el (0, 0)) ∧ c ≤ cs.size ∧ cs.toList.take l = vs
theorem Own.keep {S : Nat → Prop} {el : TypeId} {h h' : Heap} {B : Nat} {a : Option Addr} {l c : Nat} {vs : List Value} (o : Own el h B a l c vs) (k : Keep S h h') (hs : ∀ b, a = some ⟨b, 0, none⟩ → ¬ S b) : Own el h' B a l c vs := by
  obtain ⟨h1, h2, b, cs, e, h3, h4, h5, h6⟩ := o
  exact ⟨h1, h2, b, cs, e, h3, k.blk h4 (hs b e), h5, h6⟩
theorem Own.ext {el : TypeId} {h h' : Heap} {B : Nat} {a : Option Addr} {l c : Nat} {vs : List Value} (o : Own el h B a l c vs) (k : Ext h h') : Own el h' B a l c vs :=
  o.keep (k.keep fun _ => False) fun _ _ h => h
theorem Own.mono {el : TypeId} {h : Heap} {B B' : Nat} {a : Option Addr} {l c : Nat} {vs : List Value} (o : Own el h B a l c vs) (hB : B' ≤ B) : Own el h B' a l c vs := by
  obtain ⟨h1, h2, b, cs, e, h3, h4, h5, h6⟩ := o
  exact ⟨h1, h2, b, cs, e, by omega, h4, h5, h6⟩
theorem Own.new {el : TypeId} {h : Heap} {b B : Nat} {cs : Array Value} (hb : h[b]? = some (.cells cs el (0, 0))) (hB : B ≤ b) : Own el h B (some ⟨b, 0, none⟩) cs.size cs.size cs.toList :=
  ⟨by simp, Nat.le_refl _, b, cs, rfl, hB, hb, Nat.le_refl _, by rw [List.take_of_length_le (by simp)]⟩
theorem Own.cells {el : TypeId} {h : Heap} {B : Nat} {a : Option Addr} {l c : Nat} {vs : List Value} (o : Own el h B a l c vs) : ∀ ad, a = some ad → ∃ b, ad = ⟨b, 0, none⟩ ∧ B ≤ b ∧ b < h.size ∧ CellsAt h ⟨b, 0, none⟩ vs := by
  obtain ⟨h1, h2, b, cs, rfl, h3, h4, h5, h6⟩ := o
  rintro ad ⟨⟩
  refine ⟨b, rfl, h3, blk_lt h4, cells_blk h4 fun i v hv => ?_⟩
  rw [← h6, List.getElem?_take] at hv
  split at hv
  · rw [Nat.zero_add]; simpa using hv
  · cases hv

/-- An append to it. -/
theorem appK_own {P : Program} {el : TypeId} {h : Heap} {B l c m : Nat} {a : Option Addr} {x : Value} {vs news : List Value} {K : Option Addr → Nat → Nat → Heap → Prop}
    (hs : P.cellsOf el = 1) (hz : (((P.info? el).bind (·.zero)).getD undef).cells.size = 1) (o : Own el h B a l c vs) (hB : B ≤ h.size) (src : srcK h 1 x m news) (hnew : news.length = m) (h1 : ∀ u ∈ news, one u = true) (room : (l + m) * P.bytesOf el ≤ 140737488355328)
    (hK : ∀ a' c' h', Own el h' B a' (l + m) c' (vs ++ news) → Keep (B ≤ ·) h h' → K a' (l + m) c' h') : appK P el h a l c x K := by
  obtain ⟨hl, hc, b, cs, rfl, hb, hcs, hsz, htk⟩ := o
  have hlc : (cs.toList.take l).length = l := by simp; omega
  refine appK_blk hs src hnew h1 hcs (by omega) hc (fun _ _ _ => .inr (Nat.zero_le _)) (fun hgt => growslice_fits hgt room) ?_ ?_ hz
  · intro hle h' hb' ho
    refine hK _ _ _ ⟨by simp [hl, hnew], hle, b, _, rfl, hb, hb', ?_, ?_⟩ (ho.keep hb)
    · simp [hnew]; omega
    · rw [Nat.zero_add]
      show ((cs.toList.take l ++ news) ++ cs.toList.drop (l + m)).take (l + m) = _
      rw [List.take_append_of_le_length (by rw [List.length_append, hlc, hnew]; omega), List.take_of_length_le (by rw [List.length_append, hlc, hnew]; omega), htk]
  · intro hgt c' h' z hc' hb' hzl hx hsize
    refine hK _ _ _ ⟨by simp [hl, hnew], hc', h.size, _, rfl, hB, hb', ?_, ?_⟩ (hx.keep _)
    · simp [hnew, hzl]; omega
    · rw [List.drop_zero]
      show ((cs.toList.take l ++ news) ++ z).take (l + m) = _
      rw [List.take_append_of_le_length (by rw [List.length_append, hlc, hnew]; omega), List.take_of_length_le (by rw [List.length_append, hlc, hnew]; omega), htk]

/-- An append to it, with what is kept told sharply. -/
theorem appK_own' {P : Program} {el : TypeId} {h : Heap} {B l c m : Nat} {a : Option Addr} {x : Value} {vs news : List Value} {K : Option Addr → Nat → Nat → Heap → Prop}
    (hs : P.cellsOf el = 1) (hz : (((P.info? el).bind (·.zero)).getD undef).cells.size = 1) (o : Own el h B a l c vs) (src : srcK h 1 x m news) (hnew : news.length = m) (h1 : ∀ u ∈ news, one u = true) (room : (l + m) * P.bytesOf el ≤ 140737488355328)
    (hK : ∀ a' c' h', Own el h' 0 a' (l + m) c' (vs ++ news) → Keep (fun k => a = some ⟨k, 0, none⟩ ∨ h.size ≤ k) h h' → (∀ k, a' = some ⟨k, 0, none⟩ → a = some ⟨k, 0, none⟩ ∨ h.size ≤ k) → K a' (l + m) c' h') : appK P el h a l c x K := by
  obtain ⟨hl, hc, b, cs, rfl, hb, hcs, hsz, htk⟩ := o
  have hlc : (cs.toList.take l).length = l := by simp; omega
  refine appK_blk hs src hnew h1 hcs (by omega) hc (fun _ _ _ => .inr (Nat.zero_le _)) (fun hgt => growslice_fits hgt room) ?_ ?_ hz
  · intro hle h' hb' ho
    refine hK _ _ _ ⟨by simp [hl, hnew], hle, b, _, rfl, Nat.zero_le _, hb', ?_, ?_⟩ (ho.keep (.inl rfl)) (fun k e => .inl e)
    · simp [hnew]; omega
    · rw [Nat.zero_add]
      show ((cs.toList.take l ++ news) ++ cs.toList.drop (l + m)).take (l + m) = _
      rw [List.take_append_of_le_length (by rw [List.length_append, hlc, hnew]; omega), List.take_of_length_le (by rw [List.length_append, hlc, hnew]; omega), htk]
  · intro hgt c' h' z hc' hb' hzl hx hsize
    refine hK _ _ _ ⟨by simp [hl, hnew], hc', h.size, _, rfl, Nat.zero_le _, hb', ?_, ?_⟩ (hx.keep _) (fun k e => by cases e; exact .inr (Nat.le_refl _))
    · simp [hnew, hzl]; omega
    · rw [List.drop_zero]
      show ((cs.toList.take l ++ news) ++ z).take (l + m) = _
      rw [List.take_append_of_le_length (by rw [List.length_append, hlc, hnew]; omega), List.take_of_length_le (by rw [List.length_append, hlc, hnew]; omega), htk]

/-- The same, or nil. -/
def OwnN (el : TypeId) (h : Heap) (a : Option Addr) (l c : Nat) (vs : List Value) : Prop := (a = none ∧ l = 0 ∧ c = 0 ∧ vs = []) ∨ Own el h 0 a l c vs
theorem OwnN.keep {S : Nat → Prop} {el : TypeId} {h h' : Heap} {a : Option Addr} {l c : Nat} {vs : List Value} (o : OwnN el h a l c vs) (k : Keep S h h') (hs : ∀ b, a = some ⟨b, 0, none⟩ → ¬ S b) : OwnN el h' a l c vs :=
  o.imp id fun o => o.keep k hs
theorem OwnN.len {el : TypeId} {h : Heap} {a : Option Addr} {l c : Nat} {vs : List Value} (o : OwnN el h a l c vs) : vs.length = l := by
  rcases o with ⟨_, rfl, _, rfl⟩ | o
  · rfl
  · exact o.len
theorem appK_ownN {P : Program} {el : TypeId} {h : Heap} {l c m : Nat} {a : Option Addr} {x : Value} {vs news : List Value} {K : Option Addr → Nat → Nat → Heap → Prop}
    (hs : P.cellsOf el = 1) (hz : (((P.info? el).bind (·.zero)).getD undef).cells.size = 1) (o : OwnN el h a l c vs) (src : srcK h 1 x m news) (hnew : news.length = m) (h1 : ∀ u ∈ news, one u = true) (room : (l + m) * P.bytesOf el ≤ 140737488355328)
    (hK : ∀ a' c' h', OwnN el h' a' (l + m) c' (vs ++ news) → Keep (fun k => a = some ⟨k, 0, none⟩ ∨ h.size ≤ k) h h' → (∀ k, a' = some ⟨k, 0, none⟩ → a = some ⟨k, 0, none⟩ ∨ h.size ≤ k) → K a' (l + m) c' h') : appK P el h a l c x K := by
  rcases o with ⟨rfl, rfl, rfl, rfl⟩ | o
  · refine ⟨m, news, by rw [hs]; exact src, fun hle => ⟨h1, by rintro ad ⟨⟩, ?_⟩, fun hgt => ⟨[], by simp, by rintro ad ⟨⟩, fun _ => rfl, growslice_fits hgt room, ?_⟩⟩
    · intro h' _ he
      have hm : m = 0 := by omega
      subst hm
      have hn : news = [] := List.eq_nil_of_length_eq_zero hnew
      subst hn
      rw [he rfl]
      exact hK _ _ _ (.inl ⟨rfl, rfl, rfl, rfl⟩) (Keep.refl _ _) (fun k e => by cases e)
    · rintro c' b' h' hc ⟨rfl, rfl⟩
      refine hK _ _ _ (.inr ⟨by simp [hnew], hc, h.size, _, rfl, Nat.zero_le _, Array.getElem?_push_size, ?_, ?_⟩) ((Ext.push _ _).keep _) (fun k e => by cases e; exact .inr (Nat.le_refl _))
      · simp [Builtin.zeroCells, hz, hnew]; omega
      · simp only [Array.toList_append, List.nil_append]
        rw [List.take_append_of_le_length (by simp [hnew]), List.take_of_length_le (by simp [hnew])]
  · exact appK_own' hs hz o src hnew h1 room fun a' c' h' o' k' d' => hK _ _ _ (.inr o') k' d'

/-- A slice of the call's own making, or nil; nothing of h0 is touched by writes to it. -/
structure OwnAt (el : TypeId) (h0 h : Heap) (a : Option Addr) (l c : Nat) (vs : List Value) : Prop where
  own : OwnN el h a l c vs
  new : ∀ k, a = some ⟨k, 0, none⟩ → h0.size ≤ k
  ext : Ext h0 h
theorem OwnAt.nil (el : TypeId) {h0 h : Heap} (x : Ext h0 h) : OwnAt el h0 h none 0 0 [] := ⟨.inl ⟨rfl, rfl, rfl, rfl⟩, (fun k e => by cases e), x⟩
theorem OwnAt.new_ {el : TypeId} {h0 h : Heap} {b : Nat} {cs : Array Value} (hb : h[b]? = some (.cells cs el (0, 0))) (x : Ext h0 h) (hB : h0.size ≤ b) : OwnAt el h0 h (some ⟨b, 0, none⟩) cs.size cs.size cs.toList :=
  ⟨.inr (Own.new hb (Nat.zero_le _)), (fun k e => by cases e; exact hB), x⟩
theorem OwnAt.len {el : TypeId} {h0 h : Heap} {a : Option Addr} {l c : Nat} {vs : List Value} (o : OwnAt el h0 h a l c vs) : vs.length = l := OwnN.len o.own
theorem OwnAt.grow {el : TypeId} {h0 h h' : Heap} {a : Option Addr} {l c : Nat} {vs : List Value} (o : OwnAt el h0 h a l c vs) (x : Ext h h') : OwnAt el h0 h' a l c vs :=
  ⟨OwnN.keep o.own (x.keep fun _ => False) fun _ _ h => h, o.new, o.ext.trans x⟩
theorem appK_at {P : Program} {el : TypeId} {h0 h : Heap} {l c m : Nat} {a : Option Addr} {x : Value} {vs news : List Value} {K : Option Addr → Nat → Nat → Heap → Prop}
    (hs : P.cellsOf el = 1) (hz : (((P.info? el).bind (·.zero)).getD undef).cells.size = 1) (o : OwnAt el h0 h a l c vs) (src : srcK h 1 x m news) (hnew : news.length = m) (h1 : ∀ u ∈ news, one u = true) (room : (l + m) * P.bytesOf el ≤ 140737488355328)
    (hK : ∀ a' c' h', OwnAt el h0 h' a' (l + m) c' (vs ++ news) → Keep (fun k => a = some ⟨k, 0, none⟩ ∨ h.size ≤ k) h h' → K a' (l + m) c' h') : appK P el h a l c x K := by
  refine appK_ownN hs hz o.own src hnew h1 room fun a' c' h' o' k' d' => hK a' c' h' ⟨o', fun k e => ?_, ?_⟩ k'
  · rcases d' k e with e | e
    · exact o.new k e
    · have := o.ext.size; omega
  · have : Keep (h0.size ≤ ·) h0 h' := (o.ext.keep _).trans (k'.mono fun i _ e => by
      rcases e with e | e
      · exact o.new _ e
      · have := o.ext.size; omega)
    exact this.ext fun i hi e => by omega
/-- the i-th value of it -/
theorem OwnAt.cell {el : TypeId} {h0 h : Heap} {a : Option Addr} {l c : Nat} {vs : List Value} (o : OwnAt el h0 h a l c vs) {i : Nat} {v : Value} (hv : vs[i]? = some v) : ∃ b, a = some ⟨b, 0, none⟩ ∧ i < l ∧ cell h ⟨b, i, none⟩ = some v := by
  have hl := o.len
  have hi := (List.getElem?_eq_some_iff.1 hv).1
  rcases o.own with ⟨_, _, _, rfl⟩ | o
  · simp at hv
  · obtain ⟨_, _, b, cs, rfl, _⟩ := id o
    obtain ⟨b', e, _, _, hc⟩ := o.cells _ rfl
    cases e
    have := hc i v hv
    rw [add_mk, Nat.zero_add] at this
    exact ⟨b, rfl, by omega, this⟩
theorem OwnAt.src {el : TypeId} {h0 h : Heap} {a : Option Addr} {l c : Nat} {vs : List Value} (o : OwnAt el h0 h a l c vs) : srcK h 1 (.slice a l c) l vs := by
  refine srcK_slice (by simp [o.len]) (fun ad e => ?_) (fun e => ?_)
  · rcases o.own with ⟨rfl, _⟩ | o
    · cases e
    · obtain ⟨b, rfl, _, _, hc⟩ := o.cells ad e; exact hc
  · rcases o.own with ⟨_, _, _, rfl⟩ | o
    · rfl
    · obtain ⟨_, _, b, cs, e1, _⟩ := o
      rw [e] at e1; cases e1
end Go.Vc
