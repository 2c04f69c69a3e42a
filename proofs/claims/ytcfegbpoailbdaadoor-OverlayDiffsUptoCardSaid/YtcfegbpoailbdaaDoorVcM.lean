import Derived.Test.YtcfegbpoailbdaaDoorVcK

namespace Go.Vc
set_option linter.unusedVariables false

theorem add_mk (b o n : Nat) : (⟨b, o, none⟩ : Addr).add n = ⟨b, o + n, none⟩ := by
  unfold Addr.add; split
  · rename_i h; subst h; rfl
  · rfl
theorem add_at0 (b n : Nat) : (at0 b).add n = ⟨b, n, none⟩ := by rw [at0, add_mk, Nat.zero_add]
theorem at0_mk (b : Nat) : at0 b = ⟨b, 0, none⟩ := rfl

theorem cell_blk {h : Heap} {b : Nat} {cs : Array Value} {t : TypeId} {fr : Nat × Nat} (hb : h[b]? = some (.cells cs t fr)) (o : Nat) : cell h ⟨b, o, none⟩ = cs[o]? := by
  simp [cell, hb]
theorem frz_blk {h : Heap} {b : Nat} {cs : Array Value} {t : TypeId} {lo hi : Nat} (hb : h[b]? = some (.cells cs t (lo, hi))) (o : Nat) (ho : o < lo ∨ hi ≤ o) : frz h ⟨b, o, none⟩ = false := by
  simp [frz, hb]; omega
theorem cells_blk {h : Heap} {b o : Nat} {cs : Array Value} {t : TypeId} {fr : Nat × Nat} (hb : h[b]? = some (.cells cs t fr)) {l : List Value} (hl : ∀ i v, l[i]? = some v → cs[o + i]? = some v) : CellsAt h ⟨b, o, none⟩ l := by
  intro i v hv
  rw [add_mk, cell_blk hb]
  exact hl i v hv
theorem cells_blk0 {h : Heap} {b : Nat} {cs : Array Value} {t : TypeId} {fr : Nat × Nat} (hb : h[b]? = some (.cells cs t fr)) : CellsAt h ⟨b, 0, none⟩ cs.toList :=
  cells_blk hb fun i v hv => by simpa using hv
theorem Wr_blk {h : Heap} {b o : Nat} {cs : Array Value} {t : TypeId} {lo hi : Nat} (hb : h[b]? = some (.cells cs t (lo, hi))) (ho : o < cs.size) (hf : o < lo ∨ hi ≤ o) : Wr h ⟨b, o, none⟩ :=
  ⟨⟨cs[o], by rw [cell_blk hb]; simp [ho]⟩, frz_blk hb o hf⟩

/-- All blocks but b are as they were. -/
structure Only (b : Nat) (h h' : Heap) : Prop where
  size : h'.size = h.size
  block : ∀ k, k ≠ b → h'[k]? = h[k]?
theorem Only.refl (b : Nat) (h : Heap) : Only b h h := ⟨rfl, fun _ _ => rfl⟩
theorem Only.trans {b : Nat} {x y z : Heap} (h : Only b x y) (k : Only b y z) : Only b x z := ⟨k.size.trans h.size, fun i hi => (k.block i hi).trans (h.block i hi)⟩

/-- Blocks below B but those of S are as they were; blocks may have come. -/
structure Keep (S : Nat → Prop) (h h' : Heap) : Prop where
  size : h.size ≤ h'.size
  block : ∀ k, k < h.size → ¬ S k → h'[k]? = h[k]?
theorem Keep.refl (S : Nat → Prop) (h : Heap) : Keep S h h := ⟨Nat.le_refl _, fun _ _ _ => rfl⟩
theorem Keep.trans {S : Nat → Prop} {a b c : Heap} (h : Keep S a b) (k : Keep S b c) : Keep S a c :=
  ⟨Nat.le_trans h.size k.size, fun i hi hs => (k.block i (Nat.lt_of_lt_of_le hi h.size) hs).trans (h.block i hi hs)⟩
theorem Ext.keep {h h' : Heap} (x : Ext h h') (S : Nat → Prop) : Keep S h h' := ⟨x.size, fun k hk _ => x.block k hk⟩
theorem Only.keep {b : Nat} {h h' : Heap} (x : Only b h h') {S : Nat → Prop} (hb : S b) : Keep S h h' := ⟨Nat.le_of_eq x.size.symm, fun k _ hs => x.block k (fun e => hs (e ▸ hb))⟩
theorem Keep.ext {S : Nat → Prop} {h h' : Heap} (x : Keep S h h') (hs : ∀ k, k < h.size → ¬ S k) : Ext h h' := ⟨x.size, fun k hk => x.block k hk (hs k hk)⟩
theorem Keep.mono {S T : Nat → Prop} {h h' : Heap} (x : Keep S h h') (hs : ∀ k, k < h.size → S k → T k) : Keep T h h' := ⟨x.size, fun k hk hn => x.block k hk fun s => hn (hs k hk s)⟩
/-- what came since is forgotten -/
theorem Keep.since {S : Nat → Prop} {a b c : Heap} (x : Ext a b) (k : Keep S b c) (hs : ∀ k, k < a.size → ¬ S k) : Ext a c :=
  ⟨Nat.le_trans x.size k.size, fun i hi => (k.block i (Nat.lt_of_lt_of_le hi x.size) (hs i hi)).trans (x.block i hi)⟩
theorem blk_lt {h : Heap} {b : Nat} {o : Obj} (hb : h[b]? = some o) : b < h.size := (Array.getElem?_eq_some_iff.1 hb).1
theorem Ext.blk {h h' : Heap} (x : Ext h h') {b : Nat} {o : Obj} (hb : h[b]? = Option.some o) : h'[b]? = Option.some o := (x.block b (blk_lt hb)).trans hb
theorem Keep.blk {S : Nat → Prop} {h h' : Heap} (x : Keep S h h') {b : Nat} {o : Obj} (hb : h[b]? = some o) (hs : ¬ S b) : h'[b]? = some o := (x.block b (blk_lt hb) hs).trans hb
theorem Only.blk {c : Nat} {h h' : Heap} (x : Only c h h') {b : Nat} {o : Obj} (hb : h[b]? = some o) (hs : b ≠ c) : h'[b]? = some o := (x.block b hs).trans hb
theorem Cls.eq {h h' : Heap} (c : Cls false h h') : h' = h := c

/-- A new block. -/
theorem newK_intro {h : Heap} {o : Obj} {K : Nat → Heap → Prop} (hK : ∀ h', h'[h.size]? = some o → Ext h h' → h'.size = h.size + 1 → K h.size h') : newK h o K := by
  rintro b h' ⟨rfl, rfl⟩
  exact hK _ (by simp) (Ext.push _ _) (by simp)

theorem setCs_blk : ∀ (vs : List Value) (h : Heap) (b o i : Nat) (cs : Array Value) (t : TypeId) (fr : Nat × Nat), h[b]? = some (.cells cs t fr) → o + i + vs.length ≤ cs.size →
    (setCs h ⟨b, o, none⟩ i vs)[b]? = some (.cells (cs.toList.take (o + i) ++ vs ++ cs.toList.drop (o + i + vs.length)).toArray t fr) ∧ Only b h (setCs h ⟨b, o, none⟩ i vs)
  | [], h, b, o, i, cs, t, fr, hb, _ => by
    refine ⟨?_, Only.refl _ _⟩
    simp only [setCs, List.append_nil, List.length_nil, Nat.add_zero, List.take_append_drop]
    rw [hb]
  | v :: r, h, b, o, i, cs, t, fr, hb, hfit => by
    simp only [List.length_cons] at hfit
    have h1 : (setC h ⟨b, o + i, none⟩ v)[b]? = some (.cells (cs.setIfInBounds (o + i) v) t fr) := by
      rw [setC, Array.getElem?_modify]; simp [hb, updC]
    have h2 : Only b h (setC h ⟨b, o + i, none⟩ v) := ⟨by simp [setC], fun k hk => by rw [setC, Array.getElem?_modify, if_neg (fun e => hk e.symm)]⟩
    obtain ⟨h3, h4⟩ := setCs_blk r _ b o (i + 1) _ t fr h1 (by simp; omega)
    simp only [setCs, add_mk]
    refine ⟨?_, h2.trans h4⟩
    rw [h3]
    simp only [Option.some.injEq, Obj.cells.injEq, and_self, and_true]
    apply Array.ext'
    simp only [Array.toList_setIfInBounds, List.length_cons]
    have hlt : o + i < cs.toList.length := by simp; omega
    have e1 : (cs.toList.set (o + i) v).take (o + (i + 1)) = cs.toList.take (o + i) ++ [v] := by
      rw [List.set_eq_take_append_cons_drop, if_pos hlt, List.take_append, List.length_take, Nat.min_eq_left (by omega), List.take_of_length_le (by simp; omega), show o + (i + 1) - (o + i) = 1 by omega]
      simp
    have e2 : (cs.toList.set (o + i) v).drop (o + (i + 1) + r.length) = cs.toList.drop (o + i + (r.length + 1)) := by
      rw [List.drop_set_of_lt (by omega)]; congr 1; omega
    rw [e1, e2]
    simp

/-- A store of one cell. -/
theorem storeK_one {h : Heap} {b o : Nat} {cs : Array Value} {t : TypeId} {lo hi : Nat} {v : Value} {K : Heap → Prop} (hb : h[b]? = some (.cells cs t (lo, hi))) (ho : o < cs.size) (hf : o < lo ∨ hi ≤ o) (h1 : one v = true)
    (hK : ∀ h', h'[b]? = some (.cells (cs.setIfInBounds o v) t (lo, hi)) → Only b h h' → K h') : storeK 1 h ⟨b, o, none⟩ v K := by
  have key : ∀ h', Put h ⟨b, o, none⟩ [v] h' → K h' := by
    rintro h' rfl
    have h1 : (setC h ⟨b, o, none⟩ v)[b]? = some (.cells (cs.setIfInBounds o v) t (lo, hi)) := by
      rw [setC, Array.getElem?_modify]; simp [hb, updC]
    have h2 : Only b h (setC h ⟨b, o, none⟩ v) := ⟨by simp [setC], fun k hk => by rw [setC, Array.getElem?_modify, if_neg (fun e => hk e.symm)]⟩
    exact hK _ h1 h2
  cases v <;> simp only [one] at h1 <;> first | exact ⟨rfl, Wr_blk hb ho hf, key⟩ | cases h1
/-- A store of a row of cells. -/
theorem storeK_row {n : Nat} {h : Heap} {b o : Nat} {cs vs : Array Value} {t : TypeId} {lo hi : Nat} {K : Heap → Prop} (hb : h[b]? = some (.cells cs t (lo, hi))) (hn : vs.size = n) (ho : o + n ≤ cs.size) (hf : ∀ i, o ≤ i → i < o + n → i < lo ∨ hi ≤ i)
    (h1 : ∀ u ∈ vs.toList, one u = true) (hK : ∀ h', h'[b]? = some (.cells (cs.toList.take o ++ vs.toList ++ cs.toList.drop (o + n)).toArray t (lo, hi)) → Only b h h' → K h') : storeK n h ⟨b, o, none⟩ (.agg vs) K := by
  refine ⟨hn, h1, fun i hi => by rw [add_mk]; exact Wr_blk hb (by omega) (hf _ (by omega) (by omega)), ?_⟩
  rintro h' rfl
  obtain ⟨h3, h4⟩ := setCs_blk vs.toList h b o 0 cs t (lo, hi) hb (by simp; omega)
  refine hK _ ?_ h4
  rw [h3]
  simp only [Nat.add_zero, Array.length_toList, hn]
/-- A whole block is written over. -/
theorem storeK_whole {n : Nat} {h : Heap} {b : Nat} {cs vs : Array Value} {t : TypeId} {K : Heap → Prop} (hb : h[b]? = some (.cells cs t (0, 0))) (hn : vs.size = n) (hs : cs.size = n)
    (h1 : ∀ u ∈ vs.toList, one u = true) (hK : ∀ h', h'[b]? = some (.cells vs t (0, 0)) → Only b h h' → K h') : storeK n h ⟨b, 0, none⟩ (.agg vs) K := by
  refine storeK_row hb hn (by omega) (fun i _ _ => .inr (Nat.zero_le _)) h1 fun h' h2 h3 => hK h' ?_ h3
  rw [h2]
  simp only [Option.some.injEq, Obj.cells.injEq, and_self, and_true]
  apply Array.ext'
  simp [hs]
end Go.Vc
