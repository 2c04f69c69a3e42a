import Derived.Test.YtcfegbpoailbdaaDoorVcM

namespace Go.Vc
set_option linter.unusedVariables false

theorem srcK_slice {h : Heap} {size : Nat} {a : Option Addr} {l c : Nat} {news : List Value} (hl : news.length = l * size) (h1 : ∀ ad, a = some ad → CellsAt h ad news) (h2 : a = none → news = []) : srcK h size (.slice a l c) l news :=
  ⟨rfl, hl, h1, h2⟩
theorem cutAt_some (m l sz : Nat) (a : Addr) (hl : m ≠ l) : cutAt m l sz (some a) = some (a.add (l * sz)) := by simp [cutAt, hl]

/-- A copy into a block. -/
theorem copyK_blk {P : Program} {el : TypeId} {h : Heap} {b o l : Nat} {cs : Array Value} {t : TypeId} {lo hi m : Nat} {x : Value} {all : List Value} {K : Int → Heap → Prop}
    (hs : P.cellsOf el = 1) (src : srcK h 1 x m all) (hall : all.length = m) (h1 : ∀ u ∈ all, one u = true) (hb : h[b]? = some (.cells cs t (lo, hi))) (fit : o + min m l ≤ cs.size)
    (hf : ∀ i, i < min m l → o + i < lo ∨ hi ≤ o + i)
    (hK : ∀ h', h'[b]? = some (.cells (cs.toList.take o ++ all.take (min m l) ++ cs.toList.drop (o + min m l)).toArray t (lo, hi)) → Only b h h' → K (min m l : Nat) h') : copyK P el h (some ⟨b, o, none⟩) l x K := by
  have hl : (all.take (min m l)).length = min m l := by simp [hall]
  refine ⟨m, all.take (min m l), ⟨all, by rw [hs]; exact src, by rw [hs, Nat.mul_one]⟩, fun u hu => h1 u (List.mem_of_mem_take hu), ?_, ?_⟩
  · rintro ad ⟨⟩ i hi
    rw [hl] at hi
    rw [add_mk]
    exact Wr_blk hb (by omega) (hf i hi)
  · intro h' hput _
    have := hput _ rfl
    rw [Put] at this
    obtain ⟨h3, h4⟩ := setCs_blk (all.take (min m l)) h b o 0 cs t (lo, hi) hb (by rw [hl]; omega)
    rw [this]
    refine hK _ ?_ h4
    rw [h3, hl, Nat.add_zero]

/-- An append to a block of its own; the old cells, the new ones. -/
theorem appK_blk {P : Program} {el : TypeId} {h : Heap} {b o l c : Nat} {cs : Array Value} {t : TypeId} {lo hi m : Nat} {x : Value} {news : List Value} {K : Option Addr → Nat → Nat → Heap → Prop}
    (hs : P.cellsOf el = 1) (src : srcK h 1 x m news) (hnew : news.length = m) (h1 : ∀ u ∈ news, one u = true) (hb : h[b]? = some (.cells cs t (lo, hi))) (fit : o + c ≤ cs.size) (hlc : l ≤ c)
    (hf : ∀ i, i < cs.size → o + l ≤ i → i < lo ∨ hi ≤ i) (room : c < l + m → Builtin.nextslicecap (l + m) c * P.bytesOf el ≤ 281474976710656)
    (hin : l + m ≤ c → ∀ h', h'[b]? = some (.cells (cs.toList.take (o + l) ++ news ++ cs.toList.drop (o + l + m)).toArray t (lo, hi)) → Only b h h' → K (some ⟨b, o, none⟩) (l + m) c h')
    (hout : c < l + m → ∀ c' h' z, l + m ≤ c' → h'[h.size]? = some (.cells (((cs.toList.drop o).take l) ++ news ++ z).toArray el (0, 0)) → z.length = c' - (l + m) → Ext h h' → h'.size = h.size + 1 → K (some ⟨h.size, 0, none⟩) (l + m) c' h')
    (hz : (((P.info? el).bind (·.zero)).getD undef).cells.size = 1) : appK P el h (some ⟨b, o, none⟩) l c x K := by
  refine ⟨m, news, by rw [hs]; exact src, fun hle => ⟨h1, ?_, ?_⟩, fun hgt => ⟨(cs.toList.drop o).take l, ?_, ?_, ?_, room hgt, ?_⟩⟩
  · rintro ad ⟨⟩ i hi
    rw [hs, add_mk, add_mk, Nat.mul_one]
    exact Wr_blk hb (by omega) (hf _ (by omega) (by omega))
  · intro h' hput _
    have := hput _ rfl
    rw [hs, add_mk, Nat.mul_one, Put] at this
    obtain ⟨h3, h4⟩ := setCs_blk news h b (o + l) 0 cs t (lo, hi) hb (by omega)
    rw [this]
    refine hin hle _ ?_ h4
    rw [h3, hnew, Nat.add_zero]
  · rw [hs]; simp; omega
  · rintro ad ⟨⟩
    refine cells_blk hb fun i v hv => ?_
    rw [List.getElem?_take] at hv
    split at hv
    · rw [List.getElem?_drop] at hv; simpa using hv
    · cases hv
  · rintro ⟨⟩
  · rintro c' b' h' hc ⟨rfl, rfl⟩
    refine hout hgt c' _ (Builtin.zeroCells (((P.info? el).bind (·.zero)).getD undef).cells (c' - (l + m))).toList hc ?_ ?_ (Ext.push _ _) (by simp)
    · have e : ∀ (x y : List Value) (z : Array Value), x.toArray ++ y.toArray ++ z = (x ++ y ++ z.toList).toArray := fun x y z => by apply Array.ext'; simp
      rw [e]; simp
    · simp [Builtin.zeroCells, hz]
end Go.Vc
