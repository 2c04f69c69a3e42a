import Derived.Test.YtfknpbgneeefjaaDoorVxpC
import Derived.Test.YtfknpbgneeefjaaDoorVcT

namespace Go.Vc
set_option linter.unusedVariables false
theorem keep_set {h : Heap} {l : Nat} (o : Obj) : Keep (fun j => j = l) h (h.setIfInBounds l o) :=
  ⟨by simp, fun k hk hn => by rw [Array.getElem?_setIfInBounds_ne (fun e => hn e.symm)]⟩
theorem set_same {h : Heap} {l : Nat} {o o' : Obj} (hl : h[l]? = some o) : (h.setIfInBounds l o')[l]? = some o' := Array.getElem?_setIfInBounds_self_of_lt (blk_lt hl)
theorem cell_of {h : Heap} {b : Nat} {v : Value} {t : TypeId} {fr : Nat × Nat} (hb : h[b]? = some (.cells #[v] t fr)) : Vc.cell h (at0 b) = some v := by
  rw [at0_mk, cell_blk hb]; rfl
theorem store1 {h : Heap} {b : Nat} {v u : Value} {t : TypeId} {K : Heap → Prop} (hb : h[b]? = some (.cells #[u] t (0, 0))) (h1 : one v = true)
    (hK : ∀ h', Keep (fun j => j = b) h h' → h'.size = h.size → h'[b]? = some (.cells #[v] t (0, 0)) → K h') : storeK 1 h (at0 b) v K := by
  refine storeK_one hb (by simp) (.inr (Nat.le_refl _)) h1 ?_
  intro h' x y
  exact hK h' (y.keep rfl) y.size (by simpa using x)
theorem set_ext {h0 h : Heap} {b : Nat} (x : Ext h0 h) (hb : h0.size ≤ b) (o : Obj) : Ext h0 (h.setIfInBounds b o) :=
  Keep.since x (keep_set o) fun k hk e => by omega
theorem HYield.use {P : Program} {l : Nat} {args : Array Value} {h : Heap} {R R' : Value → Heap → Prop} (c : HYield P l args h R) (hr : ∀ v h', R v h' → R' v h') : HYield P l args h R' := fun w hw =>
  let ⟨f, t, a, b, h1, h2⟩ := c w hw
  ⟨f, t, a, b, h1, h2.mono fun e w' ⟨v, e1, e2, e3⟩ => ⟨v, e1, e2, hr _ _ e3⟩⟩
end Go.Vc
