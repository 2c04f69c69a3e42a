/- Chapter 16: what PartTakes writes into. -/
import Derived.Test.YtelddmkdclhpoaaPartQ
import Derived.Test.YtelddmkdclhpoaaVpPd
namespace Go.Proofs.Ytelddmkdclhpoaa
open Go.Vc Go.Sha Go.Trail Go.Packs
set_option linter.unusedVariables false

/-- a list of layers that may be written: its block's shape -/
def Inner (B : Nat) (h : Heap) (d : Hdr) : Prop := d.l = 0 ∨ ∃ b cs, d.a = some ⟨b, 0, none⟩ ∧ B ≤ b ∧ h[b]? = some (.cells cs 46 (0, 0)) ∧ ∀ j, j < d.l → ∃ z : Int, cs[j * 33 + 32]? = some (.int .i64 z)
theorem inner_of {h0 h : Heap} {d : Hdr} {rs : List RefV} (o : OwnR 46 33 h0 h d.a d.l d.c (rs.map RefV.cells)) (ok : ∀ r ∈ rs, r.ok) : Inner h0.size h d := by
  by_cases hl : d.l = 0
  · exact .inl hl
  have hrl : rs.length = d.l := by have := o.len; simpa using this
  rcases o.own with ⟨_, e⟩ | ⟨b, cs, e, g1, g2, g3, g4⟩
  · have := o.cap; omega
  · refine .inr ⟨b, cs, e, g1, g2, fun j hj => ?_⟩
    have hr : rs[j]? = some (rs[j]'(by omega)) := List.getElem?_eq_getElem _
    generalize rs[j]'(by omega) = r at hr
    obtain ⟨q, e2, _, hc⟩ := o.rows.get (i := j) (r := r.cells) (by rw [List.getElem?_map, hr]; rfl)
    rw [e] at e2
    obtain rfl := Option.some.inj e2
    have := hc 32 (.int .i64 r.size) (by simp [RefV.cells, sumCells, (ok r (List.mem_of_getElem? hr)).1])
    rw [add_mk, add_mk, Nat.zero_add, cell_blk g2] at this
    exact ⟨r.size, this⟩
theorem Inner.grow {B : Nat} {h h' : Heap} {d : Hdr} (i : Inner B h d) (x : Ext h h') : Inner B h' d := i.imp id fun ⟨b, cs, e, g1, g2, g3⟩ => ⟨b, cs, e, g1, x.blk g2, g3⟩
theorem Inner.wrote {B b0 j0 : Nat} {z0 : Int} {h h' : Heap} {d : Hdr} {cs0 : Array Value} (i : Inner B h d) (g0 : h[b0]? = some (.cells cs0 46 (0, 0))) (g1 : h'[b0]? = some (.cells (cs0.setIfInBounds (j0 * 33 + 32) (.int .i64 z0)) 46 (0, 0))) (on : Only b0 h h') : Inner B h' d := by
  rcases i with hl | ⟨b, cs, e, hb, g2, g3⟩
  · exact .inl hl
  · by_cases hbb : b = b0
    · subst hbb
      rw [g0] at g2
      cases g2
      refine .inr ⟨b, _, e, hb, g1, fun j hj => ?_⟩
      obtain ⟨z, hz⟩ := g3 j hj
      rw [Array.getElem?_setIfInBounds]
      split
      · have := (Array.getElem?_eq_some_iff.1 hz).1
        rename_i hjj
        rw [if_pos (by omega)]; exact ⟨z0, rfl⟩
      · exact ⟨z, hz⟩
    · exact .inr ⟨b, cs, e, hb, on.blk g2 hbb, g3⟩
theorem own_blk_ne {el : TypeId} {n : Nat} {h0 h : Heap} {a : Option Addr} {l c : Nat} {rows : List (List Value)} (o : OwnR el n h0 h a l c rows) {b : Nat} {cs : Array Value} (g : h[b]? = some (.cells cs 46 (0, 0))) (he : el ≠ 46) : ∀ k, a = some ⟨k, 0, none⟩ → k ≠ b := by
  intro k e hk
  subst hk
  rcases o.own with ⟨e2, _⟩ | ⟨b, cs, e2, h1, h2, _⟩
  · rw [e] at e2; cases e2
  · rw [e] at e2; cases e2
    rw [g] at h2
    injection h2 with h2; injection h2 with _ h2; exact he h2.symm

/-- what the writing rounds keep -/
structure J (h0 hT h : Heap) (L : List Vc.Loc) (y : Hdr) (ds : List DeedV) (hs : List Hdr) (ess : Nat → List Hdr) : Prop where
  keep : Keep (hT.size ≤ ·) hT h
  loc : St h0 h L
  rows : OwnR 37 9 hT h y.a y.l y.c (List.zipWith deedCells ds hs)
  packs : ∀ (i : Nat) (x : DeedV) (d : Hdr), ds[i]? = some x → hs[i]? = some d → (ess i).length = x.packs.length ∧ OwnR 42 4 hT h d.a d.l d.c (List.zipWith PackV.cells x.packs (ess i)) ∧ ∀ f ∈ ess i, Inner hT.size h f
theorem J.wrote {h0 hT h h' : Heap} {L : List Vc.Loc} {y : Hdr} {ds : List DeedV} {hs : List Hdr} {ess : Nat → List Hdr} (j : J h0 hT h L y ds hs ess) (x0 : h0.size ≤ hT.size) (hL : ∀ (i : Nat) (l : Vc.Loc), L[i]? = some l → l.t ≠ 46) {b0 j0 : Nat} {z0 : Int} {cs0 : Array Value} (hb : hT.size ≤ b0) (g0 : h[b0]? = some (.cells cs0 46 (0, 0)))
    (g1 : h'[b0]? = some (.cells (cs0.setIfInBounds (j0 * 33 + 32) (.int .i64 z0)) 46 (0, 0))) (on : Only b0 h h') : J h0 hT h' L y ds hs ess := by
  refine ⟨j.keep.trans (on.keep hb), j.loc.keep (S := (· = b0)) (on.keep rfl) (fun k hk hs => by omega) (fun i l hl hs => ?_), j.rows.keep (S := (· = b0)) (on.keep rfl) (fun k hk hs => by omega) (own_blk_ne j.rows g0 (by decide)), fun i x d hx hd => ?_⟩
  · have := (j.loc.at_ i l hl).2
    rw [hs, g0] at this
    injection this with this; injection this with _ this
    exact hL i l hl this.symm
  · obtain ⟨h1, h2, h3⟩ := j.packs i x d hx hd
    exact ⟨h1, h2.keep (S := (· = b0)) (on.keep rfl) (fun k hk hs => by omega) (own_blk_ne h2 g0 (by decide)), fun f hf => (h3 f hf).wrote g0 g1 on⟩
end Go.Proofs.Ytelddmkdclhpoaa
