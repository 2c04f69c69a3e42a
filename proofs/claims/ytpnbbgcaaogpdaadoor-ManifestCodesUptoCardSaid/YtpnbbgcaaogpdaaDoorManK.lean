import Derived.Test.YtpnbbgcaaogpdaaDoorManJ

namespace Go.Proofs.YtpnbbgcaaogpdaaDoor
open Go.Vc Go.Sha Go.Trail Go.RowKit Go.Man
set_option linter.unusedVariables false
set_option linter.unusedSimpArgs false
set_option maxRecDepth 8000
theorem man_one (m : ManV) (a : Option Addr) (l c : Nat) : ∀ u ∈ (manA m a l c).toList, one u = true := by
  intro u hu
  simp only [manA, List.mem_cons, List.not_mem_nil, or_false] at hu
  rcases hu with rfl | rfl | rfl <;> rfl
theorem same_self (m : ManV) : sameM m m = true := by unfold sameM; simp
theorem checks_ok (m : ManV) (a : Option Addr) (l c : Nat) (h : Heap) (w : Tab 33 h a l c (rowsR m.refs)) (hb : Big m) (hl : l < 2 ^ 30) (hm : MaxAt h) : HEnt Tryd.prog 3 #[.agg (manA m a l c)] h (yes h) := by
  have r32 : ∀ r ∈ m.refs, r.1.length = 32 := fun r hr => (hb.2.2 r hr).1
  refine F3_ent _ _ _ _ _ _ _ ?_
  unfold F3
  refine newK_intro fun h1 hb1 x1 _ => ⟨m.name, m.ver, a, l, c, by rw [at_cell hb1]; rfl, by rw [at_cell hb1]; rfl, by rw [at_cell hb1]; rfl, rfl, HEnt.use (own_ok m a l c h1 (w.grow x1) r32 hl) ?_⟩
  rintro _ h2 ⟨a2, c2, rfl, w2, x2⟩
  refine ⟨m.name, m.ver, a2, l, c2, rfl, newK_intro fun h3 hb3 x3 _ => ?_⟩
  have z1 := x1.size
  have z2 := x2.size
  have q1 := blk_lt hb1
  refine storeK_whole (vs := manA m a2 l c2) hb3 rfl zsize24 (man_one m a2 l c2) fun h4 hb4 o4 => ?_
  have x4 : Ext h2 h4 := Keep.since x3 (o4.keep rfl : Keep (fun j => j = h2.size) h3 h4) fun j hj e => by omega
  have x14 := (x1.trans x2).trans x4
  have hbm := (x2.trans x4).blk hb1
  have wm := w.grow x14
  have w4 := w2.grow x4
  have l40 : l < 2 ^ 40 := by omega
  refine ⟨m.name, m.ver, a2, l, c2, by rw [at_cell hb4]; rfl, by rw [at_cell hb4]; rfl, by rw [at_cell hb4]; rfl, rfl, checkM m, fun h5 x5 => ?_, m.name, m.ver, a, l, c, by rw [at_cell hbm]; rfl, by rw [at_cell hbm]; rfl, by rw [at_cell hbm]; rfl, rfl, checkM m, fun h5 x5 => ?_, ?_⟩
  · exact HEnt.mono (check_ok m a2 l c2 h5 (w4.grow x5) hb l40) fun v h' hv => hv
  · exact HEnt.mono (refCheck_ok m a l c h5 (wm.grow x5) hb l40) fun v h' hv => hv
  refine br_of (fun _ => ?_) (fun e => by simp at e)
  refine ⟨m.name, m.ver, a2, l, c2, by rw [at_cell hb4]; rfl, by rw [at_cell hb4]; rfl, by rw [at_cell hb4]; rfl, rfl, sizeM m, fun h5 x5 => ?_, m.name, m.ver, a, l, c, by rw [at_cell hbm]; rfl, by rw [at_cell hbm]; rfl, by rw [at_cell hbm]; rfl, rfl, sizeM m, fun h5 x5 => ?_, ?_⟩
  · exact HEnt.mono (size_ok m a2 l c2 h5 (w4.grow x5) hb l40) fun v h' hv => hv
  · exact HEnt.mono (refSize_ok m a l c h5 (wm.grow x5) hb l40) fun v h' hv => hv
  refine br_of (fun _ => ?_) (fun e => by simp at e)
  refine ⟨m.name, m.ver, a2, l, c2, by rw [at_cell hb4]; rfl, by rw [at_cell hb4]; rfl, by rw [at_cell hb4]; rfl, rfl, m.name, m.ver, a, l, c, by rw [at_cell hbm]; rfl, by rw [at_cell hbm]; rfl, by rw [at_cell hbm]; rfl, rfl, true, fun h5 x5 => ?_, ?_⟩
  · refine HEnt.mono (same_ok m m a2 l c2 a l c h5 (w4.grow x5) (wm.grow x5) r32 r32 l40) fun v h' hv => ?_
    exact ⟨by rw [hv.1, same_self], hv.2⟩
  refine br_of (fun _ => ⟨true, fun h5 x5 => ?_, fun h5 x5 => ⟨rfl, x14.trans x5⟩⟩) (fun e => by cases e)
  exact HEnt.mono (works_ok h5 (hm.ext (x14.trans x5))) fun v h' hv => hv
end Go.Proofs.YtpnbbgcaaogpdaaDoor
