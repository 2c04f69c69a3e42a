import Derived.Test.YtcfegbpoailbdaaDoorOvlWc

namespace Go.Proofs.YtcfegbpoailbdaaDoor
open Go.Vc Go.Sha Go.Trail Go.Lay
set_option linter.unusedVariables false
set_option linter.unusedSimpArgs false
set_option maxRecDepth 20000
theorem refD_self (xs : List EntV) : refD xs xs = [] := by
  apply List.eq_nil_iff_forall_not_mem.2
  intro e he
  have := ((diff_lists xs xs).2 e).1 he
  rw [diff_self] at this; cases this
theorem diffC_tree {xs ys : List EntV} (tx : treeP xs) (ty : treeP ys) : diffC xs ys = if (refD xs ys).length > 64 then ([], 3) else (refD xs ys, 0) := by
  unfold diffC
  rw [if_neg (fun h => h ⟨tx, ty⟩)]
theorem parts_law (a : Option Addr) (l c : Nat) (stk : List (List EntV)) (hs : List HdE) (a1 : Option Addr) (l1 c1 : Nat) (stk1 : List (List EntV)) (hs1 : List HdE) (h : Heap) (t : StackE h a l c stk hs) (t1 : StackE h a1 l1 c1 stk1 hs1) (hm : MaxAt h) :
    HEnt Tryd.prog 9 #[.slice a l c, .slice a1 l1 c1] h (yes h) := by
  refine F9_ent _ _ _ _ _ _ _ _ ?_
  unfold F9
  have k1t : F9_k1 a l c a1 l1 c1 true h (yes h) := by
    unfold F9_k1
    exact br_of (fun _ => works_yes (Ext.refl h) hm) (fun e => by cases e)
  refine HEnt.use (few_ok a l c stk hs h t) ?_
  rintro _ h2 ⟨rfl, e2⟩
  subst e2
  refine ⟨_, rfl, br_of (fun _ => k1t) (fun hf => ?_)⟩
  refine HEnt.use (few_ok a1 l1 c1 stk1 hs1 h2 t1) ?_
  rintro _ h3 ⟨rfl, e3⟩
  subst e3
  refine ⟨_, rfl, ?_⟩
  unfold F9_k1
  refine br_of (fun _ => works_yes (Ext.refl h3) hm) (fun _ => ?_)
  unfold F9_k2
  refine HEnt.use (merge_ok a l c stk hs h3 t hm) ?_
  rintro _ h4 ⟨a5, l5, c5, was, e, rfl, mr, o5⟩
  have x4 := o5.ext
  refine ⟨a5, l5, c5, _, rfl, HEnt.use (merge_ok a1 l1 c1 stk1 hs1 h4 (t1.grow x4) (hm.ext x4)) ?_⟩
  rintro _ h5 ⟨a7, l7, c7, is_, e7, rfl, mr7, o7⟩
  have x5 := x4.trans o7.ext
  have k3t : F9_k3 a5 l5 c5 a7 l7 c7 true h5 (yes h3) := by
    unfold F9_k3
    exact br_of (fun _ => works_yes x5 hm) (fun e => by cases e)
  refine ⟨a7, l7, c7, _, rfl, br_of (fun _ => k3t) (fun g => br_of (fun _ => k3t) (fun g7 => ?_))⟩
  have g : e = 0 := by
    have : (e : Int) = 0 := by simpa using g
    omega
  have g7 : e7 = 0 := by
    have : (e7 : Int) = 0 := by simpa using g7
    omega
  obtain ⟨ga, la⟩ : (∀ l ∈ stk, Good l) ∧ Lists (topS stk) was := by
    rcases mr with ⟨_, b, _⟩ | ⟨_, _, b, _⟩ | ⟨_, b1, _, b2⟩
    · omega
    · omega
    · exact ⟨b1, b2⟩
  obtain ⟨gb, lb⟩ : (∀ l ∈ stk1, Good l) ∧ Lists (topS stk1) is_ := by
    rcases mr7 with ⟨_, b, _⟩ | ⟨_, _, b, _⟩ | ⟨_, b1, _, b2⟩
    · omega
    · omega
    · exact ⟨b1, b2⟩
  obtain ⟨sw, lw8, tw⟩ := mr.tree
  obtain ⟨si, li8, ti⟩ := mr7.tree
  have hlw := o5.len
  rw [ents_len] at hlw
  have hli := o7.len
  rw [ents_len] at hli
  have oA := top_ok ga
  have oB := top_ok gb
  have hA : stS was = topS stk := funext fun p => sts_lists oA.path la p
  have hB : stS is_ = topS stk1 := funext fun p => sts_lists oB.path lb p
  have lD := diff_lists was is_
  rw [hA, hB] at lD
  have w5 : Tab 4 h5 a5 l5 c5 (ents was) := (o5.grow o7.ext).rows
  unfold F9_k3
  refine br_of (fun _ => works_yes x5 hm) (fun g64 => ?_)
  have g64 : l5 ≤ 64 := by
    have : ¬ (l5 : Int) > 64 := by simpa using g64
    omega
  unfold F9_k4
  refine HEnt.use (diff_ok a5 l5 c5 was a5 l5 c5 was h5 w5 sw w5 sw (by omega) (by omega) (hm.ext x5)) ?_
  rintro _ h6 ⟨a6, l6, c6, rfl, o6⟩
  have x6 := x5.trans o6.ext
  have hself : diffC was was = ([], 0) := by
    rw [diffC_tree tw tw, refD_self]; rfl
  have h6l := o6.len
  rw [ents_len, hself] at h6l
  have l60 : l6 = 0 := h6l.symm
  refine ⟨a6, l6, c6, _, rfl, br_of (fun e => ?_) (fun _ => ?_)⟩
  · rw [l60] at e; cases e
  rw [hself]
  unfold F9_k5
  refine br_of (fun e => by cases e) (fun _ => ?_)
  unfold F9_k6
  refine HEnt.use (diff_ok a5 l5 c5 was a7 l7 c7 is_ h6 (w5.grow o6.ext) sw (o7.grow o6.ext).rows si (by omega) (by omega) (hm.ext x6)) ?_
  rintro _ h7 ⟨a8, l8, c8, rfl, o8⟩
  have x7 := x6.trans o8.ext
  have hdc := diffC_tree tw ti
  rw [hdc] at o8 ⊢
  refine ⟨a8, l8, c8, _, rfl, ?_⟩
  by_cases hbig : (refD was is_).length > 64
  · rw [if_pos hbig]
    exact br_of (fun _ => br_of (fun _ => works_yes x7 hm) (fun e => by cases e)) (fun e => by cases e)
  rw [if_neg hbig] at o8 ⊢
  have o8 : OwnR 38 4 h6 h7 a8 l8 c8 (ents (refD was is_)) := o8
  have hl8 := o8.len
  rw [ents_len] at hl8
  refine br_of (fun e => by cases e) (fun _ => ?_)
  have gd := d_good oA oB lD (by omega)
  have sd : Small (refD was is_) := fun e he => by
    have := body_small (gd.2.1 e he)
    exact ⟨by omega, by omega⟩
  unfold F9_k7
  refine HEnt.use (check_ok a8 l8 c8 _ h7 o8.rows sd (by omega) (hm.ext x7)) ?_
  rintro _ h8 ⟨rfl, x8⟩
  have x08 := x7.trans x8
  have hc := (good_check _).2 gd
  refine ⟨_, _, rfl, br_of (fun e => ?_) (fun _ => ?_)⟩
  · rw [hc] at e; cases e
  unfold F9_k8
  refine ⟨by decide, newK_intro fun h9 hb9 x9 z9 => ?_⟩
  have x09 := x08.trans x9
  have x59 := ((o6.ext.trans o8.ext).trans x8).trans x9
  have st : StackE h9 (some (at0 h8.size)) 2 2 [was, refD was is_] [⟨a5, l5, c5⟩, ⟨a8, l8, c8⟩] := by
    refine StackO.stack (h0 := h8) ⟨rfl, OwnR.new_ (rows := [⟨a5, l5, c5⟩, ⟨a8, l8, c8⟩].map sliceE) hb9 x9 (Nat.le_refl _) (by intro r hr; obtain ⟨d, _, rfl⟩ := List.mem_map.1 hr; rfl) rfl, fun i es d e1 e2 => ?_⟩
    match i, e1, e2 with
    | 0, e1, e2 => cases e1; cases e2; exact ⟨sw, (by show l5 < 2 ^ 40; omega), .inr (w5.grow ((o6.ext.trans o8.ext).trans x8))⟩
    | 1, e1, e2 => cases e1; cases e2; exact ⟨sd, (by show l8 < 2 ^ 40; omega), .inr (o8.rows.grow x8)⟩
  refine HEnt.use (merge_ok _ 2 2 _ _ h9 st (hm.ext x09)) ?_
  rintro _ hA1 ⟨aM, lM, cM, m, eM, rfl, mM, oM⟩
  obtain ⟨rfl, rfl⟩ := d_merge oA oB la lb lD (by omega) (by omega) mM
  have x0A := x09.trans oM.ext
  have hlM := oM.len
  rw [ents_len] at hlM
  refine ⟨aM, lM, cM, _, rfl, br_of (fun _ => ?_) (fun e => by cases e)⟩
  refine HEnt.use (same_ok aM lM cM m a7 l7 c7 m hA1 oM.rows (o7.grow (x59.trans oM.ext)).rows (by omega)) ?_
  rintro _ hB1 ⟨⟨b, rfl, hb⟩, rfl⟩
  exact ⟨b, rfl, br_of (fun _ => works_yes x0A hm) (fun e => by rw [hb.2 rfl] at e; cases e)⟩
end Go.Proofs.YtcfegbpoailbdaaDoor
