import Derived.Test.YtcfegbpoailbdaaDoorOvlY

namespace Go.Proofs.YtcfegbpoailbdaaDoor
open Go.Vc Go.Sha Go.Trail Go.Lay
set_option linter.unusedVariables false
set_option linter.unusedSimpArgs false
set_option maxRecDepth 20000
theorem clean_slash {l : List Nat} (h : good l) : clean (47 :: l) = (l, 0) := by
  have e : pieces (47 :: l) = [] :: pieces l := pieces_cat [] l
  have hc : cl [] (pieces (47 :: l)) = cl [] (pieces l) := by
    rw [e, cl_cons, if_pos (.inl rfl)]
  have : clean (47 :: l) = clean l := by unfold clean; rw [hc]
  rw [this]; exact clean_good h
/-- a path that begins with a slash -/
theorem look_slash {S : Sta} {es : List EntV} (o : StOK S) (h : Lists S es) {e : EntV} (he : e ∈ es) : lookC es ((⟨#[47]⟩ : ByteArray) ++ e.path) = (e, 0) := by
  have hes := (h.2 e).1 he
  have hg := o.ne hes
  have hl : lst ((⟨#[47]⟩ : ByteArray) ++ e.path) = 47 :: lst e.path := by rw [lst_append]; rfl
  unfold lookC
  rw [hl, clean_slash hg.2, if_neg (by simp), if_neg hg.1]
  show (match es.find? (fun f => decide (lst f.path = lst e.path)) with | some e => (e, 0) | none => (e0, 9)) = _
  rw [lists_find o h, hes]
/-- the directory above -/
theorem look_up {S : Sta} {es : List EntV} (o : StOK S) (h : Lists S es) {e : EntV} (he : e ∈ es) : ∃ d, lookC es (str (upL (lst e.path)).1) = (d, 0) ∧ d.kind = 2 ∧ lst d.path = (upL (lst e.path)).1 := by
  have hes := (h.2 e).1 he
  have hg := o.ne hes
  have hul := lst_str _ (up_lt (lst e.path))
  by_cases hu : (upL (lst e.path)).1 = []
  · refine ⟨rootE, ?_, rfl, by rw [hu]; rfl⟩
    unfold lookC
    rw [hul, hu]
    rfl
  · obtain ⟨h1, h2, h3⟩ := up_in hg.2 hg.1 hu
    obtain ⟨d, hd, kd⟩ := o.tree _ _ (str (upL (lst e.path)).1) hes (by unfold inB; rw [hul]; exact h1) (fun e2 => h2 (by rw [← hul, e2])) (by rw [hul]; exact hu)
    refine ⟨d, ?_, kd, by rw [o.path _ _ hd, hul]⟩
    have hf := lists_find o h (str (upL (lst e.path)).1)
    rw [hul] at hf
    unfold lookC
    rw [hul, clean_good h3, if_neg (by simp), if_neg hu]
    show (match es.find? (fun f => decide (lst f.path = (upL (lst e.path)).1)) with | some e => (e, 0) | none => (e0, 9)) = _
    rw [hf, hd]
theorem list_up {S : Sta} {es : List EntV} (o : StOK S) (h : Lists S es) {e : EntV} (he : e ∈ es) : listC es (str (upL (lst e.path)).1) = (namesP es (upL (lst e.path)).1, 0) := by
  obtain ⟨d, h1, h2, h3⟩ := look_up o h he
  unfold listC
  rw [h1, if_neg (by simp), if_neg (by simp [h2]), h3]
theorem last_lt {l : List Nat} (g : good l) (h0 : l ≠ []) : ∀ x ∈ lastP l, x < 256 := fun x hx => by
  have hp := path_of g h0
  have hl := good_lt g
  rw [hp.2.2] at hl
  split at hl
  · exact hl x hx
  · exact hl x (List.mem_append_right _ (List.mem_cons_of_mem _ hx))
open Classical in
theorem trees_ok (a : Option Addr) (l c : Nat) (stk : List (List EntV)) (hs : List HdE) (h : Heap) (t : StackE h a l c stk hs) (hm : MaxAt h) :
    HEnt Tryd.prog 10 #[.slice a l c] h (yes h) := by
  have hl := t.length
  refine F10_ent _ _ _ _ _ ?_
  unfold F10
  refine HEnt.use (few_ok a l c stk hs h t) ?_
  rintro _ h1 ⟨rfl, rfl⟩
  refine ⟨_, rfl, br_of (fun _ => works_yes (Ext.refl h1) hm) (fun hf => ?_)⟩
  unfold F10_k1
  refine HEnt.use (merge_ok a l c stk hs h1 t hm) ?_
  rintro _ h2 ⟨a2, l2, c2, es, e, rfl, mr, o2⟩
  have x2 := o2.ext
  have hle := o2.len
  rw [ents_len] at hle
  obtain ⟨sme, l8, tre⟩ := mr.tree
  refine ⟨a2, l2, c2, _, rfl, br_of (fun ge => ?_) (fun ge => ?_)⟩
  · have ge : (e : Int) ≠ 0 := by simpa using ge
    have hes : es = [] := by
      rcases mr with ⟨_, _, b⟩ | ⟨_, _, _, b⟩ | ⟨_, _, b, _⟩
      · exact b
      · exact b
      · omega
    refine br_of (fun _ => works_yes x2 hm) (fun g0 => ?_)
    have : ¬ (l2 : Int) = 0 := by simpa using g0
    rw [hes] at hle
    have : l2 = 0 := hle.symm
    omega
  have ge : (e : Int) = 0 := by simpa using ge
  obtain ⟨ga, la⟩ : (∀ l ∈ stk, Good l) ∧ Lists (topS stk) es := by
    rcases mr with ⟨_, b, _⟩ | ⟨_, _, b, _⟩ | ⟨_, b1, _, b2⟩
    · omega
    · omega
    · exact ⟨b1, b2⟩
  have o := top_ok ga
  unfold F10_k2
  refine HEnt.use (tree_ok a2 l2 c2 es h2 o2.rows sme (by omega) (hm.ext x2)) ?_
  rintro _ h3 ⟨rfl, x3⟩
  refine ⟨_, rfl, br_of (fun e => ?_) (fun _ => ?_)⟩
  · rw [decide_eq_true tre] at e; cases e
  have o3 := o2.grow x3
  have x03 := x2.trans x3
  unfold F10_k3
  refine ⟨fun x hh => ∃ i : Nat, x = i ∧ i ≤ l2 ∧ Ext h3 hh, fun x _ => ((l2 : Int) - x).toNat, ⟨0, rfl, by omega, Ext.refl _⟩, ?_⟩
  rintro h4 _ ⟨i, rfl, hi, x4⟩
  have x04 := x03.trans x4
  unfold F10_b4
  refine br_of (fun gi => ?_) (fun gi => ?_)
  rotate_left
  · unfold F10_k13
    exact works_yes x04 hm
  have hil : i < l2 := by
    have : (i : Int) < (l2 : Int) := by simpa using gi
    omega
  have e1 : es[i]? = some (es[i]'(by omega)) := List.getElem?_eq_getElem (by omega)
  generalize es[i]'(by omega) = f at e1
  have hfm := List.mem_of_getElem? e1
  have hgf := o.ne ((la.2 f).1 hfm)
  have hsf := (sme f hfm).1
  have hpo := path_of hgf.2 hgf.1
  have hlk := look_slash o la hfm
  have hlu := list_up o la hfm
  have hcnt := told_once o la hfm
  have hplt := last_lt hgf.2 hgf.1
  obtain ⟨q, eq, _, c0, _⟩ := ent_get (o3.grow x4).rows e1
  have hsz : ((⟨#[47]⟩ : ByteArray) ++ f.path).size = 1 + f.path.size := by rw [ByteArray.size_append]; rfl
  have hun : (upL (lst f.path)).1.length ≤ f.path.size := by
    rw [← lst_len]
    rcases up_facts hgf.2 hgf.1 with e | ⟨x, e, _⟩
    · rw [e]; exact Nat.zero_le _
    · have := congrArg List.length e
      rw [List.length_append] at this
      omega
  unfold F10_k5
  refine ⟨q, eq, by omega, by omega, f.path, by rw [Int.toNat_natCast]; exact c0, by show 1 + f.path.size ≤ _; omega, HEnt.use (lookup_ok a2 l2 c2 es _ (by omega) h4 (o3.grow x4).rows (by omega) (hm.ext x04)) ?_⟩
  rintro _ h5 ⟨rfl, x5⟩
  rw [hlk]
  refine ⟨f.path, f.kind, f.mode, f.body, _, rfl, newK_intro fun h6 hb6 x6 z6 => ?_⟩
  refine storeK_whole (vs := entA f) hb6 rfl zeroC38 (entA_one f) fun h7 hb7 o7 => ?_
  have x57 : Ext h5 h7 := Keep.since x6 (o7.keep rfl : Keep (· = h5.size) h6 h7) fun j hj e => by omega
  have x47 := x5.trans x57
  have x37 := x4.trans x47
  have x07 := x03.trans x37
  obtain ⟨q2, eq2, _, d0, _⟩ := ent_get (o3.grow x37).rows e1
  refine ⟨q2, eq2, by omega, by omega, f.path, by rw [Int.toNat_natCast]; exact d0, HEnt.use (up_ok f.path (by omega) h7 (hm.ext x07)) ?_⟩
  rintro _ h8 ⟨rfl, x8⟩
  have x38 := x37.trans x8
  refine ⟨_, _, rfl, HEnt.use (list_ok a2 l2 c2 es (str (upL (lst f.path)).1) (by rw [str_size]; omega) h8 (o3.grow x38).rows sme (by omega) (hm.ext (x03.trans x38))) ?_⟩
  rintro _ h9 ⟨a9, l9, c9, rfl, o9⟩
  rw [hlu] at o9 ⊢
  have o9 : OwnR 9 1 h8 h9 a9 l9 c9 (rowsT (namesP es (upL (lst f.path)).1)) := o9
  have x39 := x38.trans o9.ext
  obtain ⟨q3, eq3, _, g0, _⟩ := ent_get (o3.grow x39).rows e1
  refine ⟨a9, l9, c9, _, rfl, q3, eq3, by omega, by omega, f.path, by rw [Int.toNat_natCast]; exact g0, HEnt.use (parts_ok f.path (by omega) h9 (hm.ext (x03.trans x39))) ?_⟩
  rintro _ hA ⟨ap, lp, cp, rfl, op⟩
  have x3A := x39.trans op.ext
  have opl := op.len
  rw [vals_len] at opl
  have hlp0 : 0 < lp := by
    rw [← opl]
    exact List.length_pos_iff.2 hpo.1
  have h8p := (parts_all (lst f.path)).2
  have hbA := ((x8.trans o9.ext).trans op.ext).blk hb7
  have ecA := ent_cells hbA
  obtain ⟨q4, eq4, _, g1, g2, g3, g4⟩ := ent_get (o3.grow x3A).rows e1
  have oA := o9.grow op.ext
  have o9l := o9.len
  rw [rowsT_len] at o9l
  have hnl : (namesP es (upL (lst f.path)).1).length ≤ es.length := by
    unfold namesP inDir
    rw [List.length_map]
    exact List.length_filter_le _ _
  refine ⟨ap, lp, cp, rfl, f.path, f.kind, f.mode, f.body, ecA.1, ecA.2.1, ecA.2.2.1, ecA.2.2.2, rfl, q4, eq4, by omega, by omega, f.path, f.kind, f.mode, f.body, by rw [Int.toNat_natCast]; exact g1, by rw [Int.toNat_natCast]; exact g2, by rw [Int.toNat_natCast]; exact g3, by rw [Int.toNat_natCast]; exact g4, rfl, true, fun w => ?_, eqg30, br_of (fun e => by cases e) (fun _ => br_of (fun e => by cases e) (fun _ => br_of (fun e => ?_) (fun _ => br_of (fun e => by cases e) (fun _ => ?_))))⟩
  · have := run_equal_ent f f w
    rw [(eqE_iff f f).2 rfl] at this
    exact this
  · rw [hpo.2.1] at e; cases e
  rintro hA rfl
  unfold F10_k6
  refine br_of (fun e => ?_) (fun _ => ?_)
  · have : (lp : Int) = 0 := by simpa using e
    omega
  unfold F10_k7
  refine ⟨fun y x hh => ∃ k : Nat, x = k ∧ k ≤ l9 ∧ y = ((((namesP es (upL (lst f.path)).1).take k).count (lastP (lst f.path)) : Nat) : Int) ∧ Ext hA hh, fun _ x _ => ((l9 : Int) - x).toNat, ⟨0, rfl, by omega, by simp, Ext.refl _⟩, ?_⟩
  rintro hB _ _ ⟨k, rfl, hk, rfl, xB⟩
  unfold F10_b8
  refine br_of (fun gk => ?_) (fun gk => ?_)
  · have hkl : k < l9 := by
      have : (k : Int) < (l9 : Int) := by simpa using gk
      omega
    have n1 : (namesP es (upL (lst f.path)).1)[k]? = some ((namesP es (upL (lst f.path)).1)[k]'(by omega)) := List.getElem?_eq_getElem (by omega)
    generalize hnk : (namesP es (upL (lst f.path)).1)[k]'(by omega) = p at n1
    have hpl : ∀ x ∈ p, x < 256 := by
      have := List.mem_of_getElem? n1
      unfold namesP at this
      obtain ⟨y, hy, rfl⟩ := List.mem_map.1 this
      unfold inDir at hy
      have hgy := o.ne ((la.2 y).1 (List.mem_filter.1 hy).1)
      exact last_lt hgy.2 hgy.1
    obtain ⟨q5, eq5, _, hc5⟩ := rowsT_get (oA.grow xB).rows n1
    obtain ⟨bp, eap, _, hcp⟩ := (op.grow xB).cell (vals_get (ps := partsL (lst f.path)) (i := lp - 1) (by omega))
    have hlst : (partsL (lst f.path)).getD (lp - 1) [] = lastP (lst f.path) := by unfold lastP; rw [opl]
    rw [hlst] at hcp
    have ew : IntKind.i64.wrap ((lp : Int) - 1) = ((lp - 1 : Nat) : Int) := by
      rw [i64_lt _ (by omega) (by omega)]; omega
    have hct : ((namesP es (upL (lst f.path)).1).take (k + 1)).count (lastP (lst f.path)) = ((namesP es (upL (lst f.path)).1).take k).count (lastP (lst f.path)) + if p = lastP (lst f.path) then 1 else 0 := by
      rw [take_snoc n1, List.count_append, List.count_singleton]
      simp only [beq_iff_eq]
    have hcl : ((namesP es (upL (lst f.path)).1).take k).count (lastP (lst f.path)) ≤ k := Nat.le_trans List.count_le_length (by rw [List.length_take]; omega)
    unfold F10_k9
    refine ⟨q5, eq5, by omega, by omega, str p, by rw [Int.toNat_natCast]; exact hc5, ⟨bp, 0, none⟩, eap, by omega, by omega, str (lastP (lst f.path)), ?_, ?_⟩
    · rw [ew, Int.toNat_natCast, add_mk, Nat.zero_add, Nat.mul_one]; exact hcp
    rw [seq_lst, lst_str _ hpl, lst_str _ hplt]
    refine br_of (fun ge => ?_) (fun ge => ?_)
    · have ge : p = lastP (lst f.path) := by simpa using ge
      rw [if_pos ge] at hct
      unfold F10_k10
      rw [wrapS k l9 hkl (by omega), wrapS _ (k + 1) (by omega) (by omega)]
      exact ⟨⟨k + 1, rfl, by omega, by rw [hct], xB⟩, lessS k l9 hkl⟩
    · have ge : p ≠ lastP (lst f.path) := by simpa using ge
      rw [if_neg ge] at hct
      unfold F10_k10
      rw [wrapS k l9 hkl (by omega)]
      exact ⟨⟨k + 1, rfl, by omega, by rw [hct, Nat.add_zero], xB⟩, lessS k l9 hkl⟩
  · have hkl : k = l9 := by
      have : ¬ (k : Int) < (l9 : Int) := by simpa using gk
      omega
    rw [List.take_of_length_le (by omega), hcnt]
    unfold F10_k11
    refine br_of (fun e => by cases e) (fun _ => ?_)
    unfold F10_k12
    rw [wrapS i l2 hil (by omega)]
    exact ⟨⟨i + 1, rfl, by omega, x3A.trans xB⟩, lessS i l2 hil⟩
end Go.Proofs.YtcfegbpoailbdaaDoor
