import Derived.Test.YtcfegbpoailbdaaDoorOvlRc

namespace Go.Proofs.YtcfegbpoailbdaaDoor
open Go.Vc Go.Sha Go.Trail Go.Lay
set_option linter.unusedVariables false
set_option linter.unusedSimpArgs false
set_option maxRecDepth 20000
theorem heads_txt {q : List Nat} (g : good q) (h0 : q ≠ []) : Txt (heads (partsL q)) := fun p hp => by
  have h1 := (mem_heads g h0).1 hp
  have h2 := good_head g h1.1 h1.2
  have h3 := clean_len p
  rw [clean_good h2] at h3
  have h3 : p.length ≤ 200 := h3
  exact ⟨good_lt h2, by omega⟩
theorem ins_txt {p : List Nat} {ps : List (List Nat)} (h : Txt ps) (hp : (∀ x ∈ p, x < 256) ∧ p.length < 2 ^ 30) : Txt (insP p ps) := fun q hq => by
  rcases (mem_ins p q ps).1 hq with rfl | hq
  · exact hp
  · exact h q hq
theorem insAll_txt : ∀ {qs ps : List (List Nat)}, Txt ps → Txt qs → Txt (insAll qs ps)
  | [], ps, h, _ => h
  | q :: qs, ps, h, h2 => insAll_txt (qs := qs) (ins_txt h (h2 q (by simp))) fun x hx => h2 x (List.mem_cons_of_mem _ hx)
theorem insAll_app (xs ys l : List (List Nat)) : insAll (xs ++ ys) l = insAll ys (insAll xs l) := by unfold insAll; rw [List.foldl_append]
theorem layP_txt {es : List EntV} (h : ∀ e ∈ es, stA e = 0) : Txt (layP es) := fun p hp => by
  unfold layP at hp
  obtain ⟨e, he, hp⟩ := List.mem_flatMap.1 hp
  have hk := stA_path (h e he)
  exact heads_txt hk.2 hk.1 p hp
theorem allP_txt {stk : List (List EntV)} (h : ∀ l ∈ stk, Good l) : Txt (allP stk) := fun p hp => by
  obtain ⟨h0, l, hl, f, hf, hi⟩ := (mem_all h p).1 hp
  have hk := stA_path ((h l hl).2.1 f hf)
  have h2 := good_head hk.2 hi h0
  have h3 := clean_len p
  rw [clean_good h2] at h3
  have h3 : p.length ≤ 200 := h3
  exact ⟨good_lt h2, by omega⟩
theorem allP_snoc {stk : List (List EntV)} {i : Nat} {es : List EntV} (h : stk[i]? = some es) : allP (stk.take (i + 1)) = insAll (layP es) (allP (stk.take i)) := by
  unfold allP
  rw [take_snoc h, List.flatMap_append, insAll_app]
  simp
theorem layP_snoc {es : List EntV} {k : Nat} {e : EntV} (h : es[k]? = some e) : layP (es.take (k + 1)) = layP (es.take k) ++ heads (partsL (lst e.path)) := by
  unfold layP
  rw [take_snoc h, List.flatMap_append]
  simp
theorem refMerge_ok (a : Option Addr) (l c : Nat) (stk : List (List EntV)) (hs : List HdE) (h : Heap) (t : StackE h a l c stk hs) :
    HEnt Tryd.prog 15 #[.slice a l c] h fun v h' => ∃ a' l' c' es e, v = .tuple #[.slice a' l' c', .int .i64 ((e : Nat) : Int)] ∧ MergeR stk es e ∧ OwnR 38 4 h h' a' l' c' (ents es) := by
  have hl := t.length
  refine F15_ent _ _ _ _ _ ?_
  unfold F15
  refine br_of (fun g => ?_) (fun g => ?_)
  · have g : (l : Int) > 16 := by simpa using g
    exact ⟨none, 0, 0, [], 3, rfl, .inl ⟨by omega, rfl, rfl⟩, OwnR.nil _ _ (Ext.refl h)⟩
  have hl16 : l ≤ 16 := by
    have : ¬ (l : Int) > 16 := by simpa using g
    omega
  unfold F15_k1
  refine ⟨fun a4 l4 c4 x hh => ∃ i : Nat, x = i ∧ i ≤ l ∧ (∀ es ∈ stk.take i, Good es) ∧ Tab 1 hh a4 l4 c4 (rowsT (allP (stk.take i))) ∧ Ext h hh, fun _ _ _ x _ => ((l : Int) - x).toNat, ⟨0, rfl, by omega, by simp, Tab.empty _ _ _ _, Ext.refl h⟩, ?_⟩
  rintro h2 a4 l4 c4 _ ⟨i, rfl, hi, hg, w2, x2⟩
  have hal := allP_len (stk := stk.take i) (by rw [List.length_take]; omega) hg
  unfold F15_b2
  refine br_of (fun gi => ?_) (fun gi => ?_)
  · have hil : i < l := by
      have : (i : Int) < (l : Int) := by simpa using gi
      omega
    obtain ⟨q, es, d, s1, d1, eq, hc, tl, sm, dl⟩ := (t.grow x2).get hil
    have hel := tl.len
    rw [ents_len] at hel
    unfold F15_k3
    refine ⟨q, eq, by omega, by omega, d.a, d.l, d.c, by rw [Int.toNat_natCast]; exact hc, HEnt.use (refCheck_ok d.a d.l d.c es h2 tl sm dl) ?_⟩
    rintro _ h3 ⟨rfl, x3⟩
    refine ⟨_, _, rfl, br_of (fun ge => ?_) (fun ge => ?_)⟩
    · have ge : ((checkC es).2 : Int) ≠ 0 := by simpa using ge
      exact ⟨none, 0, 0, [], 5, rfl, .inr (.inl ⟨by omega, ⟨es, List.mem_of_getElem? s1, fun gd => ge (by rw [(good_check es).2 gd]; rfl)⟩, rfl, rfl⟩), OwnR.nil _ _ (x2.trans x3)⟩
    have gd : Good es := by
      have : ((checkC es).2 : Int) = 0 := by simpa using ge
      exact (good_check es).1 (by omega)
    have htx := allP_txt hg
    unfold F15_k4
    refine ⟨fun a4 l4 c4 x hh => ∃ k : Nat, x = k ∧ k ≤ d.l ∧ Tab 1 hh a4 l4 c4 (rowsT (insAll (layP (es.take k)) (allP (stk.take i)))) ∧ Ext h3 hh, fun _ _ _ x _ => ((d.l : Int) - x).toNat, ⟨0, rfl, by omega, w2.grow x3, Ext.refl h3⟩, ?_⟩
    rintro h4 b4 m4 e4 _ ⟨k, rfl, hk, w4, x4⟩
    have x04 := (x2.trans x3).trans x4
    obtain ⟨q2, es2, d2, s2, d2', eq2, hc2, tl2, _, _⟩ := (t.grow x04).get hil
    rw [s1] at s2; cases s2
    rw [d1] at d2'; cases d2'
    have sub : ∀ e ∈ es.take k, stA e = 0 := fun e he => gd.2.1 e (List.mem_of_mem_take he)
    have cur_txt := insAll_txt (qs := layP (es.take k)) htx (layP_txt sub)
    have cur_len := insAll_len (layP (es.take k)) (allP (stk.take i))
    have lay_len := layP_len (l := es.take k) (by have := gd.1; rw [List.length_take]; omega)
    generalize hcur : insAll (layP (es.take k)) (allP (stk.take i)) = cur at *
    unfold F15_b5
    refine ⟨q2, eq2, by omega, by omega, d.a, d.l, d.c, by rw [Int.toNat_natCast]; exact hc2, br_of (fun gk => ?_) (fun gk => ?_)⟩
    · have hkl : k < d.l := by
        have : (k : Int) < (d.l : Int) := by simpa using gk
        omega
      have e1 : es[k]? = some (es[k]'(by omega)) := List.getElem?_eq_getElem (by omega)
      generalize es[k]'(by omega) = e at e1
      have hst := gd.2.1 e (List.mem_of_getElem? e1)
      have hpk := stA_path hst
      obtain ⟨q3, eq3, _, c0, _⟩ := ent_get tl2 e1
      unfold F15_k6
      refine ⟨q2, eq2, by omega, by omega, d.a, d.l, d.c, by rw [Int.toNat_natCast]; exact hc2, q3, eq3, by omega, by omega, e.path, by rw [Int.toNat_natCast]; exact c0, HEnt.use (refWalk_ok e.path (by have := (sm e (List.mem_of_getElem? e1)).1; omega) h4) ?_⟩
      rintro _ h5 ⟨aw, lw, cw, rfl, ow⟩
      have x5 := ow.ext
      have hlw := ow.len
      rw [vals_len] at hlw
      have hww : ways (lst e.path) = [] :: heads (partsL (lst e.path)) := by unfold ways; rw [if_pos hpk.2]
      have hwl : lw = (heads (partsL (lst e.path))).length + 1 := by rw [← hlw, hww, List.length_cons]
      have hh8 : (heads (partsL (lst e.path))).length ≤ 8 := by rw [heads_len]; exact (parts_all (lst e.path)).2
      have htxt := heads_txt hpk.2 hpk.1
      have hsn := layP_snoc e1
      generalize hhd : heads (partsL (lst e.path)) = hd at *
      refine ⟨aw, lw, cw, rfl, fun a4 l4 c4 x hh => ∃ j : Nat, x = ((j + 1 : Nat) : Int) ∧ j ≤ hd.length ∧ Tab 1 hh a4 l4 c4 (rowsT (insAll (hd.take j) cur)) ∧ Ext h5 hh, fun _ _ _ x _ => ((lw : Int) - x).toNat, ⟨0, rfl, by omega, w4.grow x5, Ext.refl h5⟩, ?_⟩
      rintro h6 b6 m6 e6 _ ⟨j, rfl, hj, w6, x6⟩
      unfold F15_b7
      refine br_of (fun gj => ?_) (fun gj => ?_)
      · have hjl : j < hd.length := by
          have : ((j + 1 : Nat) : Int) < (lw : Int) := by simpa using gj
          omega
        have p1 : hd[j]? = some (hd[j]'hjl) := List.getElem?_eq_getElem hjl
        generalize hd[j]'hjl = p at p1
        have hpm := htxt p (List.mem_of_getElem? p1)
        obtain ⟨bw, eaw, _, hcw⟩ := (ow.grow x6).cell (vals_get (ps := ways (lst e.path)) (i := j + 1) (by rw [hww, List.length_cons]; omega))
        have hget : (ways (lst e.path)).getD (j + 1) [] = p := by rw [hww, List.getD_cons_succ, List.getD_eq_getElem?_getD, p1]; rfl
        rw [hget] at hcw
        have jtx := insAll_txt (qs := hd.take j) cur_txt fun x hx => htxt x (List.mem_of_mem_take hx)
        have jl := insAll_len (hd.take j) cur
        rw [List.length_take] at jl
        have w6l := w6.len
        rw [rowsT_len] at w6l
        unfold F15_k8
        refine ⟨⟨bw, 0, none⟩, eaw, by omega, by omega, str p, ?_, HEnt.use (refPut_ok b6 m6 e6 _ p h6 w6 jtx hpm (by omega)) ?_⟩
        · rw [Int.toNat_natCast, add_mk, Nat.zero_add, Nat.mul_one]; exact hcw
        rintro _ h7 ⟨b7, m7, e7, rfl, w7, x7⟩
        refine ⟨b7, m7, e7, rfl, ?_⟩
        rw [wrapS (j + 1) (hd.length + 1) (by omega) (by omega)]
        refine ⟨⟨j + 1, rfl, by omega, ?_, x6.trans x7⟩, by show ((lw : Int) - ((j + 1 + 1 : Nat) : Int)).toNat < ((lw : Int) - ((j + 1 : Nat) : Int)).toNat; omega⟩
        rw [take_snoc p1, insAll_app]
        exact w7
      · have hjl : j = hd.length := by
          have : ¬ ((j + 1 : Nat) : Int) < (lw : Int) := by simpa using gj
          omega
        unfold F15_k9
        rw [wrapS k d.l hkl (by omega)]
        refine ⟨⟨k + 1, rfl, by omega, ?_, (x4.trans x5).trans x6⟩, lessS k d.l hkl⟩
        rw [hsn, insAll_app, hcur]
        rw [hjl, List.take_length] at w6
        exact w6
    · have hkl : k = d.l := by
        have : ¬ (k : Int) < (d.l : Int) := by simpa using gk
        omega
      unfold F15_k10
      rw [wrapS i l hil (by omega)]
      refine ⟨⟨i + 1, rfl, by omega, fun e he => ?_, ?_, x04⟩, lessS i l hil⟩
      · rw [take_snoc s1, List.mem_append, List.mem_singleton] at he
        rcases he with he | rfl
        · exact hg e he
        · exact gd
      · rw [allP_snoc s1]
        rw [show es.take k = es from List.take_of_length_le (by omega)] at hcur
        rw [hcur]; exact w4
  · have hil : i = l := by
      have : ¬ (i : Int) < (l : Int) := by simpa using gi
      omega
    subst hil
    have htk : stk.take i = stk := List.take_of_length_le (by omega)
    rw [htk] at hg w2 hal
    have w2l := w2.len
    rw [rowsT_len] at w2l
    have htx := allP_txt hg
    unfold F15_k11
    refine ⟨fun a11 l11 c11 x hh => ∃ k : Nat, x = k ∧ k ≤ l4 ∧ OwnR 38 4 h2 hh a11 l11 c11 (ents (((allP stk).take k).filterMap fun p => seenS stk (str p))), fun _ _ _ x _ => ((l4 : Int) - x).toNat, ⟨0, rfl, by omega, OwnR.nil _ _ (Ext.refl h2)⟩, ?_⟩
    rintro h3 a11 l11 c11 _ ⟨k, rfl, hk, o3⟩
    have x3 := o3.ext
    have o3l := o3.len
    rw [ents_len] at o3l
    unfold F15_b12
    refine br_of (fun gk => ?_) (fun gk => ?_)
    · have hkl : k < l4 := by
        have : (k : Int) < (l4 : Int) := by simpa using gk
        omega
      have p1 : (allP stk)[k]? = some ((allP stk)[k]'(by omega)) := List.getElem?_eq_getElem (by omega)
      generalize (allP stk)[k]'(by omega) = p at p1
      have hpm := htx p (List.mem_of_getElem? p1)
      obtain ⟨q, eq, _, hc⟩ := rowsT_get (w2.grow x3) p1
      have room : l11 ≤ 8192 := by
        rw [← o3l]
        exact Nat.le_trans (List.length_filterMap_le _ _) (by rw [List.length_take]; omega)
      unfold F15_k13
      refine ⟨q, eq, by omega, by omega, str p, by rw [Int.toNat_natCast]; exact hc, HEnt.use (seen_ok a i c stk hs (str p) (by rw [str_size]; omega) (by omega) i h3 (t.grow (x2.trans x3)) (Nat.le_refl _)) ?_⟩
      rintro _ h4 ⟨rfl, x4⟩
      rw [htk]
      have hnext : ((allP stk).take (k + 1)).filterMap (fun p => seenS stk (str p)) = ((allP stk).take k).filterMap (fun p => seenS stk (str p)) ++ (match seenS stk (str p) with | some e => [e] | none => []) := by
        rw [take_snoc p1, List.filterMap_append]
        cases ho : seenS stk (str p) with
        | none => simp [ho]
        | some e => simp [ho]
      generalize hso : seenS stk (str p) = o at *
      refine ⟨(o.getD e0).path, (o.getD e0).kind, (o.getD e0).mode, (o.getD e0).body, o.isSome, rfl, newK_intro fun h5 hb5 x5 z5 => ?_⟩
      refine storeK_whole (vs := entA (o.getD e0)) hb5 rfl zeroC38 (entA_one _) fun h6 hb6 o6 => ?_
      have x46 : Ext h4 h6 := Keep.since x5 (o6.keep rfl : Keep (· = h4.size) h5 h6) fun j hj e => by omega
      have x36 := x4.trans x46
      have ec := ent_cells hb6
      cases o with
      | some e =>
        refine br_of (fun _ => ⟨_, _, _, _, ec.1, ec.2.1, ec.2.2.1, ec.2.2.2, rfl, rfl, by decide, newK_intro fun h7 hb7 x7 z7 => ?_⟩) (fun e => by cases e)
        refine own_app (e := e) (o3.grow (x36.trans x7)) hb7 (by omega) fun a8 c8 h8 o8 k8 => ?_
        unfold F15_k14
        rw [wrapS k l4 hkl (by omega)]
        refine ⟨⟨k + 1, rfl, by omega, ?_⟩, lessS k l4 hkl⟩
        rw [hnext]; exact o8
      | none =>
        refine br_of (fun e => by cases e) (fun _ => ?_)
        unfold F15_k14
        rw [wrapS k l4 hkl (by omega)]
        refine ⟨⟨k + 1, rfl, by omega, ?_⟩, lessS k l4 hkl⟩
        rw [hnext, List.append_nil]; exact o3.grow x36
    · have hkl : k = l4 := by
        have : ¬ (k : Int) < (l4 : Int) := by simpa using gk
        omega
      rw [List.take_of_length_le (by omega)] at o3
      unfold F15_k15
      exact ⟨a11, l11, c11, refM stk, 0, rfl, .inr (.inr ⟨by omega, hg, rfl, ref_lists hg⟩), ow_since o3 x2⟩
theorem merges_ok (a : Option Addr) (l c : Nat) (stk : List (List EntV)) (hs : List HdE) (h : Heap) (t : StackE h a l c stk hs) (hm : MaxAt h) :
    HEnt Tryd.prog 3 #[.slice a l c] h (yes h) := by
  have hl := t.length
  refine F3_ent _ _ _ _ _ ?_
  unfold F3
  refine HEnt.use (few_ok a l c stk hs h t) ?_
  rintro _ h1 ⟨rfl, rfl⟩
  refine ⟨_, rfl, br_of (fun _ => works_yes (Ext.refl h1) hm) (fun hf => ?_)⟩
  have hfew : few stk := by simpa using hf
  have few20 := hfew.1
  unfold F3_k1
  refine HEnt.use (own_ok a l c stk hs h1 t (by omega)) ?_
  rintro _ h2 ⟨a2, c2, hs2, rfl, o2⟩
  have x2 := o2.rows.ext
  refine ⟨_, _, _, rfl, HEnt.use (merge_ok a2 l c2 stk hs2 h2 o2.stack (hm.ext x2)) ?_⟩
  rintro _ h3 ⟨a3, l3, c3, es, e, rfl, mr3, o3⟩
  have x3 := x2.trans o3.ext
  refine ⟨_, _, _, _, rfl, HEnt.use (refMerge_ok a l c stk hs h3 (t.grow x3)) ?_⟩
  rintro _ h4 ⟨a4, l4, c4, fs, f, rfl, mr4, o4⟩
  have x4 := x3.trans o4.ext
  obtain ⟨rfl, rfl⟩ := mr3.one mr4
  have tr := mr3.tree
  have hl3 := o3.len
  rw [ents_len] at hl3
  refine ⟨_, _, _, _, rfl, HEnt.use (same_ok a3 l3 c3 es a4 l4 c4 es h4 (o3.grow o4.ext).rows o4.rows (by omega)) ?_⟩
  rintro _ h5 ⟨⟨b, rfl, hb⟩, rfl⟩
  refine ⟨b, rfl, br_of (fun e => by rw [hb.2 rfl] at e; cases e) (fun _ => ?_)⟩
  unfold F3_k2
  refine br_of (fun e => by simp at e) (fun _ => ?_)
  unfold F3_k3
  refine ⟨fun x hh => ∃ i : Nat, x = i ∧ i ≤ l ∧ Ext h5 hh, fun x _ => ((l : Int) - x).toNat, ⟨0, rfl, by omega, Ext.refl _⟩, ?_⟩
  rintro h6 _ ⟨i, rfl, hi, x6⟩
  have x06 := x4.trans x6
  unfold F3_b4
  refine br_of (fun gi => ?_) (fun gi => ?_)
  · have hil : i < l := by
      have : (i : Int) < (l : Int) := by simpa using gi
      omega
    obtain ⟨q, fs1, d, s1, d1, eq, hc, tl, sm, dl⟩ := (t.grow x06).get hil
    obtain ⟨q2, fs2, d2, s2, d2', eq2, hc2, tl2, sm2, dl2⟩ := (o2.stack.grow ((o3.ext.trans o4.ext).trans x6)).get hil
    rw [s1] at s2; cases s2
    unfold F3_k5
    refine ⟨q2, eq2, by omega, by omega, d2.a, d2.l, d2.c, by rw [Int.toNat_natCast]; exact hc2, q, eq, by omega, by omega, d.a, d.l, d.c, by rw [Int.toNat_natCast]; exact hc, true, fun h7 x7 => (same_ok d2.a d2.l d2.c fs1 d.a d.l d.c fs1 h7 (tl2.grow x7) (tl.grow x7) (by omega)).mono ?_, fun h7 x7 => br_of (fun e => by cases e) (fun _ => ?_)⟩
    · rintro v h8 ⟨⟨b2, rfl, hb2⟩, rfl⟩
      exact ⟨by rw [hb2.2 rfl], Ext.refl _⟩
    · unfold F3_k6
      rw [wrapS i l hil (by omega)]
      exact ⟨⟨i + 1, rfl, by omega, x6.trans x7⟩, lessS i l hil⟩
  · unfold F3_k7
    exact works_yes x06 hm
end Go.Proofs.YtcfegbpoailbdaaDoor
