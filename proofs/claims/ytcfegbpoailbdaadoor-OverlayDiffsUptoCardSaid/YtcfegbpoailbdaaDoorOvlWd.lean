import Derived.Test.YtcfegbpoailbdaaDoorOvlWc
import Derived.Test.YtcfegbpoailbdaaDoorOvlRc

namespace Go.Proofs.YtcfegbpoailbdaaDoor
open Go.Vc Go.Sha Go.Trail Go.Lay
set_option linter.unusedVariables false
set_option linter.unusedSimpArgs false
set_option maxRecDepth 20000
theorem has_sts {es : List EntV} {p : ByteArray} {x : Int} (h : HasR es p x) : (x < 0 ∧ stS es p = none) ∨ ∃ (i : Nat) (e : EntV), x = i ∧ es[i]? = some e ∧ e.path = p ∧ stS es p = some e := by
  rcases h with ⟨rfl, hn⟩ | ⟨i, e, rfl, ei, hep, hn⟩
  · refine .inl ⟨by decide, ?_⟩
    unfold stS
    rw [List.find?_eq_none]
    intro e he
    simpa using hn e he
  · exact .inr ⟨i, e, rfl, ei, hep, find_at ei (by simpa using hep) fun f hf => by simpa using hn f hf⟩
theorem rd_loop (a : Option Addr) (l c : Nat) (xs : List EntV) (a1 : Option Addr) (l1 c1 : Nat) (ys : List EntV) (a6 : Option Addr) (l6 c6 : Nat) (h : Heap) (w : Tab 4 h a l c (ents xs)) (sx : Small xs) (w1 : Tab 4 h a1 l1 c1 (ents ys)) (sy : Small ys) (hl : l ≤ 200) (hl1 : l1 ≤ 200)
    (w6 : Tab 1 h a6 l6 c6 (rowsT (allD xs ys))) (R : Value → Heap → Prop) (hR : ∀ a' l' c' hh, OwnR 38 4 h hh a' l' c' (ents (refD xs ys)) → F21_k15 a' l' c' hh R) : F21_k8 a l c a1 l1 c1 a6 l6 c6 h R := by
  have hxl := w.len
  rw [ents_len] at hxl
  have hyl := w1.len
  rw [ents_len] at hyl
  have h6l := w6.len
  rw [rowsT_len] at h6l
  have hal := allD_len xs ys
  have hfm : refD xs ys = ((allD xs ys).take l6).filterMap fun p => dS (stS xs) (stS ys) (str p) := by
    rw [List.take_of_length_le (by omega)]; rfl
  obtain ⟨I, hI⟩ : ∃ I : Option Addr → Nat → Nat → Int → Heap → Prop, ∀ a' l' c' x hh, I a' l' c' x hh ↔ ∃ k : Nat, x = k ∧ k ≤ l6 ∧ OwnR 38 4 h hh a' l' c' (ents (((allD xs ys).take k).filterMap fun p => dS (stS xs) (stS ys) (str p))) := ⟨_, fun _ _ _ _ _ => Iff.rfl⟩
  obtain ⟨M, hM⟩ : ∃ M : Option Addr → Nat → Nat → Int → Heap → Nat, ∀ a' l' c' x hh, M a' l' c' x hh = ((l6 : Int) - x).toNat := ⟨_, fun _ _ _ _ _ => rfl⟩
  unfold F21_k8
  refine ⟨I, M, (hI _ _ _ _ _).2 ⟨0, rfl, by omega, OwnR.nil _ _ (Ext.refl h)⟩, ?_⟩
  intro h3 a9 l9 c9 x hi9
  obtain ⟨k, rfl, hk, o3⟩ := (hI _ _ _ _ _).1 hi9
  have x3 := o3.ext
  have o3l := o3.len
  rw [ents_len] at o3l
  unfold F21_b9
  refine br_of (fun gk => ?_) (fun gk => ?_)
  rotate_left
  · have hkl : k = l6 := by
      have : ¬ (k : Int) < (l6 : Int) := by simpa using gk
      omega
    subst hkl
    rw [← hfm] at o3
    exact hR _ _ _ _ o3
  have hkl : k < l6 := by
    have : (k : Int) < (l6 : Int) := by simpa using gk
    omega
  have p1 : (allD xs ys)[k]? = some ((allD xs ys)[k]'(by omega)) := List.getElem?_eq_getElem (by omega)
  generalize (allD xs ys)[k]'(by omega) = p at p1
  have hpm := List.mem_of_getElem? p1
  have hpl := lst_str p (allD_lt hpm)
  obtain ⟨q, eq, _, hc⟩ := rowsT_get (w6.grow x3) p1
  have room : l9 ≤ 400 := by
    rw [← o3l]
    exact Nat.le_trans (List.length_filterMap_le _ _) (by rw [List.length_take]; omega)
  have hnext : ((allD xs ys).take (k + 1)).filterMap (fun p => dS (stS xs) (stS ys) (str p)) = ((allD xs ys).take k).filterMap (fun p => dS (stS xs) (stS ys) (str p)) ++ (match dS (stS xs) (stS ys) (str p) with | some e => [e] | none => []) := by
    rw [take_snoc p1, List.filterMap_append]
    cases ho : dS (stS xs) (stS ys) (str p) with
    | none => simp [ho]
    | some e => simp [ho]
  have k12 : ∀ (b9 : Option Addr) (m9 d9 : Nat) (hh : Heap), OwnR 38 4 h hh b9 m9 d9 (ents (((allD xs ys).take (k + 1)).filterMap fun p => dS (stS xs) (stS ys) (str p))) → F21_k12 I M (M a9 l9 c9 k h3) a l c a1 l1 c1 a6 l6 c6 b9 m9 d9 k hh R := by
    intro b9 m9 d9 hh o
    unfold F21_k12
    rw [wrapS k l6 hkl (by omega)]
    refine ⟨(hI _ _ _ _ _).2 ⟨k + 1, rfl, by omega, o⟩, ?_⟩
    rw [hM, hM]
    exact lessS k l6 hkl
  have skip : ∀ hh, Ext h3 hh → dS (stS xs) (stS ys) (str p) = none → F21_k12 I M (M a9 l9 c9 k h3) a l c a1 l1 c1 a6 l6 c6 a9 l9 c9 k hh R := by
    intro hh xh ho
    refine k12 a9 l9 c9 hh ?_
    rw [hnext, ho, List.append_nil]
    exact o3.grow xh
  have put : ∀ (e : EntV) hh, Ext h3 hh → dS (stS xs) (stS ys) (str p) = some e → newK hh (.cells #[.string e.path, .int .i64 e.kind, .int .i64 e.mode, .string e.body] 38) fun b h1 => appK Tryd.prog 38 h1 a9 l9 c9 (.slice (some (at0 b)) 1 1) fun a' l' c' h2 => F21_k12 I M (M a9 l9 c9 k h3) a l c a1 l1 c1 a6 l6 c6 a' l' c' k h2 R := by
    intro e hh xh ho
    refine newK_intro fun h7 hb7 x7 z7 => ?_
    refine own_app (e := e) (o3.grow (xh.trans x7)) hb7 (by omega) fun a8 c8 h8 o8 k8 => k12 _ _ _ _ ?_
    rw [hnext, ho]
    exact o8
  unfold F21_k10
  refine ⟨q, eq, by omega, by omega, str p, by rw [Int.toNat_natCast]; exact hc, HEnt.use (has_ok a l c xs (str p) h3 (w.grow x3) (by omega)) ?_⟩
  rintro _ h4 ⟨e4, xa, rfl, hxa⟩
  subst e4
  refine ⟨xa, rfl, HEnt.use (has_ok a1 l1 c1 ys (str p) h4 (w1.grow x3) (by omega)) ?_⟩
  rintro _ h5 ⟨e5, xb, rfl, hxb⟩
  subst e5
  refine ⟨xb, rfl, ?_⟩
  rcases has_sts hxb with ⟨hneg, hB⟩ | ⟨j, y, rfl, ej, hyp, hB⟩
  · -- it is gone
    refine br_of (fun e => ?_) (fun _ => ?_)
    · have : xb ≥ 0 := by simpa using e
      omega
    obtain ⟨z, hA⟩ : ∃ z, stS xs (str p) = some z := by
      rcases (mem_allD p).1 hpm with ⟨e, he, hep⟩ | ⟨e, he, hep⟩
      · exfalso
        unfold stS at hB
        rw [List.find?_eq_none] at hB
        exact hB e he (by simp only [decide_eq_true_eq]; apply lst_inj; rw [hep, hpl])
      · cases hs : stS xs (str p) with
        | some z => exact ⟨z, rfl⟩
        | none =>
          unfold stS at hs
          rw [List.find?_eq_none] at hs
          exact absurd (by simp only [decide_eq_true_eq]; apply lst_inj; rw [hep, hpl]) (hs e he)
    have hsz : (str p).size < 2 ^ 29 := by
      obtain ⟨h1, h2⟩ := sts_path hA
      rw [← h1]
      exact (sx _ h2).1
    have hul := lst_str _ (up_lt (lst (str p)))
    unfold F21_k13
    refine HEnt.use (refUp_ok (str p) (by omega) h5) ?_
    rintro _ h6 ⟨rfl, x6⟩
    refine ⟨_, _, rfl, HEnt.use (has_ok a1 l1 c1 ys (str (upL (lst (str p))).1) h6 (w1.grow (x3.trans x6)) (by omega)) ?_⟩
    rintro _ h7 ⟨e7, xu, rfl, hxu⟩
    subst e7
    have yes_ : isDir (stS ys) (upL (lst (str p))).1 → F21_k14 I M (M a9 l9 c9 k h5) a l c a1 l1 c1 a6 l6 c6 a9 l9 c9 k (str p) true h7 R := by
      intro hd
      unfold F21_k14
      exact br_of (fun _ => ⟨rfl, by decide, put (whiteE (str p)) h7 x6 (dS_white hB hA hd)⟩) (fun e => by cases e)
    have no_ : ¬ isDir (stS ys) (upL (lst (str p))).1 → F21_k14 I M (M a9 l9 c9 k h5) a l c a1 l1 c1 a6 l6 c6 a9 l9 c9 k (str p) false h7 R := by
      intro hd
      unfold F21_k14
      exact br_of (fun e => by cases e) (fun _ => skip h7 x6 (dS_not hB hA hd))
    refine ⟨xu, rfl, ?_⟩
    rw [seq_nil, hul]
    refine br_of (fun g => yes_ (.inl (by simpa using g))) (fun g => ?_)
    have g : (upL (lst (str p))).1 ≠ [] := by simpa using g
    rcases has_sts hxu with ⟨hneg2, hU⟩ | ⟨i, d, rfl, ei, hdp, hU⟩
    · refine br_of (fun e => ?_) (fun _ => no_ ?_)
      · have : xu ≥ 0 := by simpa using e
        omega
      · rintro (h8 | ⟨d, hd, _⟩)
        · exact g h8
        · rw [hU] at hd; cases hd
    · have hil := (List.getElem?_eq_some_iff.1 ei).1
      obtain ⟨q2, eq2, _, _, d1, _⟩ := ent_get (w1.grow (x3.trans x6)) ei
      refine br_of (fun _ => ⟨q2, eq2, by omega, by omega, d.kind, by rw [Int.toNat_natCast]; exact d1, ?_⟩) (fun e => ?_)
      · by_cases k2 : d.kind = 2
        · rw [show (d.kind == 2) = true by simp [k2]]
          exact yes_ (.inr ⟨d, hU, k2⟩)
        · rw [show (d.kind == 2) = false by simp [k2]]
          refine no_ ?_
          rintro (h8 | ⟨d2, hd, kd⟩)
          · exact g h8
          · rw [hU] at hd
            have := Option.some.inj hd
            subst this
            exact k2 kd
      · simp at e
  · -- it is there
    have hjl := (List.getElem?_eq_some_iff.1 ej).1
    obtain ⟨q2, eq2, _, c0, c1', c2, c3⟩ := ent_get (w1.grow x3) ej
    refine br_of (fun _ => ?_) (fun e => ?_)
    rotate_left
    · simp at e
    have k11 : ∀ b, (b = true → stS xs (str p) = some y) → (b = false → stS xs (str p) ≠ some y) → F21_k11 I M (M a9 l9 c9 k h5) a l c a1 l1 c1 a6 l6 c6 a9 l9 c9 k j b h5 R := by
      intro b hb1 hb2
      unfold F21_k11
      refine br_of (fun g => ⟨q2, eq2, by omega, by omega, y.path, y.kind, y.mode, y.body, by rw [Int.toNat_natCast]; exact c0, by rw [Int.toNat_natCast]; exact c1', by rw [Int.toNat_natCast]; exact c2, by rw [Int.toNat_natCast]; exact c3, rfl, rfl, by decide, put y h5 (Ext.refl _) (dS_is hB (hb2 (by simpa using g)))⟩) (fun g => skip h5 (Ext.refl _) (dS_same hB (hb1 (by simpa using g))))
    rcases has_sts hxa with ⟨hneg, hA⟩ | ⟨i, z, rfl, ei, hzp, hA⟩
    · refine br_of (fun e => ?_) (fun _ => ?_)
      · have : xa ≥ 0 := by simpa using e
        omega
      · rintro _ rfl
        exact k11 false (fun e => by cases e) fun _ e => by rw [hA] at e; cases e
    have hil := (List.getElem?_eq_some_iff.1 ei).1
    obtain ⟨q3, eq3, _, d0, d1, d2, d3⟩ := ent_get (w.grow x3) ei
    have no_ : z ≠ y → ∀ hh, Cls false h5 hh → F21_k11 I M (M a9 l9 c9 k h5) a l c a1 l1 c1 a6 l6 c6 a9 l9 c9 k j false hh R := by
      rintro hzy _ rfl
      exact k11 false (fun e => by cases e) fun _ e => by rw [hA] at e; exact hzy (Option.some.inj e)
    refine br_of (fun _ => ⟨q3, eq3, by omega, by omega, z.kind, by rw [Int.toNat_natCast]; exact d1, q2, eq2, by omega, by omega, y.kind, by rw [Int.toNat_natCast]; exact c1', br_of (fun gk => ?_) (fun gk => no_ fun e => ?_)⟩) (fun e => ?_)
    · have gk : z.kind = y.kind := by simpa using gk
      refine ⟨q3, eq3, by omega, by omega, z.mode, by rw [Int.toNat_natCast]; exact d2, q2, eq2, by omega, by omega, y.mode, by rw [Int.toNat_natCast]; exact c2, br_of (fun gm => ?_) (fun gm => no_ fun e => ?_)⟩
      · have gm : z.mode = y.mode := by simpa using gm
        refine ⟨q3, eq3, by omega, by omega, z.body, by rw [Int.toNat_natCast]; exact d3, q2, eq2, by omega, by omega, y.body, by rw [Int.toNat_natCast]; exact c3, ?_⟩
        rintro _ rfl
        rw [seq_dec]
        refine k11 _ (fun e => ?_) (fun e e2 => ?_)
        · have e : z.body = y.body := by simpa using e
          rw [hA]
          congr 1
          cases z; cases y
          simp_all
        · have e : z.body ≠ y.body := by simpa using e
          rw [hA] at e2
          exact e (by rw [Option.some.inj e2])
      · rw [e] at gm; simp at gm
    · rw [e] at gk; simp at gk
    · simp at e
theorem ins_txt {p : List Nat} {ps : List (List Nat)} (h : Txt ps) (hp : (∀ x ∈ p, x < 256) ∧ p.length < 2 ^ 30) : Txt (insP p ps) := fun q hq => by
  rcases (mem_ins p q ps).1 hq with rfl | hq
  · exact hp
  · exact h q hq
theorem insAll_txt : ∀ {qs ps : List (List Nat)}, Txt ps → Txt qs → Txt (insAll qs ps)
  | [], ps, h, _ => h
  | q :: qs, ps, h, h2 => insAll_txt (qs := qs) (ins_txt h (h2 q (by simp))) fun x hx => h2 x (List.mem_cons_of_mem _ hx)
theorem insAll_app (xs ys l : List (List Nat)) : insAll (xs ++ ys) l = insAll ys (insAll xs l) := by unfold insAll; rw [List.foldl_append]
theorem path_txt {es : List EntV} (s : Small es) : Txt (pathsL es) := fun p hp => by
  obtain ⟨e, he, rfl⟩ := List.mem_map.1 hp
  refine ⟨lst_lt _, ?_⟩
  rw [lst_len]
  have := (s e he).1
  omega
theorem path_snoc {es : List EntV} {i : Nat} {f : EntV} (h : es[i]? = some f) (ps : List (List Nat)) : insAll (pathsL (es.take (i + 1))) ps = insP (lst f.path) (insAll (pathsL (es.take i)) ps) := by
  unfold pathsL
  rw [take_snoc h, List.map_append, insAll_app]
  rfl
open Classical in
theorem refDiff_ok (a : Option Addr) (l c : Nat) (xs : List EntV) (a1 : Option Addr) (l1 c1 : Nat) (ys : List EntV) (h : Heap) (w : Tab 4 h a l c (ents xs)) (sx : Small xs) (w1 : Tab 4 h a1 l1 c1 (ents ys)) (sy : Small ys) (hl : l ≤ 200) (hl1 : l1 ≤ 200) :
    HEnt Tryd.prog 21 #[.slice a l c, .slice a1 l1 c1] h fun v h' => ∃ a' l' c', v = .tuple #[.slice a' l' c', .int .i64 (((diffC xs ys).2 : Nat) : Int)] ∧ OwnR 38 4 h h' a' l' c' (ents (diffC xs ys).1) := by
  have hxl := w.len
  rw [ents_len] at hxl
  have hyl := w1.len
  rw [ents_len] at hyl
  obtain ⟨R, hR⟩ : ∃ R : Value → Heap → Prop, ∀ v h', R v h' ↔ ∃ a' l' c', v = .tuple #[.slice a' l' c', .int .i64 (((diffC xs ys).2 : Nat) : Int)] ∧ OwnR 38 4 h h' a' l' c' (ents (diffC xs ys).1) := ⟨_, fun _ _ => Iff.rfl⟩
  refine HEnt.mono (R := R) ?_ fun v h' hr => (hR v h').1 hr
  have bad : ¬ (treeP xs ∧ treeP ys) → ∀ h', Ext h h' → F21_k1 a l c a1 l1 c1 true h' R := by
    intro ht h' x'
    unfold F21_k1
    refine br_of (fun _ => (hR _ _).2 ?_) (fun e => by cases e)
    unfold diffC
    rw [if_pos ht]
    exact ⟨none, 0, 0, rfl, OwnR.nil _ _ x'⟩
  refine F21_ent _ _ _ _ _ _ _ _ ?_
  unfold F21
  refine HEnt.use (refTree_ok a l c xs h w sx (by omega)) ?_
  rintro _ h1 ⟨rfl, x1⟩
  refine ⟨_, rfl, br_of (fun g => bad (fun t => ?_) h1 x1) (fun g => ?_)⟩
  · rw [decide_eq_true t.1] at g; cases g
  have tx : treeP xs := by simpa using g
  refine HEnt.use (refTree_ok a1 l1 c1 ys h1 (w1.grow x1) sy (by omega)) ?_
  rintro _ h2 ⟨rfl, x2⟩
  have x02 := x1.trans x2
  by_cases ty : treeP ys
  rotate_left
  · rw [decide_eq_false ty]
    exact ⟨_, rfl, bad (fun t => ty t.2) h2 x02⟩
  rw [decide_eq_true ty]
  refine ⟨_, rfl, ?_⟩
  have hdc : diffC xs ys = if (refD xs ys).length > 64 then ([], 3) else (refD xs ys, 0) := by
    unfold diffC
    rw [if_neg (fun h => h ⟨tx, ty⟩)]
  have hlenA := insAll_len (pathsL xs) []
  have hpx : (pathsL xs).length = l := by unfold pathsL; rw [List.length_map, hxl]
  unfold F21_k1
  refine br_of (fun e => by cases e) (fun _ => ?_)
  unfold F21_k2
  refine ⟨fun a6 l6 c6 x hh => ∃ i : Nat, x = i ∧ i ≤ l ∧ Tab 1 hh a6 l6 c6 (rowsT (insAll (pathsL (xs.take i)) [])) ∧ Ext h hh, fun _ _ _ x _ => ((l : Int) - x).toNat, ⟨0, rfl, by omega, Tab.empty _ _ _ _, x02⟩, ?_⟩
  rintro h3 a6 l6 c6 _ ⟨i, rfl, hi, w6, x3⟩
  have w6l := w6.len
  rw [rowsT_len] at w6l
  have b6 := insAll_len (pathsL (xs.take i)) []
  have b6' : (pathsL (xs.take i)).length ≤ 200 := by unfold pathsL; rw [List.length_map, List.length_take]; omega
  have hnil : ([] : List (List Nat)).length = 0 := rfl
  have t6 : Txt (insAll (pathsL (xs.take i)) []) := insAll_txt (fun q hq => by cases hq) (path_txt fun e he => sx e (List.mem_of_mem_take he))
  unfold F21_b3
  refine br_of (fun gi => ?_) (fun gi => ?_)
  · have hil : i < l := by
      have : (i : Int) < (l : Int) := by simpa using gi
      omega
    have e1 : xs[i]? = some (xs[i]'(by omega)) := List.getElem?_eq_getElem (by omega)
    generalize xs[i]'(by omega) = f at e1
    obtain ⟨q, eq, _, c0, _⟩ := ent_get (w.grow x3) e1
    have smf := (sx f (List.mem_of_getElem? e1)).1
    have hput := refPut_ok a6 l6 c6 _ (lst f.path) h3 w6 t6 ⟨lst_lt _, by rw [lst_len]; omega⟩ (by omega)
    rw [str_lst] at hput
    unfold F21_k4
    refine ⟨q, eq, by omega, by omega, f.path, by rw [Int.toNat_natCast]; exact c0, HEnt.use hput ?_⟩
    rintro _ h4 ⟨a', l', c', rfl, w', x4⟩
    rw [wrapS i l hil (by omega)]
    refine ⟨a', l', c', rfl, ⟨i + 1, rfl, by omega, ?_, x3.trans x4⟩, lessS i l hil⟩
    rw [path_snoc e1]; exact w'
  have hil : i = l := by
    have : ¬ (i : Int) < (l : Int) := by simpa using gi
    omega
  rw [List.take_of_length_le (by omega)] at w6 t6 w6l
  unfold F21_k5
  refine ⟨fun a6 l6 c6 x hh => ∃ i : Nat, x = i ∧ i ≤ l1 ∧ Tab 1 hh a6 l6 c6 (rowsT (insAll (pathsL (ys.take i)) (insAll (pathsL xs) []))) ∧ Ext h hh, fun _ _ _ x _ => ((l1 : Int) - x).toNat, ⟨0, rfl, by omega, w6, x3⟩, ?_⟩
  rintro h4 a7 l7 c7 _ ⟨i2, rfl, hi2, w7, x4⟩
  have w7l := w7.len
  rw [rowsT_len] at w7l
  have b7 := insAll_len (pathsL (ys.take i2)) (insAll (pathsL xs) [])
  have b7' : (pathsL (ys.take i2)).length ≤ 200 := by unfold pathsL; rw [List.length_map, List.length_take]; omega
  have t7 : Txt (insAll (pathsL (ys.take i2)) (insAll (pathsL xs) [])) := insAll_txt t6 (path_txt fun e he => sy e (List.mem_of_mem_take he))
  unfold F21_b6
  refine br_of (fun gi => ?_) (fun gi => ?_)
  · have hil2 : i2 < l1 := by
      have : (i2 : Int) < (l1 : Int) := by simpa using gi
      omega
    have e1 : ys[i2]? = some (ys[i2]'(by omega)) := List.getElem?_eq_getElem (by omega)
    generalize ys[i2]'(by omega) = f at e1
    obtain ⟨q, eq, _, c0, _⟩ := ent_get (w1.grow x4) e1
    have smf := (sy f (List.mem_of_getElem? e1)).1
    have hput := refPut_ok a7 l7 c7 _ (lst f.path) h4 w7 t7 ⟨lst_lt _, by rw [lst_len]; omega⟩ (by omega)
    rw [str_lst] at hput
    unfold F21_k7
    refine ⟨q, eq, by omega, by omega, f.path, by rw [Int.toNat_natCast]; exact c0, HEnt.use hput ?_⟩
    rintro _ h5 ⟨a', l', c', rfl, w', x5⟩
    rw [wrapS i2 l1 hil2 (by omega)]
    refine ⟨a', l', c', rfl, ⟨i2 + 1, rfl, by omega, ?_, x4.trans x5⟩, lessS i2 l1 hil2⟩
    rw [path_snoc e1]; exact w'
  have hil2 : i2 = l1 := by
    have : ¬ (i2 : Int) < (l1 : Int) := by simpa using gi
    omega
  rw [List.take_of_length_le (by omega)] at w7
  refine rd_loop a l c xs a1 l1 c1 ys a7 l7 c7 h4 (w.grow x4) sx (w1.grow x4) sy hl hl1 w7 R fun a' l' c' hh o => ?_
  have hol := o.len
  rw [ents_len] at hol
  unfold F21_k15
  refine br_of (fun g => (hR _ _).2 ?_) (fun g => ?_)
  · have g : (l' : Int) > 64 := by simpa using g
    rw [hdc, if_pos (by omega)]
    exact ⟨none, 0, 0, rfl, OwnR.nil _ _ (x4.trans o.ext)⟩
  · have g : ¬ (l' : Int) > 64 := by simpa using g
    unfold F21_k16
    refine (hR _ _).2 ?_
    rw [hdc, if_neg (by omega)]
    exact ⟨a', l', c', rfl, ow_since o x4⟩
theorem diffs_ok (a : Option Addr) (l c : Nat) (xs : List EntV) (a1 : Option Addr) (l1 c1 : Nat) (ys : List EntV) (h : Heap) (w : Tab 4 h a l c (ents xs)) (sx : Small xs) (w1 : Tab 4 h a1 l1 c1 (ents ys)) (sy : Small ys) (hm : MaxAt h) :
    HEnt Tryd.prog 8 #[.slice a l c, .slice a1 l1 c1] h (yes h) := by
  have hxl := w.len
  rw [ents_len] at hxl
  have hyl := w1.len
  rw [ents_len] at hyl
  refine F8_ent _ _ _ _ _ _ _ _ ?_
  unfold F8
  have k1t : F8_k1 a l c a1 l1 c1 true h (yes h) := by
    unfold F8_k1
    exact br_of (fun _ => works_yes (Ext.refl h) hm) (fun e => by cases e)
  refine br_of (fun _ => k1t) (fun g => ?_)
  have hl : l ≤ 200 := by
    have : ¬ (l : Int) > 200 := by simpa using g
    omega
  unfold F8_k1
  refine br_of (fun _ => works_yes (Ext.refl h) hm) (fun g => ?_)
  have hl1 : l1 ≤ 200 := by
    have : ¬ (l1 : Int) > 200 := by simpa using g
    omega
  unfold F8_k2
  refine ⟨by decide, newK_intro fun h1 hb1 x1 z1 => ?_⟩
  have o1 : OwnR 38 4 h h1 (some (at0 h.size)) 0 0 [] := OwnR.new_ (rows := []) hb1 x1 (Nat.le_refl _) (by simp) rfl
  refine appK_R size38 o1 (w.grow x1).src (by rw [ents_len, hxl]) (ents_row xs) (fun r hr u hu => by
    obtain ⟨e, _, rfl⟩ := List.mem_map.1 hr
    exact entC_one e u hu) (by rw [bytes38']; omega) z38 fun a2 c2 h2 o2 k2 d2 => ?_
  rw [Nat.zero_add, List.nil_append] at o2
  rw [Nat.zero_add]
  have x2 := o2.ext
  refine ⟨by decide, newK_intro fun h3 hb3 x3 z3 => ?_⟩
  have x03 := x2.trans x3
  have o3 : OwnR 38 4 h2 h3 (some (at0 h2.size)) 0 0 [] := OwnR.new_ (rows := []) hb3 x3 (Nat.le_refl _) (by simp) rfl
  refine appK_R size38 o3 (w1.grow x03).src (by rw [ents_len, hyl]) (ents_row ys) (fun r hr u hu => by
    obtain ⟨e, _, rfl⟩ := List.mem_map.1 hr
    exact entC_one e u hu) (by rw [bytes38']; omega) z38 fun a4 c4 h4 o4 k4 d4 => ?_
  rw [Nat.zero_add, List.nil_append] at o4
  rw [Nat.zero_add]
  have x24 := o4.ext
  have x04 := x2.trans x24
  refine HEnt.use (diff_ok a2 l c2 xs a4 l1 c4 ys h4 (o2.grow x24).rows sx o4.rows sy (by omega) (by omega) (hm.ext x04)) ?_
  rintro _ h5 ⟨a5, l5, c5, rfl, o5⟩
  have x05 := x04.trans o5.ext
  refine ⟨_, _, _, _, rfl, HEnt.use (refDiff_ok a l c xs a1 l1 c1 ys h5 (w.grow x05) sx (w1.grow x05) sy hl hl1) ?_⟩
  rintro _ h6 ⟨a6, l6, c6, rfl, o6⟩
  have x06 := x05.trans o6.ext
  have hl5 := o5.len
  rw [ents_len] at hl5
  have h64 : (diffC xs ys).1.length ≤ 64 := by
    unfold diffC
    split
    · simp
    · split
      · simp
      · show (refD xs ys).length ≤ 64
        omega
  refine ⟨_, _, _, _, rfl, HEnt.use (same_ok a5 l5 c5 _ a6 l6 c6 _ h6 (o5.grow o6.ext).rows o6.rows (by omega)) ?_⟩
  rintro _ h7 ⟨⟨b, rfl, hb⟩, rfl⟩
  refine ⟨b, rfl, br_of (fun _ => br_of (fun _ => works_yes x06 hm) (fun e => by simp at e)) (fun e => by rw [hb.2 rfl] at e; cases e)⟩
end Go.Proofs.YtcfegbpoailbdaaDoor
