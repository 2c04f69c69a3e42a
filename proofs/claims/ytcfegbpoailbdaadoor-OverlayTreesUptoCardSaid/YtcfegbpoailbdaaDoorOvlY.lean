import Derived.Test.YtcfegbpoailbdaaDoorOvlX
import Derived.Test.YtcfegbpoailbdaaDoorOvlRc

namespace Go.Proofs.YtcfegbpoailbdaaDoor
open Go.Vc Go.Sha Go.Trail Go.Lay
set_option linter.unusedVariables false
set_option linter.unusedSimpArgs false
set_option maxRecDepth 20000
/-- the last part of a path -/
def lastP (l : List Nat) : List Nat := (partsL l).getD ((partsL l).length - 1) []
/-- a path is told by the one above it and by its last part -/
theorem path_of {l : List Nat} (g : good l) (h0 : l ≠ []) : partsL l ≠ [] ∧ (upL l).2 = true ∧ l = (if (upL l).1 = [] then lastP l else (upL l).1 ++ 47 :: lastP l) := by
  have hp := parts_good g h0
  have h1 := good_pieces g h0
  have hj := joinT_good g h0
  obtain ⟨p, ps, hpp⟩ := pieces_ne l
  obtain ⟨m, x, hm⟩ := snoc_of (show pieces l ≠ [] by rw [hpp]; simp)
  have hu : upL l = (joinT m, true) := by
    unfold upL
    rw [if_neg (fun h => h.elim h0 fun h => h g), hm, List.dropLast_concat]
  have hl : lastP l = x := by
    unfold lastP
    rw [hp, hm, List.getD_eq_getElem?_getD, List.length_append]
    simp
  refine ⟨by rw [hp, hm]; simp, by rw [hu], ?_⟩
  rw [hu, hl]
  show l = if joinT m = [] then x else joinT m ++ 47 :: x
  by_cases hm0 : m = []
  · subst hm0
    rw [if_pos (show joinT [] = [] from rfl)]
    rw [hm] at hj
    exact hj.symm
  · rw [if_neg (joinT_ne hm0 fun q hq => h1.1 q (by rw [hm]; exact List.mem_append_left _ hq))]
    rw [hm, joinT_up hm0] at hj
    exact hj.symm
theorem path_inj {l k : List Nat} (g : good l) (h0 : l ≠ []) (g2 : good k) (h2 : k ≠ []) (hu : (upL l).1 = (upL k).1) (hp : lastP l = lastP k) : l = k := by
  rw [(path_of g h0).2.2, (path_of g2 h2).2.2, hu, hp]
/-- the entries in a directory, and their names -/
def inDir (es : List EntV) (d : List Nat) : List EntV := es.filter fun x => (upL (lst x.path)).2 && decide ((upL (lst x.path)).1 = d)
def namesP (es : List EntV) (d : List Nat) : List (List Nat) := (inDir es d).map fun x => lastP (lst x.path)
theorem up_lt (l : List Nat) : ∀ x ∈ (upL l).1, x < 256 := by
  unfold upL
  split
  · simp
  · rename_i h
    have hg : good l := Classical.byContradiction fun e => h (.inr e)
    have h0 : l ≠ [] := fun e => h (.inl e)
    exact joinT_lt fun p hp => (good_pieces hg h0).1 p (List.dropLast_subset _ hp)
def listC (es : List EntV) (s : ByteArray) : List (List Nat) × Nat :=
  if (lookC es s).2 ≠ 0 then ([], (lookC es s).2) else if (lookC es s).1.kind ≠ 2 then ([], 13) else (namesP es (lst (lookC es s).1.path), 0)
theorem in_snoc {es : List EntV} {d : List Nat} {i : Nat} {f : EntV} (h : es[i]? = some f) : inDir (es.take (i + 1)) d = inDir (es.take i) d ++ (if ((upL (lst f.path)).2 && decide ((upL (lst f.path)).1 = d)) = true then [f] else []) := by
  unfold inDir
  rw [take_snoc h, List.filter_append]
  congr 1
  by_cases hb : ((upL (lst f.path)).2 && decide ((upL (lst f.path)).1 = d)) = true
  · rw [if_pos hb, List.filter_cons, if_pos hb]; rfl
  · rw [if_neg hb, List.filter_cons, if_neg hb]; rfl
theorem list_ok (a : Option Addr) (l c : Nat) (es : List EntV) (s : ByteArray) (hsz : s.size < 2 ^ 30) (h : Heap) (w : Tab 4 h a l c (ents es)) (sm : Small es) (hl : l < 2 ^ 38) (hm : MaxAt h) :
    HEnt Tryd.prog 25 #[.slice a l c, .string s] h fun v h' => ∃ a' l' c', v = .tuple #[.slice a' l' c', .int .i64 (((listC es s).2 : Nat) : Int)] ∧ OwnR 9 1 h h' a' l' c' (rowsT (listC es s).1) := by
  have hlen := w.len
  rw [ents_len] at hlen
  refine F25_ent _ _ _ _ _ _ ?_
  unfold F25
  refine HEnt.use (lookup_ok a l c es s hsz h w (by omega) hm) ?_
  rintro _ h1 ⟨rfl, x1⟩
  have hlc : listC es s = if (lookC es s).2 ≠ 0 then ([], (lookC es s).2) else if (lookC es s).1.kind ≠ 2 then ([], 13) else (namesP es (lst (lookC es s).1.path), 0) := rfl
  rw [hlc]
  clear hlc
  generalize lookC es s = lk at *
  obtain ⟨d, e⟩ := lk
  refine ⟨d.path, d.kind, d.mode, d.body, _, rfl, newK_intro fun h2 hb2 x2 z2 => ?_⟩
  refine storeK_whole (vs := entA d) hb2 rfl zeroC38 (entA_one d) fun h3 hb3 o3 => ?_
  have x13 : Ext h1 h3 := Keep.since x2 (o3.keep rfl : Keep (· = h1.size) h2 h3) fun j hj e => by omega
  have x03 := x1.trans x13
  refine br_of (fun g => ?_) (fun g => ?_)
  · have g : e ≠ 0 := by
      have : (e : Int) ≠ 0 := by simpa using g
      omega
    rw [if_pos (show (d, e).2 ≠ 0 from g)]
    exact ⟨none, 0, 0, rfl, OwnR.nil _ _ x03⟩
  have g : e = 0 := by
    have : (e : Int) = 0 := by simpa using g
    omega
  rw [if_neg (show ¬ (d, e).2 ≠ 0 by simp [g])]
  have ec3 := ent_cells hb3
  unfold F25_k1
  refine ⟨d.kind, ec3.2.1, br_of (fun g2 => ?_) (fun g2 => ?_)⟩
  · have g2 : d.kind ≠ 2 := by simpa using g2
    rw [if_pos (show (d, e).1.kind ≠ 2 from g2)]
    exact ⟨none, 0, 0, rfl, OwnR.nil _ _ x03⟩
  have g2 : d.kind = 2 := by simpa using g2
  rw [if_neg (show ¬ (d, e).1.kind ≠ 2 by simp [g2])]
  show F25_k2 a l c (at0 h1.size) h3 fun v h' => ∃ a' l' c', v = .tuple #[.slice a' l' c', .int .i64 0] ∧ OwnR 9 1 h h' a' l' c' (rowsT (namesP es (lst d.path)))
  unfold F25_k2
  refine ⟨fun a8 l8 c8 x hh => ∃ i : Nat, x = i ∧ i ≤ l ∧ OwnR 9 1 h3 hh a8 l8 c8 (rowsT (namesP (es.take i) (lst d.path))), fun _ _ _ x _ => ((l : Int) - x).toNat, ⟨0, rfl, by omega, OwnR.nil _ _ (Ext.refl h3)⟩, ?_⟩
  rintro h4 a8 l8 c8 _ ⟨i, rfl, hi, o4⟩
  have x4 := o4.ext
  have x04 := x03.trans x4
  have o4l := o4.len
  rw [rowsT_len] at o4l
  have hb4 := x4.blk hb3
  unfold F25_b3
  refine br_of (fun gi => ?_) (fun gi => ?_)
  rotate_left
  · have hil : i = l := by
      have : ¬ (i : Int) < (l : Int) := by simpa using gi
      omega
    rw [List.take_of_length_le (by omega)] at o4
    unfold F25_k7
    exact ⟨a8, l8, c8, rfl, ow_since o4 x03⟩
  have hil : i < l := by
    have : (i : Int) < (l : Int) := by simpa using gi
    omega
  have room : l8 ≤ l := by
    rw [← o4l]
    unfold namesP inDir
    rw [List.length_map]
    exact Nat.le_trans (List.length_filter_le _ _) (by rw [List.length_take]; omega)
  have e1 : es[i]? = some (es[i]'(by omega)) := List.getElem?_eq_getElem (by omega)
  generalize es[i]'(by omega) = f at e1
  have smf := (sm f (List.mem_of_getElem? e1)).1
  obtain ⟨q, eq, _, c0, c1, c2, c3⟩ := ent_get (w.grow x04) e1
  have hsn := in_snoc (d := lst d.path) e1
  have up := up_lt (lst f.path)
  unfold F25_k4
  refine ⟨q, eq, by omega, by omega, f.path, f.kind, f.mode, f.body, by rw [Int.toNat_natCast]; exact c0, by rw [Int.toNat_natCast]; exact c1, by rw [Int.toNat_natCast]; exact c2, by rw [Int.toNat_natCast]; exact c3, rfl, newK_intro fun h5 hb5 x5 z5 => ?_⟩
  refine storeK_whole (vs := entA f) hb5 rfl zeroC38 (entA_one f) fun h6 hb6 o6 => ?_
  have x46 : Ext h4 h6 := Keep.since x5 (o6.keep rfl : Keep (· = h4.size) h5 h6) fun j hj e => by omega
  refine ⟨f.path, (ent_cells hb6).1, HEnt.use (up_ok f.path (by omega) h6 (hm.ext (x04.trans x46))) ?_⟩
  rintro _ h7 ⟨rfl, x7⟩
  have x47 := x46.trans x7
  have hb7 := x7.blk hb6
  have hb7q := x47.blk hb4
  have k5 : ∀ b, b = ((upL (lst f.path)).2 && decide ((upL (lst f.path)).1 = lst d.path)) → F25_k5 (fun a8 l8 c8 x hh => ∃ i : Nat, x = i ∧ i ≤ l ∧ OwnR 9 1 h3 hh a8 l8 c8 (rowsT (namesP (es.take i) (lst d.path)))) (fun _ _ _ x _ => ((l : Int) - x).toNat) ((l : Int) - (i : Int)).toNat (at0 h1.size) a8 l8 c8 (at0 h4.size) a l c l i b h7
      fun v h' => ∃ a' l' c', v = .tuple #[.slice a' l' c', .int .i64 0] ∧ OwnR 9 1 h h' a' l' c' (rowsT (namesP es (lst d.path))) := by
    intro b hb
    unfold F25_k5
    refine br_of (fun gb => ?_) (fun gb => ?_)
    · rw [hb] at gb
      rw [if_pos gb] at hsn
      have hnx : namesP (es.take (i + 1)) (lst d.path) = namesP (es.take i) (lst d.path) ++ [lastP (lst f.path)] := by
        unfold namesP
        rw [hsn, List.map_append]; rfl
      have hgd : lst f.path ≠ [] ∧ good (lst f.path) := by
        have h2 : (upL (lst f.path)).2 = true := by
          rw [Bool.and_eq_true] at gb; exact gb.1
        unfold upL at h2
        split at h2
        · cases h2
        · rename_i hh
          exact ⟨fun e => hh (.inl e), Classical.byContradiction fun e => hh (.inr e)⟩
      have hpo := path_of hgd.2 hgd.1
      refine ⟨f.path, (ent_cells hb7).1, HEnt.use (parts_ok f.path (by omega) h7 (hm.ext (x04.trans x47))) ?_⟩
      rintro _ h8 ⟨ap, lp, cp, rfl, op⟩
      have opl := op.len
      rw [vals_len] at opl
      have hlp0 : 0 < lp := by
        rw [← opl]
        exact List.length_pos_iff.2 hpo.1
      have ew : IntKind.i64.wrap ((lp : Int) - 1) = ((lp - 1 : Nat) : Int) := by
        have := (parts_all (lst f.path)).2
        rw [i64_lt _ (by omega) (by omega)]; omega
      obtain ⟨bp, eap, _, hcp⟩ := op.cell (vals_get (ps := partsL (lst f.path)) (i := lp - 1) (by omega))
      have hlst : (partsL (lst f.path)).getD (lp - 1) [] = lastP (lst f.path) := by unfold lastP; rw [opl]
      rw [hlst] at hcp
      refine ⟨ap, lp, cp, rfl, ⟨bp, 0, none⟩, eap, by omega, by omega, str (lastP (lst f.path)), ?_, by decide, newK_intro fun h9 hb9 x9 z9 => ?_⟩
      · rw [ew, Int.toNat_natCast, add_mk, Nat.zero_add, Nat.mul_one]; exact hcp
      refine appT (qs := [lastP (lst f.path)]) (m := 1) (((o4.grow x47).grow op.ext).grow x9) (srcK_slice rfl (fun ad e => by cases e; exact cells_blk0 hb9) (by rintro ⟨⟩)) rfl (by omega) fun a10 c10 h10 o10 k10 d10 => ?_
      unfold F25_k6
      rw [wrapS i l hil (by omega)]
      refine ⟨⟨i + 1, rfl, by omega, ?_⟩, lessS i l hil⟩
      rw [hnx]; exact o10
    · rw [hb] at gb
      rw [if_neg (by rw [gb]; simp), List.append_nil] at hsn
      unfold F25_k6
      rw [wrapS i l hil (by omega)]
      refine ⟨⟨i + 1, rfl, by omega, ?_⟩, lessS i l hil⟩
      unfold namesP at o4 ⊢
      rw [hsn]; exact o4.grow x47
  refine ⟨_, _, rfl, br_of (fun gu => ⟨d.path, (ent_cells hb7q).1, k5 _ ?_⟩) (fun gu => k5 false ?_)⟩
  · rw [gu, seq_lst, lst_str _ up]; rfl
  · rw [gu]; rfl
/-- in a tree's directory each is told once -/
theorem told_once {S : Sta} {es : List EntV} (o : StOK S) (h : Lists S es) {e : EntV} (he : e ∈ es) : (namesP es (upL (lst e.path)).1).count (lastP (lst e.path)) = 1 := by
  unfold namesP inDir
  classical
  have hes := (h.2 e).1 he
  have hge := o.ne hes
  have key : ∀ l : List EntV, (∀ x ∈ l, x ∈ es) → l.Nodup → ((l.filter fun x => (upL (lst x.path)).2 && decide ((upL (lst x.path)).1 = (upL (lst e.path)).1)).map fun x => lastP (lst x.path)).count (lastP (lst e.path)) = if e ∈ l then 1 else 0 := by
    intro l
    induction l with
    | nil => intro _ _; simp
    | cons x t ih =>
      intro hl hn
      rw [List.nodup_cons] at hn
      have iht := ih (fun y hy => hl y (List.mem_cons_of_mem _ hy)) hn.2
      have hx := (h.2 x).1 (hl x (by simp))
      have hgx := o.ne hx
      rw [List.filter_cons]
      by_cases hxe : x = e
      · subst hxe
        rw [if_pos (by rw [(path_of hgx.2 hgx.1).2.1]; simp), List.map_cons, List.count_cons_self, iht, if_neg hn.1, if_pos (by simp)]
      · have hem : (e ∈ x :: t) ↔ e ∈ t := by
          rw [List.mem_cons]
          exact ⟨fun h => h.elim (fun h => absurd h.symm hxe) id, .inr⟩
        by_cases hb : ((upL (lst x.path)).2 && decide ((upL (lst x.path)).1 = (upL (lst e.path)).1)) = true
        · rw [if_pos hb, List.map_cons]
          have hne : lastP (lst x.path) ≠ lastP (lst e.path) := fun hp => by
            rw [Bool.and_eq_true, decide_eq_true_eq] at hb
            have := lst_inj (path_inj hgx.2 hgx.1 hge.2 hge.1 hb.2 hp)
            rw [this, hes] at hx
            exact hxe (Option.some.inj hx).symm
          rw [List.count_cons_of_ne hne, iht]
          simp only [hem]
        · rw [if_neg hb, iht]
          simp only [hem]
  have hnd : es.Nodup := by
    unfold List.Nodup
    refine List.Pairwise.imp ?_ h.1
    intro x y hxy e2
    rw [e2] at hxy
    exact ltP_irr _ hxy
  rw [key es (fun _ h => h) hnd, if_pos he]
end Go.Proofs.YtcfegbpoailbdaaDoor
