import Derived.Test.YtcfegbpoailbdaaDoorOvlQ

namespace Go.Proofs.YtcfegbpoailbdaaDoor
open Go.Vc Go.Sha Go.Trail Go.Lay
set_option linter.unusedVariables false
set_option linter.unusedSimpArgs false
set_option linter.unusedSectionVars false
/-- the last part of a path -/
def lastP (l : List Nat) : List Nat := (partsL l).getD ((partsL l).length - 1) []
/-- a path is told by the one above it and by its last part -/
theorem path_of {l : List Nat} (g : good l) (h0 : l ≠ []) : partsL l ≠ [] ∧ (upL l).2 = true ∧ l = (if (upL l).1 = [] then lastP l else (upL l).1 ++ 47 :: lastP l) := by
  have hp := parts_good g h0
  have h1 := good_pieces g h0
  have hj := joinT_good g h0
  obtain ⟨p, ps, hpp⟩ := pieces_ne l
  obtain ⟨m, x, hm⟩ := snoc_of (show pieces l ≠ [] by rw [hpp]; simp)
  have hu : upL l = (joinT m, true) := by
    unfold upL
    rw [if_neg (fun h => h.elim h0 fun h => h g), hm, List.dropLast_concat]
  have hl : lastP l = x := by
    unfold lastP
    rw [hp, hm, List.getD_eq_getElem?_getD, List.length_append]
    simp
  refine ⟨by rw [hp, hm]; simp, by rw [hu], ?_⟩
  rw [hu, hl]
  show l = if joinT m = [] then x else joinT m ++ 47 :: x
  by_cases hm0 : m = []
  · subst hm0
    rw [if_pos (show joinT [] = [] from rfl)]
    rw [hm] at hj
    exact hj.symm
  · rw [if_neg (joinT_ne hm0 fun q hq => h1.1 q (by rw [hm]; exact List.mem_append_left _ hq))]
    rw [hm, joinT_up hm0] at hj
    exact hj.symm
theorem up_lt (l : List Nat) : ∀ x ∈ (upL l).1, x < 256 := by
  unfold upL
  split
  · simp
  · rename_i h
    have hg : good l := Classical.byContradiction fun e => h (.inr e)
    have h0 : l ≠ [] := fun e => h (.inl e)
    exact joinT_lt fun p hp => (good_pieces hg h0).1 p (List.dropLast_subset _ hp)
def whiteE (p : ByteArray) : EntV := ⟨p, 3, 0, ByteArray.empty⟩
theorem white_sta {p : ByteArray} (g : good (lst p)) (h0 : lst p ≠ []) : stA (whiteE p) = 0 := by
  refine stA_of ?_ (show 1 ≤ (3 : Int) ∧ (3 : Int) ≤ 4 by decide) (show 0 ≤ (0 : Int) ∧ (0 : Int) ≤ 511 by decide) (fun _ => rfl) (fun _ => rfl) (by show (0 : Nat) ≤ 256; decide)
  unfold badP
  rintro (e | e)
  · exact h0 e
  · exact e g
/-- the state a list tells -/
def stS (es : List EntV) : Sta := fun p => es.find? fun e => decide (e.path = p)
theorem sts_path {es : List EntV} {p : ByteArray} {e : EntV} (h : stS es p = some e) : e.path = p ∧ e ∈ es := ⟨by simpa using List.find?_some h, List.mem_of_find?_eq_some h⟩
theorem sts_lists {S : Sta} {es : List EntV} (o : ∀ p e, S p = some e → e.path = p) (h : Lists S es) (p : ByteArray) : stS es p = S p := by
  cases hf : stS es p with
  | some e =>
    obtain ⟨h1, h2⟩ := sts_path hf
    rw [← h1, (h.2 e).1 h2]
  | none =>
    cases hs : S p with
    | none => rfl
    | some e =>
      have hep := o _ _ hs
      have hm := (h.2 e).2 (by rw [hep]; exact hs)
      unfold stS at hf
      rw [List.find?_eq_none] at hf
      exact absurd hep (by simpa using hf e hm)
theorem tree_lt {es : List EntV} (t : treeP es) : es.Pairwise fun e f => ltP e.path f.path := by
  have key : ∀ n i, i + n + 1 < es.length → lexK (pa es i) (pa es (i + n + 1)) = true := by
    intro n
    induction n with
    | zero => intro i hi; have := (t (i + 1) hi).2.2.1 (by omega); exact this
    | succ n ih =>
      intro i hi
      have h1 := ih i (by omega)
      have h2 := (t (i + (n + 1) + 1) hi).2.2.1 (by omega)
      exact lexK_trans _ _ _ h1 h2
  rw [List.pairwise_iff_getElem]
  intro i j hi hj hij
  rw [en_eq hi, en_eq hj]
  have := key (j - i - 1) i (by omega)
  rw [show i + (j - i - 1) + 1 = j by omega] at this
  exact this
theorem pw_inj {es : List EntV} (h : es.Pairwise fun e f => ltP e.path f.path) {e f : EntV} (he : e ∈ es) (hf : f ∈ es) (hp : e.path = f.path) : e = f := by
  obtain ⟨i, hi, rfl⟩ := List.mem_iff_getElem.1 he
  obtain ⟨j, hj, rfl⟩ := List.mem_iff_getElem.1 hf
  rw [List.pairwise_iff_getElem] at h
  rcases Nat.lt_trichotomy i j with hij | rfl | hij
  · have := h i j hi hj hij
    rw [hp] at this
    exact absurd this (ltP_irr _)
  · rfl
  · have := h j i hj hi hij
    rw [hp] at this
    exact absurd this (ltP_irr _)
theorem pw_lists {es : List EntV} (h : es.Pairwise fun e f => ltP e.path f.path) : Lists (stS es) es := by
  refine ⟨h, fun e => ⟨fun he => ?_, fun he => (sts_path he).2⟩⟩
  cases hf : stS es e.path with
  | some f =>
    obtain ⟨h1, h2⟩ := sts_path hf
    rw [pw_inj h h2 he h1]
  | none =>
    unfold stS at hf
    rw [List.find?_eq_none] at hf
    exact absurd (show decide (e.path = e.path) = true by simp) (hf e he)
def isDir (T : Sta) (u : List Nat) : Prop := u = [] ∨ ∃ d, T (str u) = some d ∧ d.kind = 2
open Classical in
/-- what has become of a path -/
noncomputable def dS (A B : Sta) : Sta := fun p => match B p with
  | some y => if A p = some y then none else some y
  | none => match A p with
    | none => none
    | some _ => if isDir B (upL (lst p)).1 then some (whiteE p) else none
theorem dS_cases {A B : Sta} {p : ByteArray} {e : EntV} (h : dS A B p = some e) : (B p = some e ∧ A p ≠ some e) ∨ (B p = none ∧ (∃ x, A p = some x) ∧ isDir B (upL (lst p)).1 ∧ e = whiteE p) := by
  unfold dS at h
  cases hb : B p with
  | some y =>
    rw [hb] at h
    by_cases ha : A p = some y
    · simp [ha] at h
    · simp only [if_neg ha] at h
      cases h
      exact .inl ⟨rfl, ha⟩
  | none =>
    rw [hb] at h
    cases ha : A p with
    | none => rw [ha] at h; cases h
    | some x =>
      rw [ha] at h
      by_cases hd : isDir B (upL (lst p)).1
      · simp only [if_pos hd] at h
        cases h
        exact .inr ⟨rfl, ⟨x, rfl⟩, hd, rfl⟩
      · simp only [if_neg hd] at h; cases h
theorem dS_is {A B : Sta} {p : ByteArray} {y : EntV} (hb : B p = some y) (ha : A p ≠ some y) : dS A B p = some y := by
  unfold dS; rw [hb]; simp only [if_neg ha]
theorem dS_same {A B : Sta} {p : ByteArray} {y : EntV} (hb : B p = some y) (ha : A p = some y) : dS A B p = none := by
  unfold dS; rw [hb]; simp only [if_pos ha]
theorem dS_none {A B : Sta} {p : ByteArray} (hb : B p = none) (ha : A p = none) : dS A B p = none := by
  unfold dS; rw [hb, ha]
theorem dS_white {A B : Sta} {p : ByteArray} {x : EntV} (hb : B p = none) (ha : A p = some x) (hd : isDir B (upL (lst p)).1) : dS A B p = some (whiteE p) := by
  unfold dS; rw [hb, ha]; simp only [if_pos hd]
theorem dS_not {A B : Sta} {p : ByteArray} {x : EntV} (hb : B p = none) (ha : A p = some x) (hd : ¬ isDir B (upL (lst p)).1) : dS A B p = none := by
  unfold dS; rw [hb, ha]; simp only [if_neg hd]
/-- the paths of two lists, one behind the other -/
def pathsL (es : List EntV) : List (List Nat) := es.map fun e => lst e.path
def allD (xs ys : List EntV) : List (List Nat) := insAll (pathsL ys) (insAll (pathsL xs) [])
noncomputable def refD (xs ys : List EntV) : List EntV := (allD xs ys).filterMap fun p => dS (stS xs) (stS ys) (str p)
theorem mem_allD {xs ys : List EntV} (p : List Nat) : p ∈ allD xs ys ↔ (∃ e ∈ ys, lst e.path = p) ∨ ∃ e ∈ xs, lst e.path = p := by
  unfold allD pathsL
  rw [mem_insAll, mem_insAll]
  simp
theorem allD_lt {xs ys : List EntV} {p : List Nat} (h : p ∈ allD xs ys) : ∀ x ∈ p, x < 256 := by
  rcases (mem_allD p).1 h with ⟨e, _, rfl⟩ | ⟨e, _, rfl⟩ <;> exact lst_lt _
theorem dS_path {xs ys : List EntV} {p : ByteArray} {e : EntV} (h : dS (stS xs) (stS ys) p = some e) : e.path = p ∧ lst p ∈ allD xs ys := by
  rcases dS_cases h with ⟨h1, _⟩ | ⟨_, ⟨x, h1⟩, _, rfl⟩
  · obtain ⟨h2, h3⟩ := sts_path h1
    exact ⟨h2, (mem_allD _).2 (.inl ⟨e, h3, by rw [h2]⟩)⟩
  · obtain ⟨h2, h3⟩ := sts_path h1
    exact ⟨rfl, (mem_allD _).2 (.inr ⟨x, h3, by rw [h2]⟩)⟩
theorem diff_lists (xs ys : List EntV) : Lists (dS (stS xs) (stS ys)) (refD xs ys) := by
  refine ⟨?_, fun e => ?_⟩
  · unfold refD
    rw [List.pairwise_filterMap]
    have hs : Sorted (allD xs ys) := insAll_sorted _ _ (insAll_sorted _ _ List.Pairwise.nil)
    refine (List.Pairwise.and_mem.1 hs).imp fun {p q} hpq e he f hf => ?_
    have e1 := (dS_path he).1
    have e2 := (dS_path hf).1
    unfold ltP
    rw [e1, e2, lst_str _ (allD_lt hpq.1), lst_str _ (allD_lt hpq.2.1)]
    exact hpq.2.2
  · unfold refD
    rw [List.mem_filterMap]
    constructor
    · rintro ⟨p, hp, he⟩
      rw [(dS_path he).1]
      exact he
    · intro he
      exact ⟨lst e.path, (dS_path he).2, by rw [str_lst]; exact he⟩
/-! ### a diff and what it makes -/
/-- what lies above a path lies above its directory -/
theorem above_up {l q : List Nat} (g : good l) (h0 : l ≠ []) (hin : inP q l = true) (hne : q ≠ l) (hq : q ≠ []) : (upL l).1 ≠ [] ∧ inP q (upL l).1 = true := by
  have hp := path_of g h0
  have hl : ∀ c ∈ lastP l, c ≠ 47 := by
    have h1 := good_pieces g h0
    have h2 := parts_good g h0
    refine partP_slash (h1.1 _ ?_)
    unfold lastP
    have hne := hp.1
    rw [h2] at hne ⊢
    rw [List.getD_eq_getElem?_getD, List.getElem?_eq_getElem (by have := List.length_pos_iff.2 hne; omega)]
    exact List.getElem_mem _
  rcases inP_cases hin with e | e | ⟨t, e⟩
  · exact absurd e hq
  · exact absurd e.symm hne
  by_cases hu : (upL l).1 = []
  · exfalso
    have h3 := hp.2.2
    rw [if_pos hu] at h3
    rw [h3] at e
    exact hl 47 (by rw [e]; simp) rfl
  · refine ⟨hu, ?_⟩
    have h3 := hp.2.2
    rw [if_neg hu] at h3
    generalize (upL l).1 = u at *
    generalize lastP l = x at *
    rw [h3] at e
    rcases List.append_eq_append_iff.1 e with ⟨c, h4, h5⟩ | ⟨c, h4, h5⟩
    · cases c with
      | nil => rw [List.append_nil] at h4; rw [h4]; unfold inP; simp
      | cons y c =>
        rw [List.cons_append] at h5
        injection h5 with h5 h6
        exact absurd rfl (hl 47 (by rw [h6]; simp))
    · cases c with
      | nil => rw [List.append_nil] at h4; rw [h4]; unfold inP; simp
      | cons y c =>
        rw [List.cons_append] at h5
        injection h5 with h5 h6
        rw [h4, ← h5]
        exact inP_below q c
theorem dir_above {B : Sta} (o : StOK B) {u q : List Nat} (hu : u ≠ []) (hl : ∀ x ∈ u, x < 256) (h : isDir B u) {p : ByteArray} (hp : lst p = q) (hin : inP q u = true) (hq : q ≠ []) : ∃ d, B p = some d ∧ d.kind = 2 := by
  rcases h with h | ⟨d, hd, kd⟩
  · exact absurd h hu
  · by_cases hpu : p = str u
    · exact ⟨d, by rw [hpu]; exact hd, kd⟩
    · refine o.tree _ _ p hd ?_ hpu (by rw [hp]; exact hq)
      unfold inB
      rw [hp, lst_str _ hl]; exact hin
section
variable {A B : Sta} {xs ys ds : List EntV} (oA : StOK A) (oB : StOK B) (lA : Lists A xs) (lB : Lists B ys) (lD : Lists (dS A B) ds)
include oA oB lD
theorem d_path {p : ByteArray} {e : EntV} (h : dS A B p = some e) : e.path = p ∧ lst p ≠ [] ∧ good (lst p) := by
  rcases dS_cases h with ⟨h1, _⟩ | ⟨_, ⟨x, h1⟩, _, rfl⟩
  · exact ⟨oB.path _ _ h1, oB.ne h1⟩
  · exact ⟨rfl, oA.ne h1⟩
/-- an entry of the diff that lies above another stands for a directory -/
theorem d_above {e f : EntV} (he : e ∈ ds) (hf : f ∈ ds) (hne : e.path ≠ f.path) (hin : inB e.path f.path = true) : e.kind = 2 := by
  have h1 := (lD.2 e).1 he
  have h2 := (lD.2 f).1 hf
  have p1 := d_path oA oB lD h1
  have p2 := d_path oA oB lD h2
  have hdir : ∃ d, B e.path = some d ∧ d.kind = 2 := by
    rcases dS_cases h2 with ⟨h3, _⟩ | ⟨_, _, hd, _⟩
    · exact oB.tree _ _ _ h3 hin hne p1.2.1
    · have := above_up p2.2.2 p2.2.1 hin (fun h => hne (lst_inj h)) p1.2.1
      exact dir_above oB this.1 (up_lt _) hd rfl this.2 p1.2.1
  obtain ⟨d, hd, kd⟩ := hdir
  rcases dS_cases h1 with ⟨h3, _⟩ | ⟨h3, _⟩
  · rw [h3] at hd
    rw [Option.some.inj hd]; exact kd
  · rw [h3] at hd; cases hd
theorem d_good (hl : ds.length ≤ 64) : Good ds := by
  refine ⟨hl, fun e he => ?_, ?_⟩
  · have h1 := (lD.2 e).1 he
    rcases dS_cases h1 with ⟨h3, _⟩ | ⟨_, _, _, h4⟩
    · exact oB.ok _ _ h3
    · have p1 := d_path oA oB lD h1
      rw [h4]
      exact white_sta p1.2.2 p1.2.1
  · refine (List.Pairwise.and_mem.1 lD.1).imp fun {e f} hef => ⟨hef.2.2, fun hh => ?_⟩
    cases hb : inP (lst e.path) (lst f.path) with
    | false => rfl
    | true =>
      have := d_above oA oB lD hef.1 hef.2.1 (fun e2 => ltP_irr _ (by have := hef.2.2; rw [e2] at this; exact this)) hb
      unfold hides at hh
      omega
theorem d_hid : ∀ (n : Nat) (p : ByteArray), (lst p).length ≤ n → ∀ x, A p = some x → (∀ d, B p = some d → d.kind ≠ 2) → A p ≠ B p → ∃ e ∈ ds, inB e.path p = true ∧ e.kind ≠ 2 := by
  intro n
  induction n with
  | zero =>
    intro p hn x hx hb hne
    exact absurd (List.length_eq_zero_iff.1 (Nat.le_zero.1 hn)) (oA.ne hx).1
  | succ n ih =>
    intro p hn x hx hb hne
    have hg := oA.ne hx
    cases hbp : B p with
    | some y =>
      have hd := dS_is (A := A) hbp (fun e => hne (by rw [e, hbp]))
      have hyp := oB.path _ _ hbp
      refine ⟨y, (lD.2 y).2 (by rw [hyp]; exact hd), by rw [hyp]; exact inB_refl p, hb y hbp⟩
    | none =>
      by_cases hdir : isDir B (upL (lst p)).1
      · have hd := dS_white (A := A) hbp hx hdir
        exact ⟨whiteE p, (lD.2 (whiteE p)).2 hd, inB_refl p, by show (3 : Int) ≠ 2; decide⟩
      · have hu : (upL (lst p)).1 ≠ [] := fun h => hdir (.inl h)
        obtain ⟨h1, h2, h3⟩ := up_in hg.2 hg.1 hu
        have hul := lst_str _ (up_lt (lst p))
        have hin : inB (str (upL (lst p)).1) p = true := by unfold inB; rw [hul]; exact h1
        have hnu : str (upL (lst p)).1 ≠ p := fun e => h2 (by rw [← hul, e])
        obtain ⟨d, hd, kd⟩ := oA.tree _ _ (str (upL (lst p)).1) hx hin hnu (by rw [hul]; exact hu)
        have hnb : ∀ d, B (str (upL (lst p)).1) = some d → d.kind ≠ 2 := fun d hd kd => hdir (.inr ⟨d, hd, kd⟩)
        have hlen : (upL (lst p)).1.length < (lst p).length := by
          have := (path_of hg.2 hg.1).2.2
          rw [if_neg hu] at this
          have := congrArg List.length this
          rw [List.length_append, List.length_cons] at this
          omega
        obtain ⟨e, he, hi, hk⟩ := ih (str (upL (lst p)).1) (by rw [hul]; omega) d hd hnb (fun e => hnb d (by rw [← e]; exact hd) kd)
        exact ⟨e, he, inB_trans hi hin, hk⟩
/-- the diff laid over the one comes to the other -/
theorem d_step {p : ByteArray} (hp : lst p ≠ []) : stepL A ds p = B p := by
  unfold stepL
  cases hf : ds.find? (fun e => decide (e.path = p)) with
  | some e =>
    have hm := (lD.2 e).1 (List.mem_of_find?_eq_some hf)
    have hep : e.path = p := by simpa using List.find?_some hf
    rw [hep] at hm
    simp only
    rcases dS_cases hm with ⟨h1, _⟩ | ⟨h1, _, _, rfl⟩
    · have hk := oB.kind _ _ h1
      rw [if_neg (by omega), h1]
      unfold unB
      rw [if_neg (by omega)]
    · rw [if_pos (show (whiteE p).kind = 3 from rfl), h1]
  | none =>
    rw [List.find?_eq_none] at hf
    have hn : ∀ e ∈ ds, e.path ≠ p := fun e he => by simpa using hf e he
    have hdn : dS A B p = none := by
      cases hd : dS A B p with
      | none => rfl
      | some e =>
        have hp1 := (d_path oA oB lD hd).1
        exact absurd hp1 (hn e ((lD.2 e).2 (by rw [hp1]; exact hd)))
    have hway : (ds.any fun e => inB p e.path && decide (e.kind ≠ 3)) = true → ∃ d, B p = some d ∧ d.kind = 2 := by
      intro hw
      rw [List.any_eq_true] at hw
      obtain ⟨e, he, hb⟩ := hw
      rw [Bool.and_eq_true, decide_eq_true_eq] at hb
      rcases dS_cases ((lD.2 e).1 he) with ⟨h1, _⟩ | ⟨_, _, _, h1⟩
      · exact oB.tree _ _ p h1 hb.1 (fun e2 => hn e he e2.symm) hp
      · rw [h1] at hb; exact absurd rfl hb.2
    generalize hw : (ds.any fun e => inB p e.path && decide (e.kind ≠ 3)) = way at *
    simp only
    cases hb : B p with
    | some y =>
      have ha : A p = some y := Classical.byContradiction fun h => by rw [dS_is hb h] at hdn; cases hdn
      have hhid : (ds.any fun e => inB e.path p && decide (e.kind ≠ 2)) = false := by
        rw [List.any_eq_false]
        intro e he
        cases hin : inB e.path p with
        | false => simp
        | true =>
          have h1 := (lD.2 e).1 he
          obtain ⟨d, hd, kd⟩ := oB.tree _ _ e.path hb hin (hn e he) (d_path oA oB lD h1).2.1
          rcases dS_cases h1 with ⟨h3, _⟩ | ⟨h3, _⟩
          · rw [h3] at hd
            have := Option.some.inj hd
            subst this
            simp [kd]
          · rw [h3] at hd; cases hd
      rw [hhid, ha]
      unfold overS
      simp only [Bool.false_eq_true, if_false]
      rw [if_neg]
      rintro ⟨h1, h2⟩
      obtain ⟨d, hd, kd⟩ := hway h1
      rw [hb] at hd
      have := Option.some.inj hd
      subst this
      omega
    | none =>
      have hwf : way = false := by
        cases way with
        | false => rfl
        | true => obtain ⟨d, hd, _⟩ := hway rfl; rw [hb] at hd; cases hd
      subst hwf
      cases ha : A p with
      | none => unfold overS; simp
      | some x =>
        have hnd : ¬ isDir B (upL (lst p)).1 := fun h => by rw [dS_white hb ha h] at hdn; cases hdn
        obtain ⟨e, he, h1, h2⟩ := d_hid oA oB lD _ p (Nat.le_refl _) x ha (fun d hd => by rw [hb] at hd; cases hd) (by rw [ha, hb]; simp)
        have hhid : (ds.any fun e => inB e.path p && decide (e.kind ≠ 2)) = true := by
          rw [List.any_eq_true]
          exact ⟨e, he, by rw [h1]; simpa using h2⟩
        rw [hhid]
        unfold overS; simp
include lA lB in
theorem d_merge (h64 : xs.length ≤ 64) (hl : ds.length ≤ 64) {es : List EntV} {e : Nat} (m : MergeR [xs, ds] es e) : e = 0 ∧ es = ys := by
  have gA := tree_good oA lA h64
  have gD := d_good oA oB lD hl
  have g : ∀ l ∈ [xs, ds], Good l := fun l hl => by
    rcases List.mem_cons.1 hl with rfl | hl
    · exact gA
    · rw [List.mem_singleton] at hl; subst hl; exact gD
  rcases m with ⟨a, _⟩ | ⟨_, ⟨l, hl, ng⟩, _⟩ | ⟨_, _, h1, h2⟩
  · simp at a
  · exact absurd (g l hl) ng
  · refine ⟨h1, h2.one (lB.congr fun p => ?_)⟩
    by_cases hp : lst p = []
    · rw [topS_nil g hp]
      cases hb : B p with
      | none => rfl
      | some e => exact absurd hp (oB.ne hb).1
    · rw [top_seen g hp]
      show B p = stepL (stepL noS xs) ds p
      have := fold_point [ds] (A := stepL noS xs) (B := A) (p := p) (tree_step oA lA hp)
      exact (this.trans (d_step oA oB lD hp)).symm
end
theorem diff_self {A : Sta} (p : ByteArray) : dS A A p = none := by
  cases ha : A p with
  | none => exact dS_none ha ha
  | some y => exact dS_same ha ha
end Go.Proofs.YtcfegbpoailbdaaDoor
