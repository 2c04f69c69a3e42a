import Derived.Test.YtcfegbpoailbdaaDoorOvlQ
import Derived.Test.YtcfegbpoailbdaaDoorOvlRb

namespace Go.Proofs.YtcfegbpoailbdaaDoor
open Go.Vc Go.Sha Go.Trail Go.Lay
set_option linter.unusedVariables false
set_option linter.unusedSimpArgs false
set_option linter.unusedSectionVars false
/-- the last part of a path -/
def lastP (l : List Nat) : List Nat := (partsL l).getD ((partsL l).length - 1) []
/-- a path is told by the one above it and by its last part -/
theorem path_of {l : List Nat} (g : good l) (h0 : l ≠ []) : partsL l ≠ [] ∧ (upL l).2 = true ∧ l = (if (upL l).1 = [] then lastP l else (upL l).1 ++ 47 :: lastP l) := by
  have hp := parts_good g h0
  have h1 := good_pieces g h0
  have hj := joinT_good g h0
  obtain ⟨p, ps, hpp⟩ := pieces_ne l
  obtain ⟨m, x, hm⟩ := snoc_of (show pieces l ≠ [] by rw [hpp]; simp)
  have hu : upL l = (joinT m, true) := by
    unfold upL
    rw [if_neg (fun h => h.elim h0 fun h => h g), hm, List.dropLast_concat]
  have hl : lastP l = x := by
    unfold lastP
    rw [hp, hm, List.getD_eq_getElem?_getD, List.length_append]
    simp
  refine ⟨by rw [hp, hm]; simp, by rw [hu], ?_⟩
  rw [hu, hl]
  show l = if joinT m = [] then x else joinT m ++ 47 :: x
  by_cases hm0 : m = []
  · subst hm0
    rw [if_pos (show joinT [] = [] from rfl)]
    rw [hm] at hj
    exact hj.symm
  · rw [if_neg (joinT_ne hm0 fun q hq => h1.1 q (by rw [hm]; exact List.mem_append_left _ hq))]
    rw [hm, joinT_up hm0] at hj
    exact hj.symm
theorem up_lt (l : List Nat) : ∀ x ∈ (upL l).1, x < 256 := by
  unfold upL
  split
  · simp
  · rename_i h
    have hg : good l := Classical.byContradiction fun e => h (.inr e)
    have h0 : l ≠ [] := fun e => h (.inl e)
    exact joinT_lt fun p hp => (good_pieces hg h0).1 p (List.dropLast_subset _ hp)
def whiteE (p : ByteArray) : EntV := ⟨p, 3, 0, ByteArray.empty⟩
theorem white_sta {p : ByteArray} (g : good (lst p)) (h0 : lst p ≠ []) : stA (whiteE p) = 0 := by
  refine stA_of ?_ (show 1 ≤ (3 : Int) ∧ (3 : Int) ≤ 4 by decide) (show 0 ≤ (0 : Int) ∧ (0 : Int) ≤ 511 by decide) (fun _ => rfl) (fun _ => rfl) (by show (0 : Nat) ≤ 256; decide)
  unfold badP
  rintro (e | e)
  · exact h0 e
  · exact e g
/-- the state a list tells -/
def stS (es : List EntV) : Sta := fun p => es.find? fun e => decide (e.path = p)
theorem sts_path {es : List EntV} {p : ByteArray} {e : EntV} (h : stS es p = some e) : e.path = p ∧ e ∈ es := ⟨by simpa using List.find?_some h, List.mem_of_find?_eq_some h⟩
theorem sts_lists {S : Sta} {es : List EntV} (o : ∀ p e, S p = some e → e.path = p) (h : Lists S es) (p : ByteArray) : stS es p = S p := by
  cases hf : stS es p with
  | some e =>
    obtain ⟨h1, h2⟩ := sts_path hf
    rw [← h1, (h.2 e).1 h2]
  | none =>
    cases hs : S p with
    | none => rfl
    | some e =>
      have hep := o _ _ hs
      have hm := (h.2 e).2 (by rw [hep]; exact hs)
      unfold stS at hf
      rw [List.find?_eq_none] at hf
      exact absurd hep (by simpa using hf e hm)
theorem tree_lt {es : List EntV} (t : treeP es) : es.Pairwise fun e f => ltP e.path f.path := by
  have key : ∀ n i, i + n + 1 < es.length → lexK (pa es i) (pa es (i + n + 1)) = true := by
    intro n
    induction n with
    | zero => intro i hi; have := (t (i + 1) hi).2.2.1 (by omega); exact this
    | succ n ih =>
      intro i hi
      have h1 := ih i (by omega)
      have h2 := (t (i + (n + 1) + 1) hi).2.2.1 (by omega)
      exact lexK_trans _ _ _ h1 h2
  rw [List.pairwise_iff_getElem]
  intro i j hi hj hij
  rw [en_eq hi, en_eq hj]
  have := key (j - i - 1) i (by omega)
  rw [show i + (j - i - 1) + 1 = j by omega] at this
  exact this
theorem pw_inj {es : List EntV} (h : es.Pairwise fun e f => ltP e.path f.path) {e f : EntV} (he : e ∈ es) (hf : f ∈ es) (hp : e.path = f.path) : e = f := by
  obtain ⟨i, hi, rfl⟩ := List.mem_iff_getElem.1 he
  obtain ⟨j, hj, rfl⟩ := List.mem_iff_getElem.1 hf
  rw [List.pairwise_iff_getElem] at h
  rcases Nat.lt_trichotomy i j with hij | rfl | hij
  · have := h i j hi hj hij
    rw [hp] at this
    exact absurd this (ltP_irr _)
  · rfl
  · have := h j i hj hi hij
    rw [hp] at this
    exact absurd this (ltP_irr _)
theorem pw_lists {es : List EntV} (h : es.Pairwise fun e f => ltP e.path f.path) : Lists (stS es) es := by
  refine ⟨h, fun e => ⟨fun he => ?_, fun he => (sts_path he).2⟩⟩
  cases hf : stS es e.path with
  | some f =>
    obtain ⟨h1, h2⟩ := sts_path hf
    rw [pw_inj h h2 he h1]
  | none =>
    unfold stS at hf
    rw [List.find?_eq_none] at hf
    exact absurd (show decide (e.path = e.path) = true by simp) (hf e he)
def isDir (T : Sta) (u : List Nat) : Prop := u = [] ∨ ∃ d, T (str u) = some d ∧ d.kind = 2
open Classical in
/-- what has become of a path -/
noncomputable def dS (A B : Sta) : Sta := fun p => match B p with
  | some y => if A p = some y then none else some y
  | none => match A p with
    | none => none
    | some _ => if isDir B (upL (lst p)).1 then some (whiteE p) else none
theorem dS_cases {A B : Sta} {p : ByteArray} {e : EntV} (h : dS A B p = some e) : (B p = some e ∧ A p ≠ some e) ∨ (B p = none ∧ (∃ x, A p = some x) ∧ isDir B (upL (lst p)).1 ∧ e = whiteE p) := by
  unfold dS at h
  cases hb : B p with
  | some y =>
    rw [hb] at h
    by_cases ha : A p = some y
    · simp [ha] at h
    · simp only [if_neg ha] at h
      cases h
      exact .inl ⟨rfl, ha⟩
  | none =>
    rw [hb] at h
    cases ha : A p with
    | none => rw [ha] at h; cases h
    | some x =>
      rw [ha] at h
      by_cases hd : isDir B (upL (lst p)).1
      · simp only [if_pos hd] at h
        cases h
        exact .inr ⟨rfl, ⟨x, rfl⟩, hd, rfl⟩
      · simp only [if_neg hd] at h; cases h
theorem dS_is {A B : Sta} {p : ByteArray} {y : EntV} (hb : B p = some y) (ha : A p ≠ some y) : dS A B p = some y := by
  unfold dS; rw [hb]; simp only [if_neg ha]
theorem dS_same {A B : Sta} {p : ByteArray} {y : EntV} (hb : B p = some y) (ha : A p = some y) : dS A B p = none := by
  unfold dS; rw [hb]; simp only [if_pos ha]
theorem dS_none {A B : Sta} {p : ByteArray} (hb : B p = none) (ha : A p = none) : dS A B p = none := by
  unfold dS; rw [hb, ha]
theorem dS_white {A B : Sta} {p : ByteArray} {x : EntV} (hb : B p = none) (ha : A p = some x) (hd : isDir B (upL (lst p)).1) : dS A B p = some (whiteE p) := by
  unfold dS; rw [hb, ha]; simp only [if_pos hd]
theorem dS_not {A B : Sta} {p : ByteArray} {x : EntV} (hb : B p = none) (ha : A p = some x) (hd : ¬ isDir B (upL (lst p)).1) : dS A B p = none := by
  unfold dS; rw [hb, ha]; simp only [if_neg hd]
/-- the paths of two lists, one behind the other -/
def pathsL (es : List EntV) : List (List Nat) := es.map fun e => lst e.path
def allD (xs ys : List EntV) : List (List Nat) := insAll (pathsL ys) (insAll (pathsL xs) [])
noncomputable def refD (xs ys : List EntV) : List EntV := (allD xs ys).filterMap fun p => dS (stS xs) (stS ys) (str p)
theorem mem_allD {xs ys : List EntV} (p : List Nat) : p ∈ allD xs ys ↔ (∃ e ∈ ys, lst e.path = p) ∨ ∃ e ∈ xs, lst e.path = p := by
  unfold allD pathsL
  rw [mem_insAll, mem_insAll]
  simp
theorem allD_lt {xs ys : List EntV} {p : List Nat} (h : p ∈ allD xs ys) : ∀ x ∈ p, x < 256 := by
  rcases (mem_allD p).1 h with ⟨e, _, rfl⟩ | ⟨e, _, rfl⟩ <;> exact lst_lt _
theorem dS_path {xs ys : List EntV} {p : ByteArray} {e : EntV} (h : dS (stS xs) (stS ys) p = some e) : e.path = p ∧ lst p ∈ allD xs ys := by
  rcases dS_cases h with ⟨h1, _⟩ | ⟨_, ⟨x, h1⟩, _, rfl⟩
  · obtain ⟨h2, h3⟩ := sts_path h1
    exact ⟨h2, (mem_allD _).2 (.inl ⟨e, h3, by rw [h2]⟩)⟩
  · obtain ⟨h2, h3⟩ := sts_path h1
    exact ⟨rfl, (mem_allD _).2 (.inr ⟨x, h3, by rw [h2]⟩)⟩
theorem diff_lists (xs ys : List EntV) : Lists (dS (stS xs) (stS ys)) (refD xs ys) := by
  refine ⟨?_, fun e => ?_⟩
  · unfold refD
    rw [List.pairwise_filterMap]
    have hs : Sorted (allD xs ys) := insAll_sorted _ _ (insAll_sorted _ _ List.Pairwise.nil)
    refine (List.Pairwise.and_mem.1 hs).imp fun {p q} hpq e he f hf => ?_
    have e1 := (dS_path he).1
    have e2 := (dS_path hf).1
    unfold ltP
    rw [e1, e2, lst_str _ (allD_lt hpq.1), lst_str _ (allD_lt hpq.2.1)]
    exact hpq.2.2
  · unfold refD
    rw [List.mem_filterMap]
    constructor
    · rintro ⟨p, hp, he⟩
      rw [(dS_path he).1]
      exact he
    · intro he
      exact ⟨lst e.path, (dS_path he).2, by rw [str_lst]; exact he⟩
/-! ### a diff and what it makes -/
/-- what lies above a path lies above its directory -/
theorem above_up {l q : List Nat} (g : good l) (h0 : l ≠ []) (hin : inP q l = true) (hne : q ≠ l) (hq : q ≠ []) : (upL l).1 ≠ [] ∧ inP q (upL l).1 = true := by
  have hp := path_of g h0
  have hl : ∀ c ∈ lastP l, c ≠ 47 := by
    have h1 := good_pieces g h0
    have h2 := parts_good g h0
    refine partP_slash (h1.1 _ ?_)
    unfold lastP
    have hne := hp.1
    rw [h2] at hne ⊢
    rw [List.getD_eq_getElem?_getD, List.getElem?_eq_getElem (by have := List.length_pos_iff.2 hne; omega)]
    exact List.getElem_mem _
  rcases inP_cases hin with e | e | ⟨t, e⟩
  · exact absurd e hq
  · exact absurd e.symm hne
  by_cases hu : (upL l).1 = []
  · exfalso
    have h3 := hp.2.2
    rw [if_pos hu] at h3
    rw [h3] at e
    exact hl 47 (by rw [e]; simp) rfl
  · refine ⟨hu, ?_⟩
    have h3 := hp.2.2
    rw [if_neg hu] at h3
    generalize (upL l).1 = u at *
    generalize lastP l = x at *
    rw [h3] at e
    rcases List.append_eq_append_iff.1 e with ⟨c, h4, h5⟩ | ⟨c, h4, h5⟩
    · cases c with
      | nil => rw [List.append_nil] at h4; rw [h4]; unfold inP; simp
      | cons y c =>
        rw [List.cons_append] at h5
        injection h5 with h5 h6
        exact absurd rfl (hl 47 (by rw [h6]; simp))
    · cases c with
      | nil => rw [List.append_nil] at h4; rw [h4]; unfold inP; simp
      | cons y c =>
        rw [List.cons_append] at h5
        injection h5 with h5 h6
        rw [h4, ← h5]
        exact inP_below q c
theorem dir_above {B : Sta} (o : StOK B) {u q : List Nat} (hu : u ≠ []) (hl : ∀ x ∈ u, x < 256) (h : isDir B u) {p : ByteArray} (hp : lst p = q) (hin : inP q u = true) (hq : q ≠ []) : ∃ d, B p = some d ∧ d.kind = 2 := by
  rcases h with h | ⟨d, hd, kd⟩
  · exact absurd h hu
  · by_cases hpu : p = str u
    · exact ⟨d, by rw [hpu]; exact hd, kd⟩
    · refine o.tree _ _ p hd ?_ hpu (by rw [hp]; exact hq)
      unfold inB
      rw [hp, lst_str _ hl]; exact hin
section
variable {A B : Sta} {xs ys ds : List EntV} (oA : StOK A) (oB : StOK B) (lA : Lists A xs) (lB : Lists B ys) (lD : Lists (dS A B) ds)
include oA oB lD
theorem d_path {p : ByteArray} {e : EntV} (h : dS A B p = some e) : e.path = p ∧ lst p ≠ [] ∧ good (lst p) := by
  rcases dS_cases h with ⟨h1, _⟩ | ⟨_, ⟨x, h1⟩, _, rfl⟩
  · exact ⟨oB.path _ _ h1, oB.ne h1⟩
  · exact ⟨rfl, oA.ne h1⟩
/-- an entry of the diff that lies above another stands for a directory -/
theorem d_above {e f : EntV} (he : e ∈ ds) (hf : f ∈ ds) (hne : e.path ≠ f.path) (hin : inB e.path f.path = true) : e.kind = 2 := by
  have h1 := (lD.2 e).1 he
  have h2 := (lD.2 f).1 hf
  have p1 := d_path oA oB lD h1
  have p2 := d_path oA oB lD h2
  have hdir : ∃ d, B e.path = some d ∧ d.kind = 2 := by
    rcases dS_cases h2 with ⟨h3, _⟩ | ⟨_, _, hd, _⟩
    · exact oB.tree _ _ _ h3 hin hne p1.2.1
    · have := above_up p2.2.2 p2.2.1 hin (fun h => hne (lst_inj h)) p1.2.1
      exact dir_above oB this.1 (up_lt _) hd rfl this.2 p1.2.1
  obtain ⟨d, hd, kd⟩ := hdir
  rcases dS_cases h1 with ⟨h3, _⟩ | ⟨h3, _⟩
  · rw [h3] at hd
    rw [Option.some.inj hd]; exact kd
  · rw [h3] at hd; cases hd
theorem d_good (hl : ds.length ≤ 64) : Good ds := by
  refine ⟨hl, fun e he => ?_, ?_⟩
  · have h1 := (lD.2 e).1 he
    rcases dS_cases h1 with ⟨h3, _⟩ | ⟨_, _, _, h4⟩
    · exact oB.ok _ _ h3
    · have p1 := d_path oA oB lD h1
      rw [h4]
      exact white_sta p1.2.2 p1.2.1
  · refine (List.Pairwise.and_mem.1 lD.1).imp fun {e f} hef => ⟨hef.2.2, fun hh => ?_⟩
    cases hb : inP (lst e.path) (lst f.path) with
    | false => rfl
    | true =>
      have := d_above oA oB lD hef.1 hef.2.1 (fun e2 => ltP_irr _ (by have := hef.2.2; rw [e2] at this; exact this)) hb
      unfold hides at hh
      omega
theorem d_hid : ∀ (n : Nat) (p : ByteArray), (lst p).length ≤ n → ∀ x, A p = some x → (∀ d, B p = some d → d.kind ≠ 2) → A p ≠ B p → ∃ e ∈ ds, inB e.path p = true ∧ e.kind ≠ 2 := by
  intro n
  induction n with
  | zero =>
    intro p hn x hx hb hne
    exact absurd (List.length_eq_zero_iff.1 (Nat.le_zero.1 hn)) (oA.ne hx).1
  | succ n ih =>
    intro p hn x hx hb hne
    have hg := oA.ne hx
    cases hbp : B p with
    | some y =>
      have hd := dS_is (A := A) hbp (fun e => hne (by rw [e, hbp]))
      have hyp := oB.path _ _ hbp
      refine ⟨y, (lD.2 y).2 (by rw [hyp]; exact hd), by rw [hyp]; exact inB_refl p, hb y hbp⟩
    | none =>
      by_cases hdir : isDir B (upL (lst p)).1
      · have hd := dS_white (A := A) hbp hx hdir
        exact ⟨whiteE p, (lD.2 (whiteE p)).2 hd, inB_refl p, by show (3 : Int) ≠ 2; decide⟩
      · have hu : (upL (lst p)).1 ≠ [] := fun h => hdir (.inl h)
        obtain ⟨h1, h2, h3⟩ := up_in hg.2 hg.1 hu
        have hul := lst_str _ (up_lt (lst p))
        have hin : inB (str (upL (lst p)).1) p = true := by unfold inB; rw [hul]; exact h1
        have hnu : str (upL (lst p)).1 ≠ p := fun e => h2 (by rw [← hul, e])
        obtain ⟨d, hd, kd⟩ := oA.tree _ _ (str (upL (lst p)).1) hx hin hnu (by rw [hul]; exact hu)
        have hnb : ∀ d, B (str (upL (lst p)).1) = some d → d.kind ≠ 2 := fun d hd kd => hdir (.inr ⟨d, hd, kd⟩)
        have hlen : (upL (lst p)).1.length < (lst p).length := by
          have := (path_of hg.2 hg.1).2.2
          rw [if_neg hu] at this
          have := congrArg List.length this
          rw [List.length_append, List.length_cons] at this
          omega
        obtain ⟨e, he, hi, hk⟩ := ih (str (upL (lst p)).1) (by rw [hul]; omega) d hd hnb (fun e => hnb d (by rw [← e]; exact hd) kd)
        exact ⟨e, he, inB_trans hi hin, hk⟩
/-- the diff laid over the one comes to the other -/
theorem d_step {p : ByteArray} (hp : lst p ≠ []) : stepL A ds p = B p := by
  unfold stepL
  cases hf : ds.find? (fun e => decide (e.path = p)) with
  | some e =>
    have hm := (lD.2 e).1 (List.mem_of_find?_eq_some hf)
    have hep : e.path = p := by simpa using List.find?_some hf
    rw [hep] at hm
    simp only
    rcases dS_cases hm with ⟨h1, _⟩ | ⟨h1, _, _, rfl⟩
    · have hk := oB.kind _ _ h1
      rw [if_neg (by omega), h1]
      unfold unB
      rw [if_neg (by omega)]
    · rw [if_pos (show (whiteE p).kind = 3 from rfl), h1]
  | none =>
    rw [List.find?_eq_none] at hf
    have hn : ∀ e ∈ ds, e.path ≠ p := fun e he => by simpa using hf e he
    have hdn : dS A B p = none := by
      cases hd : dS A B p with
      | none => rfl
      | some e =>
        have hp1 := (d_path oA oB lD hd).1
        exact absurd hp1 (hn e ((lD.2 e).2 (by rw [hp1]; exact hd)))
    have hway : (ds.any fun e => inB p e.path && decide (e.kind ≠ 3)) = true → ∃ d, B p = some d ∧ d.kind = 2 := by
      intro hw
      rw [List.any_eq_true] at hw
      obtain ⟨e, he, hb⟩ := hw
      rw [Bool.and_eq_true, decide_eq_true_eq] at hb
      rcases dS_cases ((lD.2 e).1 he) with ⟨h1, _⟩ | ⟨_, _, _, h1⟩
      · exact oB.tree _ _ p h1 hb.1 (fun e2 => hn e he e2.symm) hp
      · rw [h1] at hb; exact absurd rfl hb.2
    generalize hw : (ds.any fun e => inB p e.path && decide (e.kind ≠ 3)) = way at *
    simp only
    cases hb : B p with
    | some y =>
      have ha : A p = some y := Classical.byContradiction fun h => by rw [dS_is hb h] at hdn; cases hdn
      have hhid : (ds.any fun e => inB e.path p && decide (e.kind ≠ 2)) = false := by
        rw [List.any_eq_false]
        intro e he
        cases hin : inB e.path p with
        | false => simp
        | true =>
          have h1 := (lD.2 e).1 he
          obtain ⟨d, hd, kd⟩ := oB.tree _ _ e.path hb hin (hn e he) (d_path oA oB lD h1).2.1
          rcases dS_cases h1 with ⟨h3, _⟩ | ⟨h3, _⟩
          · rw [h3] at hd
            have := Option.some.inj hd
            subst this
            simp [kd]
          · rw [h3] at hd; cases hd
      rw [hhid, ha]
      unfold overS
      simp only [Bool.false_eq_true, if_false]
      rw [if_neg]
      rintro ⟨h1, h2⟩
      obtain ⟨d, hd, kd⟩ := hway h1
      rw [hb] at hd
      have := Option.some.inj hd
      subst this
      omega
    | none =>
      have hwf : way = false := by
        cases way with
        | false => rfl
        | true => obtain ⟨d, hd, _⟩ := hway rfl; rw [hb] at hd; cases hd
      subst hwf
      cases ha : A p with
      | none => unfold overS; simp
      | some x =>
        have hnd : ¬ isDir B (upL (lst p)).1 := fun h => by rw [dS_white hb ha h] at hdn; cases hdn
        obtain ⟨e, he, h1, h2⟩ := d_hid oA oB lD _ p (Nat.le_refl _) x ha (fun d hd => by rw [hb] at hd; cases hd) (by rw [ha, hb]; simp)
        have hhid : (ds.any fun e => inB e.path p && decide (e.kind ≠ 2)) = true := by
          rw [List.any_eq_true]
          exact ⟨e, he, by rw [h1]; simpa using h2⟩
        rw [hhid]
        unfold overS; simp
include lA lB in
theorem d_merge (h64 : xs.length ≤ 64) (hl : ds.length ≤ 64) {es : List EntV} {e : Nat} (m : MergeR [xs, ds] es e) : e = 0 ∧ es = ys := by
  have gA := tree_good oA lA h64
  have gD := d_good oA oB lD hl
  have g : ∀ l ∈ [xs, ds], Good l := fun l hl => by
    rcases List.mem_cons.1 hl with rfl | hl
    · exact gA
    · rw [List.mem_singleton] at hl; subst hl; exact gD
  rcases m with ⟨a, _⟩ | ⟨_, ⟨l, hl, ng⟩, _⟩ | ⟨_, _, h1, h2⟩
  · simp at a
  · exact absurd (g l hl) ng
  · refine ⟨h1, h2.one (lB.congr fun p => ?_)⟩
    by_cases hp : lst p = []
    · rw [topS_nil g hp]
      cases hb : B p with
      | none => rfl
      | some e => exact absurd hp (oB.ne hb).1
    · rw [top_seen g hp]
      show B p = stepL (stepL noS xs) ds p
      have := fold_point [ds] (A := stepL noS xs) (B := A) (p := p) (tree_step oA lA hp)
      exact (this.trans (d_step oA oB lD hp)).symm
end
theorem diff_self {A : Sta} (p : ByteArray) : dS A A p = none := by
  cases ha : A p with
  | none => exact dS_none ha ha
  | some y => exact dS_same ha ha
end Go.Proofs.YtcfegbpoailbdaaDoor

namespace Go.Proofs.YtcfegbpoailbdaaDoor
open Go.Vc Go.Sha Go.Trail Go.Lay
set_option linter.unusedVariables false
set_option linter.unusedSimpArgs false
set_option maxRecDepth 20000
/-- how many entries a map has -/
theorem MapS.len {h : Heap} {r : Nat} {S : Sta} (m : MapS h r S) {es : List EntV} (o : ∀ p e, S p = some e → e.path = p) (l : Lists S es) {K : Value → Heap → Prop} (hK : K (.int .i64 ((es.length : Nat) : Int)) h) :
    semK Tryd.prog (Builtin.len_ #[55] 3 #[.map (some r)]) h K := by
  obtain ⟨kvs, m0, l0⟩ := m
  have hk := m0.keys
  have hes : (es.map EntV.path).Nodup := by
    rw [List.Nodup, List.pairwise_map]
    refine l.1.imp fun {e f} hef e2 => ?_
    rw [e2] at hef
    exact ltP_irr _ hef
  have h1 : (kvs.map Prod.fst).length ≤ (es.map EntV.path).length := nodup_len hk fun p hp => by
    obtain ⟨⟨q, v⟩, hq, rfl⟩ := List.mem_map.1 hp
    have h2 := mem_lookA hk hq
    rw [l0] at h2
    cases hs : S q with
    | none => rw [hs] at h2; cases h2
    | some e =>
      have hep := o _ _ hs
      exact List.mem_map.2 ⟨e, (l.2 e).2 (by rw [hep]; exact hs), hep⟩
  have h2 : (es.map EntV.path).length ≤ (kvs.map Prod.fst).length := nodup_len hes fun p hp => by
    obtain ⟨e, he, rfl⟩ := List.mem_map.1 hp
    have h3 := (l.2 e).1 he
    have h4 : lookA kvs e.path = some (eV e) := by rw [l0, h3]; rfl
    exact List.mem_map_of_mem (f := Prod.fst) (lookA_mem h4)
  rw [List.length_map, List.length_map] at h1 h2
  obtain ⟨⟨ms, clock, hb, he, _⟩, _, _⟩ := m0
  have h3 := congrArg List.length he
  rw [List.length_map, List.length_map, Array.length_toList] at h3
  rintro w rfl
  refine ⟨_, w, ?_, Kin.refl w, hK⟩
  unfold Builtin.len_
  simp only [Sem.run_bind, run_und Tryd.underlying55, Result.andThen_ok, run_getM hb, Sem.run_pure, goInt, List.getElem?_toArray, List.getElem?_cons_zero]
  rw [h3, show kvs.length = es.length by omega]
theorem by_ok (a : Option Addr) (l c : Nat) (es : List EntV) (h : Heap) (w : Tab 4 h a l c (ents es)) (pw : es.Pairwise fun e f => ltP e.path f.path) (hl : l < 2 ^ 40) :
    HEnt Tryd.prog 36 #[.slice a l c] h fun v h' => ∃ r, v = .map (some r) ∧ MapS h' r (stS es) ∧ h.size ≤ r ∧ Ext h h' := by
  have hlen := w.len
  rw [ents_len] at hlen
  refine F36_ent _ _ _ _ _ ?_
  unfold F36
  refine newK_intro fun h1 hb1 x1 z1 => ?_
  refine ⟨fun x hh => ∃ i : Nat, x = i ∧ i ≤ l ∧ Ext h hh ∧ MapS hh h.size (stS (es.take i)), fun x _ => ((l : Int) - x).toNat, ⟨0, rfl, by omega, x1, MapS.new hb1⟩, ?_⟩
  rintro h2 _ ⟨i, rfl, hi, x2, m2⟩
  unfold F36_b1
  refine br_of (fun gi => ?_) (fun gi => ?_)
  rotate_left
  · have hil : i = l := by
      have : ¬ (i : Int) < (l : Int) := by simpa using gi
      omega
    rw [List.take_of_length_le (by omega)] at m2
    unfold F36_k3
    exact ⟨_, rfl, m2, Nat.le_refl _, x2⟩
  have hil : i < l := by
    have : (i : Int) < (l : Int) := by simpa using gi
    omega
  have e1 : es[i]? = some (es[i]'(by omega)) := List.getElem?_eq_getElem (by omega)
  generalize es[i]'(by omega) = f at e1
  obtain ⟨q, eq, _, c0, c1, c2, c3⟩ := ent_get (w.grow x2) e1
  unfold F36_k2
  refine ⟨q, eq, by omega, by omega, f.path, f.kind, f.mode, f.body, by rw [Int.toNat_natCast]; exact c0, by rw [Int.toNat_natCast]; exact c1, by rw [Int.toNat_natCast]; exact c2, by rw [Int.toNat_natCast]; exact c3, rfl, newK_intro fun h3 hb3 x3 z3 => ?_⟩
  refine storeK_whole (vs := entA f) hb3 rfl zeroC38 (entA_one f) fun h4 hb4 o4 => ?_
  have x24 : Ext h2 h4 := Keep.since x3 (o4.keep rfl : Keep (· = h2.size) h3 h4) fun j hj e => by omega
  have ec := ent_cells hb4
  refine ⟨f.path, ec.1, f.path, f.kind, f.mode, f.body, ec.1, ec.2.1, ec.2.2.1, ec.2.2.2, rfl, ?_⟩
  refine (m2.grow x24).upd f.path f fun h5 m5 o5 => ?_
  rw [wrapS i l hil (by omega)]
  refine ⟨⟨i + 1, rfl, by omega, Keep.since (x2.trans x24) (o5.keep (S := (· = h.size)) rfl) (fun k hk e => by omega), m5.congr fun p => ?_⟩, lessS i l hil⟩
  unfold stS
  rw [take_snoc e1, List.find?_append]
  by_cases hp : p = f.path
  · rw [if_pos hp]
    have hn : (es.take i).find? (fun e => decide (e.path = p)) = none := by
      rw [List.find?_eq_none]
      intro e he
      have hm := List.pairwise_append.1 (by rw [← take_snoc e1]; exact pw.sublist (List.take_sublist _ _) : ((es.take i) ++ [f]).Pairwise fun e f => ltP e.path f.path)
      have := hm.2.2 e he f (by simp)
      simp only [decide_eq_true_eq]
      intro e2
      rw [e2, hp] at this
      exact ltP_irr _ this
    rw [hn, Option.none_or, List.find?_cons_of_pos (by simp [hp])]
  · rw [if_neg hp, List.find?_cons_of_neg (by simpa using fun e => hp e.symm)]
    simp
theorem fit_lt {es : List EntV} {m : Nat} (hf : ∀ j, j < m → fitE es j) : ∀ n i, i + n + 1 < m → lexK (pa es i) (pa es (i + n + 1)) = true := by
  intro n
  induction n with
  | zero => intro i hi; exact (hf (i + 1) hi).2.2.1 (by omega)
  | succ n ih =>
    intro i hi
    exact lexK_trans _ _ _ (ih i (by omega)) ((hf (i + (n + 1) + 1) hi).2.2.1 (by omega))
theorem fit_one {es : List EntV} {m i j : Nat} (hf : ∀ j, j < m → fitE es j) (hi : i < m) (hj : j < m) (h : pa es i = pa es j) : i = j := by
  rcases Nat.lt_trichotomy i j with hij | rfl | hij
  · have := fit_lt hf (j - i - 1) i (by omega)
    rw [show i + (j - i - 1) + 1 = j by omega, h, lexK_irr] at this; cases this
  · rfl
  · have := fit_lt hf (i - j - 1) j (by omega)
    rw [show j + (i - j - 1) + 1 = i by omega, h, lexK_irr] at this; cases this
open Classical in
theorem refTree_ok (a : Option Addr) (l c : Nat) (es : List EntV) (h : Heap) (w : Tab 4 h a l c (ents es)) (hs : Small es) (hl : l < 2 ^ 40) :
    HEnt Tryd.prog 37 #[.slice a l c] h fun v h' => v = .bool (decide (treeP es)) ∧ Ext h h' := by
  have hlen := w.len
  rw [ents_len] at hlen
  refine F37_ent _ _ _ _ _ ?_
  unfold F37
  refine ⟨fun x hh => ∃ i : Nat, x = i ∧ i ≤ l ∧ Ext h hh ∧ ∀ j, j < i → fitE es j, fun x _ => ((l : Int) - x).toNat, ⟨0, rfl, by omega, Ext.refl h, fun j hj => by omega⟩, ?_⟩
  rintro h3 _ ⟨i, rfl, hi, x3, hfit⟩
  unfold F37_b1
  refine br_of (fun gi => ?_) (fun gi => ?_)
  rotate_left
  · have hil : i = l := by
      have : ¬ (i : Int) < (l : Int) := by simpa using gi
      omega
    unfold F37_k9
    refine ⟨?_, x3⟩
    rw [decide_eq_true (show treeP es from fun j hj => hfit j (by omega))]
  have hil : i < l := by
    have : (i : Int) < (l : Int) := by simpa using gi
    omega
  have e1 := en_get (es := es) (i := i) (by omega)
  obtain ⟨q, eq, _, c0, c1, c2, c3⟩ := ent_get (w.grow x3) e1
  have sme := hs _ (List.mem_of_getElem? e1)
  have bad : ¬ fitE es i → ∀ h', Ext h h' → (Value.bool false = Value.bool (decide (treeP es)) ∧ Ext h h') := fun hn h' x => by
    refine ⟨?_, x⟩
    rw [decide_eq_false (fun t => hn (t i (by omega)))]
  have pae : pa es i = lst (en es i).path := rfl
  have hgive : ∀ e, en es i = e → (fitE es i ↔ (e.kind = 1 ∨ e.kind = 2) ∧ stA e = 0 ∧ (0 < i → lexK (pa es (i - 1)) (lst e.path) = true) ∧ dirAt es i (upL (lst e.path)).1) := fun e he => by
    subst he; exact Iff.rfl
  have hfe := hgive _ rfl
  generalize hen : en es i = e at *
  unfold F37_k2
  refine ⟨q, eq, by omega, by omega, e.path, e.kind, e.mode, e.body, by rw [Int.toNat_natCast]; exact c0, by rw [Int.toNat_natCast]; exact c1, by rw [Int.toNat_natCast]; exact c2, by rw [Int.toNat_natCast]; exact c3, rfl, rfl, by decide, newK_intro fun h4 hb4 x4 z4 => ?_⟩
  have x04 := x3.trans x4
  refine HEnt.use (refCheck_ok _ 1 1 [e] h4 (one_tab hb4) (fun f hf => by rw [List.mem_singleton] at hf; subst hf; exact sme) (by decide)) ?_
  rintro _ h5 ⟨rfl, x5⟩
  have x05 := x04.trans x5
  have c1' := check_one e
  -- behind the first three asks
  have k4 : (e.kind = 1 ∨ e.kind = 2) → stA e = 0 → F37_k4 (fun x hh => ∃ i : Nat, x = i ∧ i ≤ l ∧ Ext h hh ∧ ∀ j, j < i → fitE es j) (fun x _ => ((l : Int) - x).toNat) ((l : Int) - (i : Int)).toNat a l c i h5 fun v h' => v = .bool (decide (treeP es)) ∧ Ext h h' := by
    intro hk hst
    have k6 : ∀ h6, Ext h h6 → (0 < i → lexK (pa es (i - 1)) (lst e.path) = true) → F37_k6 (fun x hh => ∃ i : Nat, x = i ∧ i ≤ l ∧ Ext h hh ∧ ∀ j, j < i → fitE es j) (fun x _ => ((l : Int) - x).toNat) ((l : Int) - (i : Int)).toNat a l c i h6 fun v h' => v = .bool (decide (treeP es)) ∧ Ext h h' := by
      intro h6 x6 hord
      obtain ⟨q2, eq2, _, d0, _⟩ := ent_get (w.grow x6) e1
      have hul := lst_str _ (up_lt (lst e.path))
      have hcap := w.cap
      unfold F37_k6
      refine ⟨q2, eq2, by omega, by omega, e.path, by rw [Int.toNat_natCast]; exact d0, HEnt.use (refUp_ok e.path (by omega) h6) ?_⟩
      rintro _ h7 ⟨rfl, x7⟩
      have x07 := x6.trans x7
      have wt := (w.grow x07).take i hi
      have hte : (ents es).take i = ents (es.take i) := by unfold ents; rw [List.map_take]
      rw [hte] at wt
      refine ⟨_, _, rfl, by omega, by omega, by omega, ?_⟩
      rw [cutAt0, Int.toNat_natCast, Nat.sub_zero, Nat.sub_zero]
      refine HEnt.use (has_ok a i c (es.take i) (str (upL (lst e.path)).1) h7 wt (by omega)) ?_
      rintro _ h8 ⟨rfl, x, rfl, hx⟩
      refine ⟨x, rfl, ?_⟩
      have good_ : dirAt es i (upL (lst e.path)).1 → F37_k7 (fun x hh => ∃ i : Nat, x = i ∧ i ≤ l ∧ Ext h hh ∧ ∀ j, j < i → fitE es j) (fun x _ => ((l : Int) - x).toNat) ((l : Int) - (i : Int)).toNat a l c i false h8 fun v h' => v = .bool (decide (treeP es)) ∧ Ext h h' := by
        intro hd
        unfold F37_k7
        refine br_of (fun e => by cases e) (fun _ => ?_)
        unfold F37_k8
        rw [wrapS i l hil (by omega)]
        refine ⟨⟨i + 1, rfl, by omega, x07, fun j hj => ?_⟩, lessS i l hil⟩
        by_cases e2 : j = i
        · subst e2; exact hfe.2 ⟨hk, hst, hord, hd⟩
        · exact hfit j (by omega)
      have bad_ : ¬ dirAt es i (upL (lst e.path)).1 → F37_k7 (fun x hh => ∃ i : Nat, x = i ∧ i ≤ l ∧ Ext h hh ∧ ∀ j, j < i → fitE es j) (fun x _ => ((l : Int) - x).toNat) ((l : Int) - (i : Int)).toNat a l c i true h8 fun v h' => v = .bool (decide (treeP es)) ∧ Ext h h' := by
        intro hd
        unfold F37_k7
        exact br_of (fun _ => bad (fun f => hd (hfe.1 f).2.2.2) h8 x07) (fun e => by cases e)
      rw [seq_nil, hul]
      refine br_of (fun g => ?_) (fun g => good_ (.inl (by simpa using g)))
      have hu : (upL (lst e.path)).1 ≠ [] := by simpa using g
      rcases hx with ⟨rfl, hx⟩ | ⟨j, f, rfl, ej, hfp, hx⟩
      · refine br_of (fun _ => bad_ ?_) (fun e => by simp at e)
        rintro (h9 | ⟨j, hj, h9, _⟩)
        · exact hu h9
        · refine hx (en es j) ?_ ?_
          · have : (es.take i)[j]? = some (en es j) := by rw [List.getElem?_take_of_lt hj]; exact en_get (by omega)
            exact List.mem_of_getElem? this
          · apply lst_inj; rw [hul, ← h9]; rfl
      · have hji : j < i := by
          have := (List.getElem?_eq_some_iff.1 ej).1
          rw [List.length_take] at this; omega
        have hfj : f = en es j := by
          rw [List.getElem?_take_of_lt hji, en_get (by omega)] at ej
          exact (Option.some.inj ej).symm
        have hpj : pa es j = (upL (lst e.path)).1 := by
          show lst (en es j).path = _
          rw [← hfj, hfp, hul]
        obtain ⟨q3, eq3, _, g0, g1, _⟩ := ent_get (w.grow x07) (en_get (es := es) (i := j) (by omega))
        refine br_of (fun e => ?_) (fun _ => ⟨q3, eq3, by omega, by omega, (en es j).kind, by rw [Int.toNat_natCast]; exact g1, ?_⟩)
        · have : (j : Int) < 0 := by simpa using e
          omega
        by_cases k2 : (en es j).kind = 2
        · rw [show ((en es j).kind != 2) = false by simp [k2]]
          exact good_ (.inr ⟨j, hji, hpj, k2⟩)
        · rw [show ((en es j).kind != 2) = true by simp [k2]]
          refine bad_ ?_
          rintro (h9 | ⟨j2, hj2, h9, h10⟩)
          · exact hu h9
          · have := fit_one hfit hj2 hji (h9.trans hpj.symm)
            subst this
            exact k2 h10
    have k5 : ∀ h6 b, Ext h h6 → (b = false → 0 < i → lexK (pa es (i - 1)) (lst e.path) = true) → (b = true → ¬ fitE es i) → F37_k5 (fun x hh => ∃ i : Nat, x = i ∧ i ≤ l ∧ Ext h hh ∧ ∀ j, j < i → fitE es j) (fun x _ => ((l : Int) - x).toNat) ((l : Int) - (i : Int)).toNat a l c i b h6 fun v h' => v = .bool (decide (treeP es)) ∧ Ext h h' := by
      intro h6 b x6 hb1 hb2
      unfold F37_k5
      exact br_of (fun g => bad (hb2 g) h6 x6) (fun g => k6 h6 x6 (hb1 g))
    unfold F37_k4
    refine br_of (fun g => ?_) (fun g => ?_)
    rotate_left
    · have : ¬ (i : Int) > 0 := by simpa using g
      intro h6 x6
      exact k5 h6 false (x05.trans x6) (fun _ h0 => by omega) (fun e => by cases e)
    have hi0 : 0 < i := by
      have : (i : Int) > 0 := by simpa using g
      omega
    have ew : IntKind.i64.wrap ((i : Int) - 1) = ((i - 1 : Nat) : Int) := by rw [i64_lt _ (by omega) (by omega)]; omega
    have e2 := en_get (es := es) (i := i - 1) (by omega)
    obtain ⟨q2, eq2, _, d0, _⟩ := ent_get (w.grow x05) e2
    obtain ⟨q3, eq3, _, d3, _⟩ := ent_get (w.grow x05) e1
    have sme2 := hs _ (List.mem_of_getElem? e2)
    rw [ew]
    refine ⟨q2, eq2, by omega, by omega, (en es (i - 1)).path, by rw [Int.toNat_natCast]; exact d0, q3, eq3, by omega, by omega, e.path, by rw [Int.toNat_natCast]; exact d3, lexK (pa es (i - 1)) (lst e.path), fun h6 x6 => (refLess_ok (en es (i - 1)).path e.path (by omega) (by omega) h6).mono ?_, fun h6 x6 => ?_⟩
    · rintro v h7 ⟨rfl, x7⟩
      exact ⟨rfl, x7⟩
    · refine k5 h6 _ (x05.trans x6) (fun g2 _ => by simpa using g2) (fun g2 f => ?_)
      have := (hfe.1 f).2.2.1 hi0
      rw [this] at g2; cases g2
  have k3 : ∀ b, (b = true → ¬ fitE es i) → (b = false → (e.kind = 1 ∨ e.kind = 2) ∧ stA e = 0) → F37_k3 (fun x hh => ∃ i : Nat, x = i ∧ i ≤ l ∧ Ext h hh ∧ ∀ j, j < i → fitE es j) (fun x _ => ((l : Int) - x).toNat) ((l : Int) - (i : Int)).toNat a l c i b h5 fun v h' => v = .bool (decide (treeP es)) ∧ Ext h h' := by
    intro b hb1 hb2
    unfold F37_k3
    exact br_of (fun g => bad (hb1 g) h5 x05) (fun g => k4 (hb2 g).1 (hb2 g).2)
  refine ⟨_, _, rfl, br_of (fun g => k3 true (fun _ f => ?_) (fun e => by cases e)) (fun g => ?_)⟩
  · have : ((checkC [e]).2 : Int) ≠ 0 := by simpa using g
    exact this (by rw [c1'.2 (hfe.1 f).2.1]; rfl)
  have hst : stA e = 0 := by
    have : ((checkC [e]).2 : Int) = 0 := by simpa using g
    exact c1'.1 (by omega)
  have hk := stA_kind hst
  obtain ⟨q2, eq2, _, d0, d1, _⟩ := ent_get (w.grow x05) e1
  refine ⟨q2, eq2, by omega, by omega, e.kind, by rw [Int.toNat_natCast]; exact d1, k3 _ (fun g2 f => ?_) (fun g2 => ⟨?_, hst⟩)⟩
  · have g2 : e.kind > 2 := by simpa using g2
    have := (hfe.1 f).1
    omega
  · have g2 : ¬ e.kind > 2 := by simpa using g2
    omega
end Go.Proofs.YtcfegbpoailbdaaDoor

namespace Go.Proofs.YtcfegbpoailbdaaDoor
open Go.Vc Go.Sha Go.Trail Go.Lay
set_option linter.unusedVariables false
set_option linter.unusedSimpArgs false
set_option maxRecDepth 20000
open Classical in
/-- what is put down while the one list is gone through -/
noncomputable def s3 (A B : Sta) (left : ByteArray → Bool) : Sta := fun p => match B p with
  | some y => if left p = true ∨ A p = some y then none else some y
  | none => none
open Classical in
/-- and while the other is -/
noncomputable def s5 (A B : Sta) (left : ByteArray → Bool) : Sta := fun p => match B p with
  | some y => if A p = some y then none else some y
  | none => match A p with
    | none => none
    | some _ => if left p = false ∧ isDir B (upL (lst p)).1 then some (whiteE p) else none
theorem ite_iff' {P Q : Prop} [Decidable P] [Decidable Q] (h : P ↔ Q) {α : Type} (a b : α) : (if P then a else b) = if Q then a else b := by
  by_cases hp : P
  · rw [if_pos hp, if_pos (h.1 hp)]
  · rw [if_neg hp, if_neg fun hq => hp (h.2 hq)]
theorem s3_start (A B : Sta) (p : ByteArray) : noS p = s3 A B (fun _ => true) p := by
  unfold s3 noS
  cases B p <;> simp
open Classical in
theorem s3_end {A B : Sta} {left : ByteArray → Bool} (h : ∀ p y, B p = some y → left p = false) (p : ByteArray) : s3 A B left p = s5 A B (fun _ => true) p := by
  unfold s3 s5
  cases hb : B p with
  | some y => exact ite_iff' (by rw [h p y hb]; simp) _ _
  | none =>
    cases A p with
    | none => rfl
    | some x => simp
open Classical in
theorem s5_end {A B : Sta} {left : ByteArray → Bool} (h : ∀ p x, A p = some x → left p = false) (p : ByteArray) : s5 A B left p = dS A B p := by
  unfold s5 dS
  cases hb : B p with
  | some y => rfl
  | none =>
    cases ha : A p with
    | none => rfl
    | some x => exact ite_iff' (by rw [h p x ha]; simp) _ _
open Classical in
theorem s3_far {A B : Sta} {left : ByteArray → Bool} {k p : ByteArray} (hp : p ≠ k) : s3 A B left p = s3 A B (fun a => left a && !decide (a = k)) p := by
  unfold s3
  cases B p with
  | none => rfl
  | some z => exact ite_iff' (by simp [hp]) _ _
open Classical in
theorem s5_far {A B : Sta} {left : ByteArray → Bool} {k p : ByteArray} (hp : p ≠ k) : s5 A B left p = s5 A B (fun a => left a && !decide (a = k)) p := by
  unfold s5
  cases B p with
  | some z => rfl
  | none =>
    cases A p with
    | none => rfl
    | some z => exact ite_iff' (by simp [hp]) _ _
theorem s3_put {A B : Sta} {left : ByteArray → Bool} {k : ByteArray} {y : EntV} (hb : B k = some y) (ha : A k ≠ some y) (p : ByteArray) : (if p = k then some y else s3 A B left p) = s3 A B (fun a => left a && !decide (a = k)) p := by
  by_cases hp : p = k
  · rw [if_pos hp, hp]
    unfold s3
    rw [hb]
    simp only
    rw [if_neg]
    rintro (h | h)
    · simp at h
    · exact ha h
  · rw [if_neg hp]; exact s3_far hp
theorem s3_skip {A B : Sta} {left : ByteArray → Bool} {k : ByteArray} {y : EntV} (hb : B k = some y) (ha : A k = some y) (p : ByteArray) : s3 A B left p = s3 A B (fun a => left a && !decide (a = k)) p := by
  by_cases hp : p = k
  · rw [hp]
    unfold s3
    rw [hb]
    simp only
    rw [if_pos (.inr ha), if_pos (.inr ha)]
  · exact s3_far hp
theorem s5_put {A B : Sta} {left : ByteArray → Bool} {k : ByteArray} {x : EntV} (hb : B k = none) (ha : A k = some x) (hd : isDir B (upL (lst k)).1) (p : ByteArray) : (if p = k then some (whiteE k) else s5 A B left p) = s5 A B (fun a => left a && !decide (a = k)) p := by
  by_cases hp : p = k
  · rw [if_pos hp, hp]
    unfold s5
    rw [hb, ha]
    simp only
    rw [if_pos ⟨by simp, hd⟩]
  · rw [if_neg hp]; exact s5_far hp
theorem s5_skip {A B : Sta} {left : ByteArray → Bool} {k : ByteArray} (h : B k ≠ none ∨ ¬ isDir B (upL (lst k)).1) (p : ByteArray) : s5 A B left p = s5 A B (fun a => left a && !decide (a = k)) p := by
  by_cases hp : p = k
  · rw [hp]
    unfold s5
    cases hb : B k with
    | some y => rfl
    | none =>
      have hd := h.resolve_left (fun h => h hb)
      cases A k with
      | none => rfl
      | some x =>
        simp only
        rw [if_neg fun h => hd h.2, if_neg fun h => hd h.2]
  · exact s5_far hp
theorem MapS.look2 {h : Heap} {r : Nat} {S : Sta} (m : MapS h r S) (p : ByteArray) {K : Value → Heap → Prop} (hK : K (.tuple #[eV ((S p).getD e0), .bool (S p).isSome]) h) : semK Tryd.prog (Instr.lookup 55 (.map (some r)) (.string p) true) h K := by
  obtain ⟨kvs, m1, l⟩ := m
  refine semK_lookup keyed9 Tryd.underlying55 zero38e m1 trivial ?_
  rw [l p]
  cases hs : S p with
  | none => rw [hs] at hK; exact hK
  | some e => rw [hs] at hK; exact hK
open Classical in
noncomputable def diffC (xs ys : List EntV) : List EntV × Nat := if ¬ (treeP xs ∧ treeP ys) then ([], 5) else if (refD xs ys).length > 64 then ([], 3) else (refD xs ys, 0)
theorem allD_len (xs ys : List EntV) : (allD xs ys).length ≤ xs.length + ys.length := by
  unfold allD
  have h1 := insAll_len (pathsL ys) (insAll (pathsL xs) [])
  have h2 := insAll_len (pathsL xs) []
  unfold pathsL at *
  rw [List.length_map] at h1 h2
  simp only [List.length_nil] at h2
  omega
open Classical in
theorem diff_ok (a : Option Addr) (l c : Nat) (xs : List EntV) (a1 : Option Addr) (l1 c1 : Nat) (ys : List EntV) (h : Heap) (w : Tab 4 h a l c (ents xs)) (sx : Small xs) (w1 : Tab 4 h a1 l1 c1 (ents ys)) (sy : Small ys) (hl : l < 2 ^ 38) (hl1 : l1 < 2 ^ 38) (hm : MaxAt h) :
    HEnt Tryd.prog 20 #[.slice a l c, .slice a1 l1 c1] h fun v h' => ∃ a' l' c', v = .tuple #[.slice a' l' c', .int .i64 (((diffC xs ys).2 : Nat) : Int)] ∧ OwnR 38 4 h h' a' l' c' (ents (diffC xs ys).1) := by
  have hxl := w.len
  rw [ents_len] at hxl
  have hyl := w1.len
  rw [ents_len] at hyl
  have bad : ¬ (treeP xs ∧ treeP ys) → ∀ h', Ext h h' → F20_k1 a l c a1 l1 c1 true h' fun v h' => ∃ a' l' c', v = .tuple #[.slice a' l' c', .int .i64 (((diffC xs ys).2 : Nat) : Int)] ∧ OwnR 38 4 h h' a' l' c' (ents (diffC xs ys).1) := by
    intro ht h' x'
    unfold F20_k1 diffC
    rw [if_pos ht]
    exact br_of (fun _ => ⟨none, 0, 0, rfl, OwnR.nil _ _ x'⟩) (fun e => by cases e)
  refine F20_ent _ _ _ _ _ _ _ _ ?_
  unfold F20
  refine HEnt.use (tree_ok a l c xs h w sx (by omega) hm) ?_
  rintro _ h1 ⟨rfl, x1⟩
  refine ⟨_, rfl, br_of (fun g => bad (fun t => ?_) h1 x1) (fun g => ?_)⟩
  · rw [decide_eq_true t.1] at g; cases g
  have tx : treeP xs := by simpa using g
  refine HEnt.use (tree_ok a1 l1 c1 ys h1 (w1.grow x1) sy (by omega) (hm.ext x1)) ?_
  rintro _ h2 ⟨rfl, x2⟩
  have x02 := x1.trans x2
  by_cases ty : treeP ys
  rotate_left
  · rw [decide_eq_false ty]
    exact ⟨_, rfl, bad (fun t => ty t.2) h2 x02⟩
  rw [decide_eq_true ty]
  refine ⟨_, rfl, ?_⟩
  have hdc : diffC xs ys = if (refD xs ys).length > 64 then ([], 3) else (refD xs ys, 0) := by
    unfold diffC
    rw [if_neg (fun h => h ⟨tx, ty⟩)]
  rw [hdc]
  have hlist := diff_lists xs ys
  have hpath : ∀ p e, dS (stS xs) (stS ys) p = some e → e.path = p ∧ lst p ∈ allD xs ys := fun p e he => dS_path he
  have hAp : ∀ p e, stS xs p = some e → e.path = p ∧ e ∈ xs := fun p e he => sts_path he
  have hBp : ∀ p e, stS ys p = some e → e.path = p ∧ e ∈ ys := fun p e he => sts_path he
  have hDs : ∀ p e, dS (stS xs) (stS ys) p = some e → e.path.size < 2 ^ 29 := fun p e he => by
    rcases dS_cases he with ⟨h3, _⟩ | ⟨_, ⟨x, h3⟩, _, rfl⟩
    · exact (sy _ (hBp _ _ h3).2).1
    · show p.size < 2 ^ 29
      rw [← (hAp _ _ h3).1]
      exact (sx _ (hAp _ _ h3).2).1
  have hal := allD_len xs ys
  unfold F20_k1
  refine br_of (fun e => by cases e) (fun _ => ?_)
  unfold F20_k2
  refine HEnt.use (by_ok a l c xs h2 (w.grow x02) (tree_lt tx) (by omega)) ?_
  rintro _ h3 ⟨rA, rfl, mA, hrA, x3⟩
  refine ⟨_, rfl, HEnt.use (by_ok a1 l1 c1 ys h3 (w1.grow (x02.trans x3)) (tree_lt ty) (by omega)) ?_⟩
  rintro _ h4 ⟨rB, rfl, mB, hrB, x4⟩
  have x04 := (x02.trans x3).trans x4
  have mA4 := mA.grow x4
  have hAlt := mA.lt
  have hBlt := mB.lt
  have x02s := x02.size
  have x3s := x3.size
  have x4s := x4.size
  generalize stS xs = A at *
  generalize stS ys = B at *
  refine ⟨_, rfl, newK_intro fun h5 hb5 x5 z5 => ?_⟩
  have mO5 : MapS h5 h4.size noS := MapS.new hb5
  obtain ⟨kvB, mB5, lB⟩ := mB.grow x5
  refine semK_range Tryd.underlying55 mB5 fun h6 x6 z6 it6 => ⟨h5.size, rfl, ?_⟩
  refine ⟨fun hh => ∃ left, IterAt Value.string (fun _ : ByteArray => True) hh h5.size rB kvB left ∧ Ext h hh ∧ MapS hh rA A ∧ MapS hh h4.size (s3 A B left),
    fun hh => leftN hh h5.size rB, ⟨_, it6, (x04.trans x5).trans x6, (mA4.grow x5).grow x6, (mO5.grow x6).congr (s3_start A B)⟩, ?_⟩
  rintro h7 ⟨left, it7, x07, mA7, mO7⟩
  have lt7 := it7.lt
  unfold F20_b3
  refine semK_next it7 0 (fun hov => .inl ⟨rfl, ?_⟩) fun pr h8 hmem hleft o8 hlt on => .inr ⟨_, _, rfl, ?_⟩
  · -- the other list
    have mB7 : MapS h7 rB B := ⟨kvB, it7.map, lB⟩
    have hov' : ∀ p y, B p = some y → left p = false := fun p y hy => by
      have : lookA kvB p = some (eV y) := by rw [lB, hy]; rfl
      exact hov _ (lookA_mem this)
    have mO7' := mO7.congr (s3_end hov')
    unfold F20_k4
    obtain ⟨kvA, mA7', lA⟩ := mA7
    refine semK_range Tryd.underlying55 mA7' fun h8 x8 z8 it8 => ⟨h7.size, rfl, ?_⟩
    have hO7 := mO7.lt
    refine ⟨fun hh => ∃ left, IterAt Value.string (fun _ : ByteArray => True) hh h7.size rA kvA left ∧ Ext h hh ∧ MapS hh rB B ∧ MapS hh h4.size (s5 A B left),
      fun hh => leftN hh h7.size rA, ⟨_, it8, x07.trans x8, mB7.grow x8, mO7'.grow x8⟩, ?_⟩
    rintro h9 ⟨left9, it9, x09, mB9, mO9⟩
    have lt9 := it9.lt
    unfold F20_b5
    refine semK_next it9 0 (fun hov => .inl ⟨rfl, ?_⟩) fun pr h10 hmem hleft o10 hlt on => .inr ⟨_, _, rfl, ?_⟩
    · have hov9 : ∀ p x, A p = some x → left9 p = false := fun p x hx => by
        have : lookA kvA p = some (eV x) := by rw [lA, hx]; rfl
        exact hov _ (lookA_mem this)
      have mD := mO9.congr (s5_end hov9)
      unfold F20_k6
      refine mD.len (fun p e he => (hpath p e he).1) hlist ⟨_, rfl, br_of (fun g => ?_) (fun g => ?_)⟩
      · have g : (refD xs ys).length > 64 := by
          have : (((refD xs ys).length : Nat) : Int) > 64 := by simpa using g
          omega
        rw [if_pos g]
        exact ⟨none, 0, 0, rfl, OwnR.nil _ _ x09⟩
      · have g : ¬ (refD xs ys).length > 64 := by
          have : ¬ (((refD xs ys).length : Nat) : Int) > 64 := by simpa using g
          omega
        rw [if_neg g]
        unfold F20_k7
        refine HEnt.use (sorted_ok h4.size (dS A B) ((allD xs ys).map str) h9 mD (fun p e he => ⟨(hpath p e he).1, Nat.lt_trans (hDs p e he) (by decide)⟩) (fun p e he => List.mem_map.2 ⟨lst p, (hpath p e he).2, str_lst p⟩) (by rw [List.length_map]; omega)) ?_
        rintro _ h10 ⟨a', l', c', es, rfl, hes, o10⟩
        rw [hes.one hlist] at o10
        exact ⟨a', l', c', rfl, a', l', c', rfl, ow_since o10 x09⟩
    · obtain ⟨x, hx, hpx⟩ : ∃ x : EntV, A pr.1 = some x ∧ pr.2 = eV x := by
        have h1 := mem_lookA it9.keys (show (pr.1, pr.2) ∈ kvA from hmem)
        rw [lA] at h1
        cases hs : A pr.1 with
        | none => rw [hs] at h1; cases h1
        | some e => rw [hs] at h1; exact ⟨e, rfl, (Option.some.inj h1).symm⟩
      have hsz : pr.1.size < 2 ^ 29 := by
        rw [← (hAp _ _ hx).1]
        exact (sx _ (hAp _ _ hx).2).1
      have mB10 := mB9.block (o10.block rB (by omega))
      have mO10 := mO9.block (o10.block h4.size (by omega))
      have x010 : Ext h h10 := Keep.since x09 (o10.keep (S := (· = h7.size)) rfl) fun k hk e => by have := x07.size; omega
      unfold F20_k8
      refine semK_told on ⟨pr.1, x.path, x.kind, x.mode, x.body, by rw [hpx]; rfl, mB10.look2 pr.1 ⟨((B pr.1).getD e0).path, ((B pr.1).getD e0).kind, ((B pr.1).getD e0).mode, ((B pr.1).getD e0).body, (B pr.1).isSome, rfl, newK_intro fun h11 hb11 x11 z11 => ?_⟩⟩
      refine storeK_whole (vs := entA ((B pr.1).getD e0)) hb11 rfl zeroC38 (entA_one _) fun h12 hb12 o12 => ?_
      have x1012 : Ext h10 h12 := Keep.since x11 (o12.keep rfl : Keep (· = h10.size) h11 h12) fun j hj e => by omega
      have skip : ∀ hh, Ext h10 hh → (B pr.1 ≠ none ∨ ¬ isDir B (upL (lst pr.1)).1) → (∃ left, IterAt Value.string (fun _ : ByteArray => True) hh h7.size rA kvA left ∧ Ext h hh ∧ MapS hh rB B ∧ MapS hh h4.size (s5 A B left)) ∧ leftN hh h7.size rA < leftN h9 h7.size rA := by
        intro hh xh hk
        refine ⟨⟨_, on.at_.grow xh, x010.trans xh, mB10.grow xh, (mO10.grow xh).congr (s5_skip hk)⟩, ?_⟩
        rw [leftN_same (xh.block _ on.at_.lt.1) (xh.block _ on.at_.lt.2.1)]
        exact hlt
      refine br_of (fun g => skip h12 x1012 (.inl fun e => by rw [e] at g; cases g)) (fun g => ?_)
      have hbn : B pr.1 = none := by
        cases hb : B pr.1 with
        | none => rfl
        | some y => rw [hb] at g; cases g
      unfold F20_k9
      refine HEnt.use (up_ok pr.1 (by omega) h12 (hm.ext (x010.trans x1012))) ?_
      rintro _ h13 ⟨rfl, x13⟩
      have x1013 := x1012.trans x13
      have hul := lst_str _ (up_lt (lst pr.1))
      have put : isDir B (upL (lst pr.1)).1 → ∀ hh, Ext h10 hh → F20_k10 (fun hh => ∃ left, IterAt Value.string (fun _ : ByteArray => True) hh h7.size rA kvA left ∧ Ext h hh ∧ MapS hh rB B ∧ MapS hh h4.size (s5 A B left)) (fun hh => leftN hh h7.size rA) (leftN h9 h7.size rA) (some rB) (some h4.size) pr.1 (at0 h7.size) true hh
          fun v h' => ∃ a' l' c', v = .tuple #[.slice a' l' c', .int .i64 (((if (refD xs ys).length > 64 then (([] : List EntV), 3) else (refD xs ys, 0)).2 : Nat) : Int)] ∧ OwnR 38 4 h h' a' l' c' (ents (if (refD xs ys).length > 64 then (([] : List EntV), 3) else (refD xs ys, 0)).1) := by
        intro hd hh xh
        unfold F20_k10
        refine br_of (fun _ => ?_) (fun e => by cases e)
        have itx := on.at_.grow xh
        have ltx := itx.lt
        have mBx := mB10.grow xh
        refine (mO10.grow xh).upd pr.1 (whiteE pr.1) fun hi mi oi => ⟨⟨_, itx.keep (S := (· = h4.size)) (oi.keep rfl) (by omega) (by omega), ?_, mBx.block (oi.block rB (by omega)), mi.congr (s5_put hbn hx hd)⟩, ?_⟩
        · exact Keep.since (x010.trans xh) (oi.keep (S := (· = h4.size)) rfl) fun k hk e => by have := x04.size; omega
        · show leftN hi h7.size rA < leftN h9 h7.size rA
          rw [leftN_same (oi.block _ (by omega)) (oi.block _ (by omega)), leftN_same (xh.block _ on.at_.lt.1) (xh.block _ on.at_.lt.2.1)]
          exact hlt
      refine ⟨_, _, rfl, ?_⟩
      rw [seq_nil, hul]
      refine br_of (fun g2 => put (.inl (by simpa using g2)) h13 x1013) (fun g2 => ?_)
      have g2 : (upL (lst pr.1)).1 ≠ [] := by simpa using g2
      refine (mB10.grow x1013).look (str (upL (lst pr.1)).1) ?_
      cases hbu : B (str (upL (lst pr.1)).1) with
      | none =>
        refine ⟨e0.path, e0.kind, e0.mode, e0.body, rfl, ?_⟩
        unfold F20_k10
        refine br_of (fun e => by cases e) (fun _ => skip h13 x1013 (.inr ?_))
        rintro (h14 | ⟨d, hd, _⟩)
        · exact g2 h14
        · rw [hbu] at hd; cases hd
      | some d =>
        refine ⟨d.path, d.kind, d.mode, d.body, rfl, ?_⟩
        by_cases k2 : d.kind = 2
        · rw [show (d.kind == 2) = true by simp [k2]]
          exact put (.inr ⟨d, hbu, k2⟩) h13 x1013
        · rw [show (d.kind == 2) = false by simp [k2]]
          unfold F20_k10
          refine br_of (fun e => by cases e) (fun _ => skip h13 x1013 (.inr ?_))
          rintro (h14 | ⟨d2, hd, kd⟩)
          · exact g2 h14
          · rw [hbu] at hd
            have := Option.some.inj hd
            subst this
            exact k2 kd
  · obtain ⟨y, hy, hpy⟩ : ∃ y : EntV, B pr.1 = some y ∧ pr.2 = eV y := by
      have h1 := mem_lookA it7.keys (show (pr.1, pr.2) ∈ kvB from hmem)
      rw [lB] at h1
      cases hs : B pr.1 with
      | none => rw [hs] at h1; cases h1
      | some e => rw [hs] at h1; exact ⟨e, rfl, (Option.some.inj h1).symm⟩
    have mA8 := mA7.block (o8.block rA (by omega))
    have mO8 := mO7.block (o8.block h4.size (by omega))
    have x08 : Ext h h8 := Keep.since x07 (o8.keep (S := (· = h5.size)) rfl) fun k hk e => by have := x04.size; omega
    have hup := s3_put (A := A) (left := left) hy
    have hsk := s3_skip (A := A) (left := left) hy
    generalize hAk : A pr.1 = ox at *
    unfold F20_k11
    refine semK_told on ⟨pr.1, y.path, y.kind, y.mode, y.body, by rw [hpy]; rfl, newK_intro fun h9 hb9 x9 z9 => ?_⟩
    refine storeK_whole (vs := entA y) hb9 rfl zeroC38 (entA_one _) fun h10 hb10 o10 => ?_
    have x810 : Ext h8 h10 := Keep.since x9 (o10.keep rfl : Keep (· = h8.size) h9 h10) fun j hj e => by omega
    refine (mA8.grow x810).look2 pr.1 ?_
    rw [hAk]
    refine ⟨(ox.getD e0).path, (ox.getD e0).kind, (ox.getD e0).mode, (ox.getD e0).body, ox.isSome, rfl, newK_intro fun h11 hb11 x11 z11 => ?_⟩
    refine storeK_whole (vs := entA (ox.getD e0)) hb11 rfl zeroC38 (entA_one _) fun h12 hb12 o12 => ?_
    have x1012 : Ext h10 h12 := Keep.since x11 (o12.keep rfl : Keep (· = h10.size) h11 h12) fun j hj e => by omega
    have x812 := x810.trans x1012
    have ecy := ent_cells (x1012.blk hb10)
    have ecx := ent_cells hb12
    have it12 := on.at_.grow x812
    have lt12 := it12.lt
    have mA12 := mA8.grow x812
    have k12 : ∀ b, (b = true ↔ ox ≠ some y) → F20_k12 (fun hh => ∃ left, IterAt Value.string (fun _ : ByteArray => True) hh h5.size rB kvB left ∧ Ext h hh ∧ MapS hh rA A ∧ MapS hh h4.size (s3 A B left)) (fun hh => leftN hh h5.size rB) (leftN h7 h5.size rB) (some rA) (some rB) (some h4.size) pr.1 (at0 h8.size) (at0 h5.size) b h12
        fun v h' => ∃ a' l' c', v = .tuple #[.slice a' l' c', .int .i64 (((if (refD xs ys).length > 64 then (([] : List EntV), 3) else (refD xs ys, 0)).2 : Nat) : Int)] ∧ OwnR 38 4 h h' a' l' c' (ents (if (refD xs ys).length > 64 then (([] : List EntV), 3) else (refD xs ys, 0)).1) := by
      intro b hb
      unfold F20_k12
      refine br_of (fun g => ⟨y.path, y.kind, y.mode, y.body, ecy.1, ecy.2.1, ecy.2.2.1, ecy.2.2.2, rfl, ?_⟩) (fun g => ?_)
      · refine (mO8.grow x812).upd pr.1 y fun hi mi oi => ⟨⟨_, it12.keep (S := (· = h4.size)) (oi.keep rfl) (by omega) (by omega), ?_, mA12.block (oi.block rA (by omega)), mi.congr (hup (hb.1 g))⟩, ?_⟩
        · exact Keep.since (x08.trans x812) (oi.keep (S := (· = h4.size)) rfl) fun k hk e => by have := x04.size; omega
        · show leftN hi h5.size rB < leftN h7 h5.size rB
          rw [leftN_same (oi.block _ (by omega)) (oi.block _ (by omega)), leftN_same (x812.block _ on.at_.lt.1) (x812.block _ on.at_.lt.2.1)]
          exact hlt
      · have hox : ox = some y := Classical.byContradiction fun h => by rw [hb.2 h] at g; cases g
        refine ⟨⟨_, it12, x08.trans x812, mA12, (mO8.grow x812).congr (hsk hox)⟩, ?_⟩
        show leftN h12 h5.size rB < leftN h7 h5.size rB
        rw [leftN_same (x812.block _ on.at_.lt.1) (x812.block _ on.at_.lt.2.1)]
        exact hlt
    refine br_of (fun g => k12 true ⟨fun _ e => (by rw [e] at g; cases g), fun _ => rfl⟩) (fun g => ⟨y.path, y.kind, y.mode, y.body, ecy.1, ecy.2.1, ecy.2.2.1, ecy.2.2.2, rfl, (ox.getD e0).path, (ox.getD e0).kind, (ox.getD e0).mode, (ox.getD e0).body, ecx.1, ecx.2.1, ecx.2.2.1, ecx.2.2.2, rfl, eqE y (ox.getD e0), fun w => run_equal_ent y (ox.getD e0) w, eqg30, k12 _ ?_⟩)
    have hq := eqE_iff y (ox.getD e0)
    cases hoe : ox with
    | none => rw [hoe] at g; cases g
    | some x =>
      rw [hoe] at hq
      have hq : eqE y x = true ↔ y = x := hq
      show (!(eqE y x)) = true ↔ some x ≠ some y
      by_cases hxy : y = x
      · rw [hq.2 hxy, hxy]; simp
      · have : eqE y x = false := by
          cases he : eqE y x with
          | false => rfl
          | true => exact absurd (hq.1 he) hxy
        rw [this]
        simp [Ne.symm hxy]
end Go.Proofs.YtcfegbpoailbdaaDoor
