import Derived.Test.YtcfegbpoailbdaaDoorOvlP

namespace Go.Proofs.YtcfegbpoailbdaaDoor
open Go.Vc Go.Sha Go.Trail Go.Lay
set_option linter.unusedVariables false
set_option linter.unusedSimpArgs false
set_option maxRecDepth 20000
def whiteE (p : ByteArray) : EntV := ⟨p, 3, 0, ByteArray.empty⟩
theorem white_sta {p : ByteArray} (g : good (lst p)) (h0 : lst p ≠ []) : stA (whiteE p) = 0 := by
  refine stA_of ?_ (show 1 ≤ (3 : Int) ∧ (3 : Int) ≤ 4 by decide) (show 0 ≤ (0 : Int) ∧ (0 : Int) ≤ 511 by decide) (fun _ => rfl) (fun _ => rfl) (by show (0 : Nat) ≤ 256; decide)
  unfold badP
  rintro (e | e)
  · exact h0 e
  · exact e g
theorem good_one' {e : EntV} (h : stA e = 0) : Good [e] := (good_check [e]).1 ((check_one e).2 h)
theorem white_lists {stk : List (List EntV)} {p : ByteArray} {was : List EntV} (h : Lists (topS stk) was) : Lists (topS (stk ++ [[whiteE p]])) (was.filter fun e => !(inB p e.path)) := by
  have e1 : topS (stk ++ [[whiteE p]]) = putS (topS stk) (whiteE p) := by unfold topS; rw [List.foldl_append]; rfl
  rw [e1]
  refine ⟨h.1.sublist List.filter_sublist, fun e => ?_⟩
  rw [List.mem_filter, h.2]
  unfold putS
  rw [if_pos (show (whiteE p).kind = 3 from rfl)]
  show _ ↔ (if inB p e.path = true then none else topS stk e.path) = some e
  cases inB p e.path <;> simp
theorem white_ok (a : Option Addr) (l c : Nat) (stk : List (List EntV)) (hs : List HdE) (s : ByteArray) (hsz : s.size < 2 ^ 30) (h : Heap) (t : StackE h a l c stk hs) (hm : MaxAt h) :
    HEnt Tryd.prog 6 #[.slice a l c, .string s] h (yes h) := by
  have hl := t.length
  have clt := clean_lt (lst s)
  have clen := clean_len (lst s)
  refine F6_ent _ _ _ _ _ _ ?_
  unfold F6
  refine HEnt.use (clean_ok s hsz h hm) ?_
  rintro _ h1 ⟨rfl, x1⟩
  obtain ⟨cp, ce⟩ : ∃ cp ce, clean (lst s) = (cp, ce) := ⟨_, _, rfl⟩
  refine ⟨_, _, rfl, HEnt.use (merge_ok a l c stk hs h1 (t.grow x1) (hm.ext x1)) ?_⟩
  rintro _ h2 ⟨a2, l2, c2, was, e, rfl, mr, o2⟩
  have x2 := x1.trans o2.ext
  generalize hp : str (clean (lst s)).1 = p at *
  have lp : lst p = (clean (lst s)).1 := by rw [← hp]; exact lst_str _ clt
  have wk : ∀ h3, Ext h h3 → F6_k1 a l c p a2 l2 c2 true h3 (yes h) := fun h3 x3 => by
    unfold F6_k1
    exact br_of (fun _ => works_yes x3 hm) (fun e => by cases e)
  refine ⟨_, _, _, _, rfl, br_of (fun _ => wk h2 x2) (fun g1 => br_of (fun _ => wk h2 x2) (fun g2 => br_of (fun _ => wk h2 x2) (fun g3 => ?_)))⟩
  have g1 : (clean (lst s)).2 = 0 := by
    have : ((clean (lst s)).2 : Int) = 0 := by simpa using g1
    omega
  have g3 : e = 0 := by
    have : (e : Int) = 0 := by simpa using g3
    omega
  have hp0 : lst p ≠ [] := by
    rw [seq_nil] at g2
    simpa using g2
  have hpg : good (lst p) := by rw [lp]; exact clean_out g1
  have hps : p.size < 2 ^ 20 := by rw [← lst_len, lp]; omega
  refine HEnt.use (few_ok a l c stk hs h2 (t.grow x2)) ?_
  rintro _ h3 ⟨rfl, rfl⟩
  refine ⟨_, rfl, br_of (fun _ => wk h3 x2) (fun hf => ?_)⟩
  unfold F6_k1
  refine br_of (fun _ => works_yes x2 hm) (fun g16 => ?_)
  have g16 : l < 16 := by
    have : ¬ (l : Int) ≥ 16 := by simpa using g16
    omega
  obtain ⟨ga, la⟩ : (∀ l ∈ stk, Good l) ∧ Lists (topS stk) was := by
    rcases mr with ⟨_, b, _⟩ | ⟨_, _, b, _⟩ | ⟨_, b1, _, b2⟩
    · omega
    · omega
    · exact ⟨b1, b2⟩
  have tra := mr.tree
  have hst := white_sta hpg hp0
  unfold F6_k2
  refine HEnt.use (own_ok a l c stk hs h3 (t.grow x2) (by omega)) ?_
  rintro _ h4 ⟨a4, c4, hs4, rfl, o4⟩
  refine ⟨_, _, _, rfl, rfl, by decide, newK_intro fun h5 hb5 x5 z5 => ⟨by decide, newK_intro fun h6 hb6 x6 z6 => ?_⟩⟩
  have x46 := x5.trans x6
  refine (o4.grow x46).app (ls := [[whiteE p]]) (ds := [⟨some (at0 h4.size), 1, 1⟩]) (m := 1) rfl rfl (fun i es d e1 e2 => ?_) hb6 (by omega) fun a7 c7 h7 o7 => ?_
  · match i, e1, e2 with
    | 0, e1, e2 =>
      cases e1; cases e2
      refine ⟨fun f hf => by rw [List.mem_singleton] at hf; subst hf; exact ⟨by show p.size < 2 ^ 29; omega, by show (0 : Nat) < 2 ^ 29; decide⟩, by show 1 < 2 ^ 40; decide, .inl ?_⟩
      exact OwnR.new_ (rows := ents [whiteE p]) (x6.blk hb5) (o4.rows.ext.trans x46) o4.rows.ext.size (ents_row _) rfl
  refine HEnt.use (merge_ok a7 _ c7 _ _ h7 o7.stack (hm.ext (x2.trans o7.rows.ext))) ?_
  rintro _ h8 ⟨a8, l8, c8, now, g, rfl, mr8, o8⟩
  have x38 := o7.rows.ext.trans o8.ext
  have x8 := x2.trans x38
  have ref : MergeR (stk ++ [[whiteE p]]) (was.filter fun e => !(inB p e.path)) 0 := by
    refine .inr (.inr ⟨by rw [List.length_append]; simp; omega, fun l hl2 => ?_, rfl, white_lists la⟩)
    rcases List.mem_append.1 hl2 with h | h
    · exact ga l h
    · rw [List.mem_singleton] at h; subst h; exact good_one' hst
  obtain ⟨rfl, rfl⟩ := mr8.one ref
  have tr8 := mr8.tree
  refine ⟨_, _, _, _, rfl, br_of (fun e => by cases e) (fun _ => ?_)⟩
  have hlw := o2.len
  rw [ents_len] at hlw
  unfold F6_k3
  refine ⟨fun a11 l11 c11 x hh => ∃ i : Nat, x = i ∧ i ≤ l2 ∧ OwnR 38 4 h8 hh a11 l11 c11 (ents ((was.take i).filter fun e => !(inB p e.path))), fun _ _ _ x _ => ((l2 : Int) - x).toNat, ⟨0, rfl, by omega, OwnR.nil _ _ (Ext.refl h8)⟩, ?_⟩
  rintro h9 a11 l11 c11 _ ⟨i, rfl, hi, o9⟩
  have x9 := o9.ext
  have ol := o9.len
  rw [ents_len] at ol
  unfold F6_b4
  refine br_of (fun gi => ?_) (fun gi => ?_)
  · have hil : i < l2 := by
      have : (i : Int) < (l2 : Int) := by simpa using gi
      omega
    have e1 : was[i]? = some (was[i]'(by omega)) := List.getElem?_eq_getElem (by omega)
    generalize was[i]'(by omega) = f at e1
    obtain ⟨q, eq, _, c0, c1, c2', c3⟩ := ent_get ((o2.grow (x38.trans x9)).rows) e1
    have room : l11 ≤ l2 := by
      rw [← ol, ← hlw]
      exact Nat.le_trans (List.length_filter_le _ _) (by rw [List.length_take]; omega)
    unfold F6_k5
    refine ⟨q, eq, by omega, by omega, f.path, by rw [Int.toNat_natCast]; exact c0, HEnt.use (in_ok p f.path (by omega) h9) ?_⟩
    rintro _ h10 ⟨rfl, rfl⟩
    have hib : inP (lst p) (lst f.path) = inB p f.path := rfl
    rw [hib]
    refine ⟨_, rfl, br_of (fun gb => ?_) (fun gb => ?_)⟩
    · have gb : inB p f.path = false := by simpa using gb
      refine ⟨q, eq, by omega, by omega, f.path, f.kind, f.mode, f.body, by rw [Int.toNat_natCast]; exact c0, by rw [Int.toNat_natCast]; exact c1, by rw [Int.toNat_natCast]; exact c2', by rw [Int.toNat_natCast]; exact c3, rfl, rfl, by decide, newK_intro fun h11 hb11 x11 z11 => ?_⟩
      refine own_app (e := f) (o9.grow x11) hb11 (by omega) fun a12 c12 h12 o12 k12 => ?_
      unfold F6_k6
      rw [wrapS i l2 hil (by omega)]
      refine ⟨⟨i + 1, rfl, by omega, ?_⟩, lessS i l2 hil⟩
      rw [take_snoc e1, List.filter_append]
      simpa [gb] using o12
    · have gb : inB p f.path = true := by simpa using gb
      unfold F6_k6
      rw [wrapS i l2 hil (by omega)]
      refine ⟨⟨i + 1, rfl, by omega, ?_⟩, lessS i l2 hil⟩
      rw [take_snoc e1, List.filter_append]
      simpa [gb] using o9
  · have hil : i = l2 := by
      have : ¬ (i : Int) < (l2 : Int) := by simpa using gi
      omega
    subst hil
    rw [List.take_of_length_le (by omega)] at o9
    have hl8 := o8.len
    rw [ents_len] at hl8
    unfold F6_k7
    refine HEnt.use (same_ok a8 l8 c8 _ a11 l11 c11 _ h9 (o8.grow x9).rows o9.rows (by omega)) ?_
    rintro _ h10 ⟨⟨b, rfl, hb⟩, rfl⟩
    exact ⟨b, rfl, br_of (fun _ => works_yes (x8.trans x9) hm) (fun e => by rw [hb.2 rfl] at e; cases e)⟩
end Go.Proofs.YtcfegbpoailbdaaDoor
