import Derived.Test.YtcfegbpoailbdaaDoorOvlP

namespace Go.Proofs.YtcfegbpoailbdaaDoor
open Go.Vc Go.Sha Go.Trail Go.Lay
set_option linter.unusedVariables false
set_option linter.unusedSimpArgs false
set_option maxRecDepth 20000
def rootE : EntV := ⟨ByteArray.empty, 2, 0, ByteArray.empty⟩
/-- what is at a text's path -/
def lookC (es : List EntV) (s : ByteArray) : EntV × Nat :=
  if (clean (lst s)).2 ≠ 0 then (e0, (clean (lst s)).2) else if (clean (lst s)).1 = [] then (rootE, 0) else
  match es.find? (fun e => decide (lst e.path = (clean (lst s)).1)) with
  | some e => (e, 0)
  | none => (e0, 9)
theorem lookup_ok (a : Option Addr) (l c : Nat) (es : List EntV) (s : ByteArray) (hsz : s.size < 2 ^ 30) (h : Heap) (w : Tab 4 h a l c (ents es)) (hl : l < 2 ^ 40) (hm : MaxAt h) :
    HEnt Tryd.prog 19 #[.slice a l c, .string s] h fun v h' => v = .tuple #[eV (lookC es s).1, .int .i64 (((lookC es s).2 : Nat) : Int)] ∧ Ext h h' := by
  have hlen := w.len
  rw [ents_len] at hlen
  refine F19_ent _ _ _ _ _ _ ?_
  unfold F19
  refine newK_intro fun h1 hb1 x1 z1 => HEnt.use (clean_ok s hsz h1 (hm.ext x1)) ?_
  rintro _ h2 ⟨rfl, x2⟩
  have hb2 := x2.blk hb1
  have x02 := x1.trans x2
  have clt := clean_lt (lst s)
  refine ⟨_, _, rfl, br_of (fun g => ?_) (fun g => ?_)⟩
  · have g : (clean (lst s)).2 ≠ 0 := by
      have : ((clean (lst s)).2 : Int) ≠ 0 := by simpa using g
      omega
    refine storeK_whole (vs := entA e0) hb2 rfl zeroC38 (entA_one e0) fun h3 hb3 o3 => ?_
    have ec := ent_cells hb3
    refine ⟨_, _, _, _, ec.1, ec.2.1, ec.2.2.1, ec.2.2.2, rfl, ?_, Keep.since x02 (o3.keep rfl : Keep (· = h.size) h2 h3) fun j hj e => by omega⟩
    unfold lookC
    rw [if_pos g]; rfl
  have g : (clean (lst s)).2 = 0 := by
    have : ((clean (lst s)).2 : Int) = 0 := by simpa using g
    omega
  unfold F19_k1
  rw [seq_nil, lst_str _ clt]
  refine br_of (fun g2 => ?_) (fun g2 => ?_)
  · have g2 : (clean (lst s)).1 = [] := by simpa using g2
    refine storeK_whole (vs := entA rootE) hb2 rfl zeroC38 (entA_one rootE) fun h3 hb3 o3 => ?_
    have ec := ent_cells hb3
    refine ⟨_, _, _, _, ec.1, ec.2.1, ec.2.2.1, ec.2.2.2, rfl, ?_, Keep.since x02 (o3.keep rfl : Keep (· = h.size) h2 h3) fun j hj e => by omega⟩
    unfold lookC
    rw [if_neg (by omega), if_pos g2]; rfl
  have g2 : (clean (lst s)).1 ≠ [] := by simpa using g2
  have hlk : lookC es s = match es.find? (fun e => decide (lst e.path = (clean (lst s)).1)) with | some e => (e, 0) | none => (e0, 9) := by
    unfold lookC; rw [if_neg (by omega), if_neg g2]
  unfold F19_k2
  refine ⟨fun x hh => ∃ i : Nat, x = i ∧ i ≤ l ∧ Ext h2 hh ∧ ∀ e ∈ es.take i, lst e.path ≠ (clean (lst s)).1, fun x _ => ((l : Int) - x).toNat, ⟨0, rfl, by omega, Ext.refl _, by simp⟩, ?_⟩
  rintro h3 _ ⟨i, rfl, hi, x3, hn⟩
  have x03 := x02.trans x3
  unfold F19_b3
  refine br_of (fun gi => ?_) (fun gi => ?_)
  · have hil : i < l := by
      have : (i : Int) < (l : Int) := by simpa using gi
      omega
    have e1 : es[i]? = some (es[i]'(by omega)) := List.getElem?_eq_getElem (by omega)
    generalize es[i]'(by omega) = f at e1
    obtain ⟨q, eq, _, c0, c1, c2, c3⟩ := ent_get (w.grow x03) e1
    unfold F19_k4
    refine ⟨q, eq, by omega, by omega, f.path, f.kind, f.mode, f.body, by rw [Int.toNat_natCast]; exact c0, by rw [Int.toNat_natCast]; exact c1, by rw [Int.toNat_natCast]; exact c2, by rw [Int.toNat_natCast]; exact c3, rfl, newK_intro fun h4 hb4 x4 z4 => ?_⟩
    refine storeK_whole (vs := entA f) hb4 rfl zeroC38 (entA_one f) fun h5 hb5 o5 => ?_
    have x35 : Ext h3 h5 := Keep.since x4 (o5.keep rfl : Keep (· = h3.size) h4 h5) fun j hj e => by omega
    have ec := ent_cells hb5
    refine ⟨f.path, ec.1, ?_⟩
    rw [seq_lst, lst_str _ clt]
    refine br_of (fun g3 => ?_) (fun g3 => ?_)
    · have g3 : lst f.path = (clean (lst s)).1 := by simpa using g3
      have hbq := (x3.trans x35).blk hb2
      refine ⟨_, _, _, _, ec.1, ec.2.1, ec.2.2.1, ec.2.2.2, rfl, ?_⟩
      refine storeK_whole (vs := entA f) hbq rfl zeroC38 (entA_one f) fun h6 hb6 o6 => ?_
      have ec6 := ent_cells hb6
      refine ⟨_, _, _, _, ec6.1, ec6.2.1, ec6.2.2.1, ec6.2.2.2, rfl, ?_, Keep.since (x03.trans x35) (o6.keep rfl : Keep (· = h.size) h5 h6) fun j hj e => by omega⟩
      have hfind : es.find? (fun e => decide (lst e.path = (clean (lst s)).1)) = some f := by
        rw [← List.take_append_drop i es, List.find?_append, List.find?_eq_none.2 (fun e he => by simpa using hn e he), Option.none_or]
        have : es.drop i = f :: es.drop (i + 1) := by
          rw [List.drop_eq_getElem_cons (by omega)]
          rw [List.getElem?_eq_getElem (by omega)] at e1
          rw [Option.some.inj e1]
        rw [this, List.find?_cons_of_pos (by simpa using g3)]
      rw [hlk, hfind]; rfl
    · have g3 : lst f.path ≠ (clean (lst s)).1 := by simpa using g3
      unfold F19_k5
      rw [wrapS i l hil (by omega)]
      refine ⟨⟨i + 1, rfl, by omega, x3.trans x35, fun e he => ?_⟩, lessS i l hil⟩
      rw [take_snoc e1, List.mem_append, List.mem_singleton] at he
      rcases he with he | rfl
      · exact hn e he
      · exact g3
  · have hil : i = l := by
      have : ¬ (i : Int) < (l : Int) := by simpa using gi
      omega
    rw [List.take_of_length_le (by omega)] at hn
    unfold F19_k6
    refine storeK_whole (vs := entA e0) (x3.blk hb2) rfl zeroC38 (entA_one e0) fun h4 hb4 o4 => ?_
    have ec := ent_cells hb4
    refine ⟨_, _, _, _, ec.1, ec.2.1, ec.2.2.1, ec.2.2.2, rfl, ?_, Keep.since x03 (o4.keep rfl : Keep (· = h.size) h3 h4) fun j hj e => by omega⟩
    rw [hlk, List.find?_eq_none.2 (fun e he => by simpa using hn e he)]
    rfl
theorem lists_find {S : Sta} {es : List EntV} (o : StOK S) (h : Lists S es) (p : ByteArray) : es.find? (fun e => decide (lst e.path = lst p)) = S p := by
  cases hs : S p with
  | some e =>
    have hep := o.path _ _ hs
    have hm := (h.2 e).2 (by rw [hep]; exact hs)
    cases hf : es.find? (fun e => decide (lst e.path = lst p)) with
    | none =>
      rw [List.find?_eq_none] at hf
      exact absurd (show decide (lst e.path = lst p) = true by rw [hep]; simp) (hf e hm)
    | some f =>
      have h1 := (h.2 f).1 (List.mem_of_find?_eq_some hf)
      have h2 : lst f.path = lst p := by simpa using List.find?_some hf
      rw [lst_inj h2, hs] at h1
      rw [Option.some.inj h1]
  | none =>
    rw [List.find?_eq_none]
    intro e he hd
    have h2 : lst e.path = lst p := by simpa using hd
    have h1 := (h.2 e).1 he
    rw [lst_inj h2, hs] at h1; cases h1
/-- what the layer on top has is seen so -/
theorem top_law {stk : List (List EntV)} {top : List EntV} {es : List EntV} (g : ∀ l ∈ stk ++ [top], Good l) (h : Lists (topS (stk ++ [top])) es) {e : EntV} (he : e ∈ top) : lookC es e.path = if e.kind = 3 then (e0, 9) else (unB e, 0) := by
  have gt := g top (by simp)
  have hpk := stA_path (gt.2.1 e he)
  have o := top_ok g
  have hcl := clean_good hpk.2
  unfold lookC
  rw [hcl, if_neg (by simp), if_neg hpk.1]
  show (match es.find? (fun f => decide (lst f.path = lst e.path)) with | some e => (e, 0) | none => (e0, 9)) = _
  rw [lists_find o h, top_seen g hpk.1, seenS_app]
  show (match stepL (seenS stk) top e.path with | some e => (e, 0) | none => (e0, 9)) = _
  have hf : top.find? (fun f => decide (f.path = e.path)) = some e := by
    cases hf : top.find? (fun f => decide (f.path = e.path)) with
    | none =>
      rw [List.find?_eq_none] at hf
      exact absurd (show decide (e.path = e.path) = true by simp) (hf e he)
    | some f =>
      have h1 : f.path = e.path := by simpa using List.find?_some hf
      have hm := List.mem_of_find?_eq_some hf
      congr 1
      obtain ⟨i, hi, rfl⟩ := List.mem_iff_getElem.1 hm
      obtain ⟨j, hj, rfl⟩ := List.mem_iff_getElem.1 he
      have hp := List.pairwise_iff_getElem.1 gt.2.2
      rcases Nat.lt_trichotomy i j with hij | rfl | hij
      · have := (hp i j hi hj hij).1
        rw [h1, lexK_irr] at this; cases this
      · rfl
      · have := (hp j i hj hi hij).1
        rw [h1, lexK_irr] at this; cases this
  unfold stepL
  rw [hf]
  by_cases k3 : e.kind = 3
  · simp [k3]
  · simp [k3]
theorem tops_ok (a : Option Addr) (l c : Nat) (stk : List (List EntV)) (hs : List HdE) (a1 : Option Addr) (l1 c1 : Nat) (top : List EntV) (h : Heap) (t : StackE h a l c stk hs) (w : Tab 4 h a1 l1 c1 (ents top)) (sm : Small top) (hm : MaxAt h) :
    HEnt Tryd.prog 7 #[.slice a l c, .slice a1 l1 c1] h (yes h) := by
  have hl := t.length
  have hl1 := w.len
  rw [ents_len] at hl1
  refine F7_ent _ _ _ _ _ _ _ _ ?_
  unfold F7
  refine HEnt.use (few_ok a l c stk hs h t) ?_
  rintro _ h1 ⟨rfl, rfl⟩
  have k1 : F7_k1 a l c a1 l1 c1 true h1 (yes h1) := by
    unfold F7_k1
    exact br_of (fun _ => works_yes (Ext.refl h1) hm) (fun e => by cases e)
  refine ⟨_, rfl, br_of (fun _ => k1) (fun hf => br_of (fun _ => k1) (fun g16 => ?_))⟩
  have g16 : l < 16 := by
    have : ¬ (l : Int) ≥ 16 := by simpa using g16
    omega
  unfold F7_k1
  refine br_of (fun _ => works_yes (Ext.refl h1) hm) (fun g70 => ?_)
  have g70 : l1 ≤ 70 := by
    have : ¬ (l1 : Int) > 70 := by simpa using g70
    omega
  unfold F7_k2
  refine own_merge a l c stk [top] hs [⟨a1, l1, c1⟩] 1 h1 t (by omega) hm rfl rfl (by decide) (fun i es d e1 e2 => ?_) rfl fun a2 l2 c2 es e h2 mr o2 => ?_
  · match i, e1, e2 with
    | 0, e1, e2 => cases e1; cases e2; exact ⟨sm, (by show l1 < 2 ^ 40; omega), w⟩
  have x2 := o2.ext
  refine br_of (fun _ => works_yes x2 hm) (fun ge => ?_)
  have ge : (e : Int) = 0 := by simpa using ge
  obtain ⟨ga, la⟩ : (∀ l ∈ stk ++ [top], Good l) ∧ Lists (topS (stk ++ [top])) es := by
    rcases mr with ⟨_, b, _⟩ | ⟨_, _, b, _⟩ | ⟨_, b1, _, b2⟩
    · omega
    · omega
    · exact ⟨b1, b2⟩
  have tr := mr.tree
  have hle := o2.len
  rw [ents_len] at hle
  unfold F7_k3
  refine ⟨fun x hh => ∃ i : Nat, x = i ∧ i ≤ l1 ∧ Ext h2 hh, fun x _ => ((l1 : Int) - x).toNat, ⟨0, rfl, by omega, Ext.refl _⟩, ?_⟩
  rintro h3 _ ⟨i, rfl, hi, x3⟩
  have x03 := x2.trans x3
  unfold F7_b4
  refine br_of (fun gi => ?_) (fun gi => ?_)
  rotate_left
  · unfold F7_k9
    exact works_yes x03 hm
  have hil : i < l1 := by
    have : (i : Int) < (l1 : Int) := by simpa using gi
    omega
  have e1 : top[i]? = some (top[i]'(by omega)) := List.getElem?_eq_getElem (by omega)
  generalize top[i]'(by omega) = f at e1
  have hfm := List.mem_of_getElem? e1
  have hlaw := top_law ga la hfm
  have hsf := (sm f hfm).1
  have hkf := stA_kind ((ga top (by simp)).2.1 f hfm)
  obtain ⟨q, eq, _, c0, _⟩ := ent_get (w.grow x03) e1
  unfold F7_k5
  refine ⟨q, eq, by omega, by omega, f.path, by rw [Int.toNat_natCast]; exact c0, HEnt.use (lookup_ok a2 l2 c2 es f.path (by omega) h3 (o2.grow x3).rows (by omega) (hm.ext x03)) ?_⟩
  rintro _ h4 ⟨rfl, x4⟩
  generalize lookC es f.path = lk at *
  obtain ⟨xe, fe⟩ := lk
  refine ⟨xe.path, xe.kind, xe.mode, xe.body, _, rfl, newK_intro fun h5 hb5 x5 z5 => ?_⟩
  refine storeK_whole (vs := entA xe) hb5 rfl zeroC38 (entA_one xe) fun h6 hb6 o6 => ?_
  have x46 : Ext h4 h6 := Keep.since x5 (o6.keep rfl : Keep (· = h4.size) h5 h6) fun j hj e => by omega
  have x06 := (x03.trans x4).trans x46
  obtain ⟨q2, eq2, _, d0, d1, d2, d3⟩ := ent_get (w.grow x06) e1
  refine ⟨q2, eq2, by omega, by omega, f.path, f.kind, f.mode, f.body, by rw [Int.toNat_natCast]; exact d0, by rw [Int.toNat_natCast]; exact d1, by rw [Int.toNat_natCast]; exact d2, by rw [Int.toNat_natCast]; exact d3, rfl, newK_intro fun h7 hb7 x7 z7 => ?_⟩
  refine storeK_whole (vs := entA f) hb7 rfl zeroC38 (entA_one f) fun h8 hb8 o8 => ?_
  have x68 : Ext h6 h8 := Keep.since x7 (o8.keep rfl : Keep (· = h6.size) h7 h8) fun j hj e => by omega
  have hb6' := x68.blk hb6
  have lt6 := blk_lt hb6
  have ec8 := ent_cells hb8
  have k6 : ∀ (h9 : Heap), Ext h3 h9 → h9[h4.size]? = some (.cells (entA xe) 38 (0, 0)) → h9[h6.size]? = some (.cells (entA (unB f)) 38 (0, 0)) →
      F7_k6 (fun x hh => ∃ i : Nat, x = i ∧ i ≤ l1 ∧ Ext h2 hh) (fun x _ => ((l1 : Int) - x).toNat) ((l1 : Int) - (i : Int)).toNat a1 l1 c1 a2 l2 c2 (at0 h4.size) fe (at0 h6.size) l1 i h9 (yes h1) := by
    intro h9 x39 b4 b6
    have e4 := ent_cells b4
    have e6 := ent_cells b6
    have fin : F7_k7 (fun x hh => ∃ i : Nat, x = i ∧ i ≤ l1 ∧ Ext h2 hh) (fun x _ => ((l1 : Int) - x).toNat) ((l1 : Int) - (i : Int)).toNat a1 l1 c1 a2 l2 c2 l1 i false h9 (yes h1) := by
      unfold F7_k7
      refine br_of (fun e => by cases e) (fun _ => ?_)
      unfold F7_k8
      rw [wrapS i l1 hil (by omega)]
      exact ⟨⟨i + 1, rfl, by omega, x3.trans x39⟩, lessS i l1 hil⟩
    unfold F7_k6
    by_cases k3 : f.kind = 3
    · rw [if_pos k3] at hlaw
      obtain ⟨rfl, rfl⟩ := Prod.mk.inj hlaw
      have ku : (unB f).kind = 3 := by unfold unB; rw [if_neg (by omega)]; exact k3
      refine ⟨_, e6.2.1, br_of (fun _ => br_of (fun e => by cases e) (fun _ => ⟨_, e6.2.1, br_of (fun e => ?_) (fun _ => fin)⟩)) (fun e => ?_)⟩
      · rw [ku] at e; cases e
      · rw [ku] at e; cases e
    · rw [if_neg k3] at hlaw
      obtain ⟨rfl, rfl⟩ := Prod.mk.inj hlaw
      have ku := unB_kind hkf k3
      refine ⟨_, e6.2.1, br_of (fun e => ?_) (fun _ => ⟨_, e6.2.1, br_of (fun _ => br_of (fun e => by cases e) (fun _ => ?_)) (fun e => ?_)⟩)⟩
      · have : (unB f).kind = 3 := by simpa using e
        omega
      · refine ⟨_, _, _, _, e4.1, e4.2.1, e4.2.2.1, e4.2.2.2, rfl, _, _, _, _, e6.1, e6.2.1, e6.2.2.1, e6.2.2.2, rfl, true, fun w => ?_, eqg30, fin⟩
        have := run_equal_ent (unB f) (unB f) w
        rw [(eqE_iff (unB f) (unB f)).2 rfl] at this
        exact this
      · have : (unB f).kind = 3 := by simpa using e
        omega
  refine ⟨f.kind, ec8.2.1, br_of (fun g4 => ?_) (fun g4 => ?_)⟩
  · have g4 : f.kind = 4 := by simpa using g4
    rw [add_at0]
    refine storeK_one hb8 (show 1 < 4 by decide) (.inr (Nat.zero_le _)) rfl fun h9 hb9 o9 => ?_
    have x69 : Ext h6 h9 := Keep.since x68 (o9.keep rfl : Keep (· = h6.size) h8 h9) fun j hj e => by omega
    refine k6 h9 ((x4.trans x46).trans x69) ((o9.block _ (by omega)).trans hb6') ?_
    rw [show unB f = ⟨f.path, 2, f.mode, f.body⟩ by unfold unB; rw [if_pos g4]]
    exact hb9
  · have g4 : f.kind ≠ 4 := by simpa using g4
    refine k6 h8 ((x4.trans x46).trans x68) hb6' ?_
    rw [show unB f = f by unfold unB; rw [if_neg g4]]
    exact hb8
end Go.Proofs.YtcfegbpoailbdaaDoor
