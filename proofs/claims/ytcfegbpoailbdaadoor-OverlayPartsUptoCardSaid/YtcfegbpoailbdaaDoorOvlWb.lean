import Derived.Test.YtcfegbpoailbdaaDoorOvlWa
import Derived.Test.YtcfegbpoailbdaaDoorOvlRb

namespace Go.Proofs.YtcfegbpoailbdaaDoor
open Go.Vc Go.Sha Go.Trail Go.Lay
set_option linter.unusedVariables false
set_option linter.unusedSimpArgs false
set_option maxRecDepth 20000
/-- how many entries a map has -/
theorem MapS.len {h : Heap} {r : Nat} {S : Sta} (m : MapS h r S) {es : List EntV} (o : ∀ p e, S p = some e → e.path = p) (l : Lists S es) {K : Value → Heap → Prop} (hK : K (.int .i64 ((es.length : Nat) : Int)) h) :
    semK Tryd.prog (Builtin.len_ #[55] 3 #[.map (some r)]) h K := by
  obtain ⟨kvs, m0, l0⟩ := m
  have hk := m0.keys
  have hes : (es.map EntV.path).Nodup := by
    rw [List.Nodup, List.pairwise_map]
    refine l.1.imp fun {e f} hef e2 => ?_
    rw [e2] at hef
    exact ltP_irr _ hef
  have h1 : (kvs.map Prod.fst).length ≤ (es.map EntV.path).length := nodup_len hk fun p hp => by
    obtain ⟨⟨q, v⟩, hq, rfl⟩ := List.mem_map.1 hp
    have h2 := mem_lookA hk hq
    rw [l0] at h2
    cases hs : S q with
    | none => rw [hs] at h2; cases h2
    | some e =>
      have hep := o _ _ hs
      exact List.mem_map.2 ⟨e, (l.2 e).2 (by rw [hep]; exact hs), hep⟩
  have h2 : (es.map EntV.path).length ≤ (kvs.map Prod.fst).length := nodup_len hes fun p hp => by
    obtain ⟨e, he, rfl⟩ := List.mem_map.1 hp
    have h3 := (l.2 e).1 he
    have h4 : lookA kvs e.path = some (eV e) := by rw [l0, h3]; rfl
    exact List.mem_map_of_mem (f := Prod.fst) (lookA_mem h4)
  rw [List.length_map, List.length_map] at h1 h2
  obtain ⟨⟨ms, clock, hb, he, _⟩, _, _⟩ := m0
  have h3 := congrArg List.length he
  rw [List.length_map, List.length_map, Array.length_toList] at h3
  rintro w rfl
  refine ⟨_, w, ?_, Kin.refl w, hK⟩
  unfold Builtin.len_
  simp only [Sem.run_bind, run_und Tryd.underlying55, Result.andThen_ok, run_getM hb, Sem.run_pure, goInt, List.getElem?_toArray, List.getElem?_cons_zero]
  rw [h3, show kvs.length = es.length by omega]
theorem by_ok (a : Option Addr) (l c : Nat) (es : List EntV) (h : Heap) (w : Tab 4 h a l c (ents es)) (pw : es.Pairwise fun e f => ltP e.path f.path) (hl : l < 2 ^ 40) :
    HEnt Tryd.prog 36 #[.slice a l c] h fun v h' => ∃ r, v = .map (some r) ∧ MapS h' r (stS es) ∧ h.size ≤ r ∧ Ext h h' := by
  have hlen := w.len
  rw [ents_len] at hlen
  refine F36_ent _ _ _ _ _ ?_
  unfold F36
  refine newK_intro fun h1 hb1 x1 z1 => ?_
  refine ⟨fun x hh => ∃ i : Nat, x = i ∧ i ≤ l ∧ Ext h hh ∧ MapS hh h.size (stS (es.take i)), fun x _ => ((l : Int) - x).toNat, ⟨0, rfl, by omega, x1, MapS.new hb1⟩, ?_⟩
  rintro h2 _ ⟨i, rfl, hi, x2, m2⟩
  unfold F36_b1
  refine br_of (fun gi => ?_) (fun gi => ?_)
  rotate_left
  · have hil : i = l := by
      have : ¬ (i : Int) < (l : Int) := by simpa using gi
      omega
    rw [List.take_of_length_le (by omega)] at m2
    unfold F36_k3
    exact ⟨_, rfl, m2, Nat.le_refl _, x2⟩
  have hil : i < l := by
    have : (i : Int) < (l : Int) := by simpa using gi
    omega
  have e1 : es[i]? = some (es[i]'(by omega)) := List.getElem?_eq_getElem (by omega)
  generalize es[i]'(by omega) = f at e1
  obtain ⟨q, eq, _, c0, c1, c2, c3⟩ := ent_get (w.grow x2) e1
  unfold F36_k2
  refine ⟨q, eq, by omega, by omega, f.path, f.kind, f.mode, f.body, by rw [Int.toNat_natCast]; exact c0, by rw [Int.toNat_natCast]; exact c1, by rw [Int.toNat_natCast]; exact c2, by rw [Int.toNat_natCast]; exact c3, rfl, newK_intro fun h3 hb3 x3 z3 => ?_⟩
  refine storeK_whole (vs := entA f) hb3 rfl zeroC38 (entA_one f) fun h4 hb4 o4 => ?_
  have x24 : Ext h2 h4 := Keep.since x3 (o4.keep rfl : Keep (· = h2.size) h3 h4) fun j hj e => by omega
  have ec := ent_cells hb4
  refine ⟨f.path, ec.1, f.path, f.kind, f.mode, f.body, ec.1, ec.2.1, ec.2.2.1, ec.2.2.2, rfl, ?_⟩
  refine (m2.grow x24).upd f.path f fun h5 m5 o5 => ?_
  rw [wrapS i l hil (by omega)]
  refine ⟨⟨i + 1, rfl, by omega, Keep.since (x2.trans x24) (o5.keep (S := (· = h.size)) rfl) (fun k hk e => by omega), m5.congr fun p => ?_⟩, lessS i l hil⟩
  unfold stS
  rw [take_snoc e1, List.find?_append]
  by_cases hp : p = f.path
  · rw [if_pos hp]
    have hn : (es.take i).find? (fun e => decide (e.path = p)) = none := by
      rw [List.find?_eq_none]
      intro e he
      have hm := List.pairwise_append.1 (by rw [← take_snoc e1]; exact pw.sublist (List.take_sublist _ _) : ((es.take i) ++ [f]).Pairwise fun e f => ltP e.path f.path)
      have := hm.2.2 e he f (by simp)
      simp only [decide_eq_true_eq]
      intro e2
      rw [e2, hp] at this
      exact ltP_irr _ this
    rw [hn, Option.none_or, List.find?_cons_of_pos (by simp [hp])]
  · rw [if_neg hp, List.find?_cons_of_neg (by simpa using fun e => hp e.symm)]
    simp
theorem fit_lt {es : List EntV} {m : Nat} (hf : ∀ j, j < m → fitE es j) : ∀ n i, i + n + 1 < m → lexK (pa es i) (pa es (i + n + 1)) = true := by
  intro n
  induction n with
  | zero => intro i hi; exact (hf (i + 1) hi).2.2.1 (by omega)
  | succ n ih =>
    intro i hi
    exact lexK_trans _ _ _ (ih i (by omega)) ((hf (i + (n + 1) + 1) hi).2.2.1 (by omega))
theorem fit_one {es : List EntV} {m i j : Nat} (hf : ∀ j, j < m → fitE es j) (hi : i < m) (hj : j < m) (h : pa es i = pa es j) : i = j := by
  rcases Nat.lt_trichotomy i j with hij | rfl | hij
  · have := fit_lt hf (j - i - 1) i (by omega)
    rw [show i + (j - i - 1) + 1 = j by omega, h, lexK_irr] at this; cases this
  · rfl
  · have := fit_lt hf (i - j - 1) j (by omega)
    rw [show j + (i - j - 1) + 1 = i by omega, h, lexK_irr] at this; cases this
open Classical in
theorem refTree_ok (a : Option Addr) (l c : Nat) (es : List EntV) (h : Heap) (w : Tab 4 h a l c (ents es)) (hs : Small es) (hl : l < 2 ^ 40) :
    HEnt Tryd.prog 37 #[.slice a l c] h fun v h' => v = .bool (decide (treeP es)) ∧ Ext h h' := by
  have hlen := w.len
  rw [ents_len] at hlen
  refine F37_ent _ _ _ _ _ ?_
  unfold F37
  refine ⟨fun x hh => ∃ i : Nat, x = i ∧ i ≤ l ∧ Ext h hh ∧ ∀ j, j < i → fitE es j, fun x _ => ((l : Int) - x).toNat, ⟨0, rfl, by omega, Ext.refl h, fun j hj => by omega⟩, ?_⟩
  rintro h3 _ ⟨i, rfl, hi, x3, hfit⟩
  unfold F37_b1
  refine br_of (fun gi => ?_) (fun gi => ?_)
  rotate_left
  · have hil : i = l := by
      have : ¬ (i : Int) < (l : Int) := by simpa using gi
      omega
    unfold F37_k9
    refine ⟨?_, x3⟩
    rw [decide_eq_true (show treeP es from fun j hj => hfit j (by omega))]
  have hil : i < l := by
    have : (i : Int) < (l : Int) := by simpa using gi
    omega
  have e1 := en_get (es := es) (i := i) (by omega)
  obtain ⟨q, eq, _, c0, c1, c2, c3⟩ := ent_get (w.grow x3) e1
  have sme := hs _ (List.mem_of_getElem? e1)
  have bad : ¬ fitE es i → ∀ h', Ext h h' → (Value.bool false = Value.bool (decide (treeP es)) ∧ Ext h h') := fun hn h' x => by
    refine ⟨?_, x⟩
    rw [decide_eq_false (fun t => hn (t i (by omega)))]
  have pae : pa es i = lst (en es i).path := rfl
  have hgive : ∀ e, en es i = e → (fitE es i ↔ (e.kind = 1 ∨ e.kind = 2) ∧ stA e = 0 ∧ (0 < i → lexK (pa es (i - 1)) (lst e.path) = true) ∧ dirAt es i (upL (lst e.path)).1) := fun e he => by
    subst he; exact Iff.rfl
  have hfe := hgive _ rfl
  generalize hen : en es i = e at *
  unfold F37_k2
  refine ⟨q, eq, by omega, by omega, e.path, e.kind, e.mode, e.body, by rw [Int.toNat_natCast]; exact c0, by rw [Int.toNat_natCast]; exact c1, by rw [Int.toNat_natCast]; exact c2, by rw [Int.toNat_natCast]; exact c3, rfl, rfl, by decide, newK_intro fun h4 hb4 x4 z4 => ?_⟩
  have x04 := x3.trans x4
  refine HEnt.use (refCheck_ok _ 1 1 [e] h4 (one_tab hb4) (fun f hf => by rw [List.mem_singleton] at hf; subst hf; exact sme) (by decide)) ?_
  rintro _ h5 ⟨rfl, x5⟩
  have x05 := x04.trans x5
  have c1' := check_one e
  -- behind the first three asks
  have k4 : (e.kind = 1 ∨ e.kind = 2) → stA e = 0 → F37_k4 (fun x hh => ∃ i : Nat, x = i ∧ i ≤ l ∧ Ext h hh ∧ ∀ j, j < i → fitE es j) (fun x _ => ((l : Int) - x).toNat) ((l : Int) - (i : Int)).toNat a l c i h5 fun v h' => v = .bool (decide (treeP es)) ∧ Ext h h' := by
    intro hk hst
    have k6 : ∀ h6, Ext h h6 → (0 < i → lexK (pa es (i - 1)) (lst e.path) = true) → F37_k6 (fun x hh => ∃ i : Nat, x = i ∧ i ≤ l ∧ Ext h hh ∧ ∀ j, j < i → fitE es j) (fun x _ => ((l : Int) - x).toNat) ((l : Int) - (i : Int)).toNat a l c i h6 fun v h' => v = .bool (decide (treeP es)) ∧ Ext h h' := by
      intro h6 x6 hord
      obtain ⟨q2, eq2, _, d0, _⟩ := ent_get (w.grow x6) e1
      have hul := lst_str _ (up_lt (lst e.path))
      have hcap := w.cap
      unfold F37_k6
      refine ⟨q2, eq2, by omega, by omega, e.path, by rw [Int.toNat_natCast]; exact d0, HEnt.use (refUp_ok e.path (by omega) h6) ?_⟩
      rintro _ h7 ⟨rfl, x7⟩
      have x07 := x6.trans x7
      have wt := (w.grow x07).take i hi
      have hte : (ents es).take i = ents (es.take i) := by unfold ents; rw [List.map_take]
      rw [hte] at wt
      refine ⟨_, _, rfl, by omega, by omega, by omega, ?_⟩
      rw [cutAt0, Int.toNat_natCast, Nat.sub_zero, Nat.sub_zero]
      refine HEnt.use (has_ok a i c (es.take i) (str (upL (lst e.path)).1) h7 wt (by omega)) ?_
      rintro _ h8 ⟨rfl, x, rfl, hx⟩
      refine ⟨x, rfl, ?_⟩
      have good_ : dirAt es i (upL (lst e.path)).1 → F37_k7 (fun x hh => ∃ i : Nat, x = i ∧ i ≤ l ∧ Ext h hh ∧ ∀ j, j < i → fitE es j) (fun x _ => ((l : Int) - x).toNat) ((l : Int) - (i : Int)).toNat a l c i false h8 fun v h' => v = .bool (decide (treeP es)) ∧ Ext h h' := by
        intro hd
        unfold F37_k7
        refine br_of (fun e => by cases e) (fun _ => ?_)
        unfold F37_k8
        rw [wrapS i l hil (by omega)]
        refine ⟨⟨i + 1, rfl, by omega, x07, fun j hj => ?_⟩, lessS i l hil⟩
        by_cases e2 : j = i
        · subst e2; exact hfe.2 ⟨hk, hst, hord, hd⟩
        · exact hfit j (by omega)
      have bad_ : ¬ dirAt es i (upL (lst e.path)).1 → F37_k7 (fun x hh => ∃ i : Nat, x = i ∧ i ≤ l ∧ Ext h hh ∧ ∀ j, j < i → fitE es j) (fun x _ => ((l : Int) - x).toNat) ((l : Int) - (i : Int)).toNat a l c i true h8 fun v h' => v = .bool (decide (treeP es)) ∧ Ext h h' := by
        intro hd
        unfold F37_k7
        exact br_of (fun _ => bad (fun f => hd (hfe.1 f).2.2.2) h8 x07) (fun e => by cases e)
      rw [seq_nil, hul]
      refine br_of (fun g => ?_) (fun g => good_ (.inl (by simpa using g)))
      have hu : (upL (lst e.path)).1 ≠ [] := by simpa using g
      rcases hx with ⟨rfl, hx⟩ | ⟨j, f, rfl, ej, hfp, hx⟩
      · refine br_of (fun _ => bad_ ?_) (fun e => by simp at e)
        rintro (h9 | ⟨j, hj, h9, _⟩)
        · exact hu h9
        · refine hx (en es j) ?_ ?_
          · have : (es.take i)[j]? = some (en es j) := by rw [List.getElem?_take_of_lt hj]; exact en_get (by omega)
            exact List.mem_of_getElem? this
          · apply lst_inj; rw [hul, ← h9]; rfl
      · have hji : j < i := by
          have := (List.getElem?_eq_some_iff.1 ej).1
          rw [List.length_take] at this; omega
        have hfj : f = en es j := by
          rw [List.getElem?_take_of_lt hji, en_get (by omega)] at ej
          exact (Option.some.inj ej).symm
        have hpj : pa es j = (upL (lst e.path)).1 := by
          show lst (en es j).path = _
          rw [← hfj, hfp, hul]
        obtain ⟨q3, eq3, _, g0, g1, _⟩ := ent_get (w.grow x07) (en_get (es := es) (i := j) (by omega))
        refine br_of (fun e => ?_) (fun _ => ⟨q3, eq3, by omega, by omega, (en es j).kind, by rw [Int.toNat_natCast]; exact g1, ?_⟩)
        · have : (j : Int) < 0 := by simpa using e
          omega
        by_cases k2 : (en es j).kind = 2
        · rw [show ((en es j).kind != 2) = false by simp [k2]]
          exact good_ (.inr ⟨j, hji, hpj, k2⟩)
        · rw [show ((en es j).kind != 2) = true by simp [k2]]
          refine bad_ ?_
          rintro (h9 | ⟨j2, hj2, h9, h10⟩)
          · exact hu h9
          · have := fit_one hfit hj2 hji (h9.trans hpj.symm)
            subst this
            exact k2 h10
    have k5 : ∀ h6 b, Ext h h6 → (b = false → 0 < i → lexK (pa es (i - 1)) (lst e.path) = true) → (b = true → ¬ fitE es i) → F37_k5 (fun x hh => ∃ i : Nat, x = i ∧ i ≤ l ∧ Ext h hh ∧ ∀ j, j < i → fitE es j) (fun x _ => ((l : Int) - x).toNat) ((l : Int) - (i : Int)).toNat a l c i b h6 fun v h' => v = .bool (decide (treeP es)) ∧ Ext h h' := by
      intro h6 b x6 hb1 hb2
      unfold F37_k5
      exact br_of (fun g => bad (hb2 g) h6 x6) (fun g => k6 h6 x6 (hb1 g))
    unfold F37_k4
    refine br_of (fun g => ?_) (fun g => ?_)
    rotate_left
    · have : ¬ (i : Int) > 0 := by simpa using g
      intro h6 x6
      exact k5 h6 false (x05.trans x6) (fun _ h0 => by omega) (fun e => by cases e)
    have hi0 : 0 < i := by
      have : (i : Int) > 0 := by simpa using g
      omega
    have ew : IntKind.i64.wrap ((i : Int) - 1) = ((i - 1 : Nat) : Int) := by rw [i64_lt _ (by omega) (by omega)]; omega
    have e2 := en_get (es := es) (i := i - 1) (by omega)
    obtain ⟨q2, eq2, _, d0, _⟩ := ent_get (w.grow x05) e2
    obtain ⟨q3, eq3, _, d3, _⟩ := ent_get (w.grow x05) e1
    have sme2 := hs _ (List.mem_of_getElem? e2)
    rw [ew]
    refine ⟨q2, eq2, by omega, by omega, (en es (i - 1)).path, by rw [Int.toNat_natCast]; exact d0, q3, eq3, by omega, by omega, e.path, by rw [Int.toNat_natCast]; exact d3, lexK (pa es (i - 1)) (lst e.path), fun h6 x6 => (refLess_ok (en es (i - 1)).path e.path (by omega) (by omega) h6).mono ?_, fun h6 x6 => ?_⟩
    · rintro v h7 ⟨rfl, x7⟩
      exact ⟨rfl, x7⟩
    · refine k5 h6 _ (x05.trans x6) (fun g2 _ => by simpa using g2) (fun g2 f => ?_)
      have := (hfe.1 f).2.2.1 hi0
      rw [this] at g2; cases g2
  have k3 : ∀ b, (b = true → ¬ fitE es i) → (b = false → (e.kind = 1 ∨ e.kind = 2) ∧ stA e = 0) → F37_k3 (fun x hh => ∃ i : Nat, x = i ∧ i ≤ l ∧ Ext h hh ∧ ∀ j, j < i → fitE es j) (fun x _ => ((l : Int) - x).toNat) ((l : Int) - (i : Int)).toNat a l c i b h5 fun v h' => v = .bool (decide (treeP es)) ∧ Ext h h' := by
    intro b hb1 hb2
    unfold F37_k3
    exact br_of (fun g => bad (hb1 g) h5 x05) (fun g => k4 (hb2 g).1 (hb2 g).2)
  refine ⟨_, _, rfl, br_of (fun g => k3 true (fun _ f => ?_) (fun e => by cases e)) (fun g => ?_)⟩
  · have : ((checkC [e]).2 : Int) ≠ 0 := by simpa using g
    exact this (by rw [c1'.2 (hfe.1 f).2.1]; rfl)
  have hst : stA e = 0 := by
    have : ((checkC [e]).2 : Int) = 0 := by simpa using g
    exact c1'.1 (by omega)
  have hk := stA_kind hst
  obtain ⟨q2, eq2, _, d0, d1, _⟩ := ent_get (w.grow x05) e1
  refine ⟨q2, eq2, by omega, by omega, e.kind, by rw [Int.toNat_natCast]; exact d1, k3 _ (fun g2 f => ?_) (fun g2 => ⟨?_, hst⟩)⟩
  · have g2 : e.kind > 2 := by simpa using g2
    have := (hfe.1 f).1
    omega
  · have g2 : ¬ e.kind > 2 := by simpa using g2
    omega
end Go.Proofs.YtcfegbpoailbdaaDoor
