import Derived.Test.YtcfegbpoailbdaaDoorOvlL
import Derived.Test.YtcfegbpoailbdaaDoorVopF
import Derived.Test.YtcfegbpoailbdaaDoorVopD

namespace Go.Proofs.YtcfegbpoailbdaaDoor
open Go.Vc Go.Sha Go.Trail Go.Lay
set_option linter.unusedVariables false
set_option linter.unusedSimpArgs false
set_option maxRecDepth 20000
def dirAt (es : List EntV) (i : Nat) (p : List Nat) : Prop := p = [] ∨ ∃ j, j < i ∧ pa es j = p ∧ (en es j).kind = 2
/-- an entry fits behind those ahead of it -/
def fitE (es : List EntV) (i : Nat) : Prop := ((en es i).kind = 1 ∨ (en es i).kind = 2) ∧ stA (en es i) = 0 ∧ (0 < i → lexK (pa es (i - 1)) (pa es i) = true) ∧ dirAt es i (upL (pa es i)).1
def treeP (es : List EntV) : Prop := ∀ i, i < es.length → fitE es i
theorem check_one (e : EntV) : (checkC [e]).2 = 0 ↔ stA e = 0 := by
  rw [good_check]
  constructor
  · intro g; exact g.2.1 e (by simp)
  · intro g
    exact ⟨by simp, fun f hf => by rw [List.mem_singleton] at hf; subst hf; exact g, by simp⟩
theorem one_tab {h : Heap} {b : Nat} {e : EntV} (hb : h[b]? = some (.cells (entA e) 38 (0, 0))) : Tab 4 h (some (at0 b)) 1 1 (ents [e]) :=
  (OwnR.new_ (el := 38) (n := 4) (h0 := #[]) (h := h) (b := b) (l := 1) (rows := ents [e]) hb ⟨Nat.zero_le _, fun k hk => by simp at hk⟩ (Nat.zero_le _) (ents_row [e]) rfl).rows
theorem zero4 : (Tryd.prog.info? 4).bind (·.zero) = some (.bool false) := by kernel_rfl
theorem str_eq {q : List Nat} {p : ByteArray} (hq : ∀ x ∈ q, x < 256) : str q = p ↔ q = lst p := by
  constructor
  · intro e; rw [← e, lst_str q hq]
  · intro e; rw [e, str_lst]
open Classical in
theorem tree_ok (a : Option Addr) (l c : Nat) (es : List EntV) (h : Heap) (w : Tab 4 h a l c (ents es)) (hs : Small es) (hl : l < 2 ^ 40) (hm : MaxAt h) :
    HEnt Tryd.prog 23 #[.slice a l c] h fun v h' => v = .bool (decide (treeP es)) ∧ Ext h h' := by
  have hlen := w.len
  rw [ents_len] at hlen
  refine F23_ent _ _ _ _ _ ?_
  unfold F23
  refine newK_intro fun h1 hb1 x1 z1 => ?_
  have m1 : MapAt Value.string (fun _ : ByteArray => True) h1 h.size [] := MapAt.new hb1
  refine semU_update keyed9 Tryd.underlying69 m1 trivial fun h2 m2 o2 => ?_
  have x2 : Ext h h2 := Keep.since x1 (o2.keep (S := (· = h.size)) rfl) fun k hk e => by omega
  refine ⟨fun x hh => ∃ (i : Nat) (kvs : List (ByteArray × Value)), x = i ∧ i ≤ l ∧ Ext h hh ∧ (∀ j, j < i → fitE es j) ∧ MapAt Value.string (fun _ : ByteArray => True) hh h.size kvs ∧ ∀ p : ByteArray, lookA kvs p = if dirAt es i (lst p) then some (.bool true) else none,
    fun x _ => ((l : Int) - x).toNat, ⟨0, _, rfl, by omega, x2, fun j hj => by omega, m2, fun p => ?_⟩, ?_⟩
  · rw [look_upd]
    have : dirAt es 0 (lst p) ↔ p = (⟨#[]⟩ : ByteArray) := by
      unfold dirAt
      constructor
      · rintro (e | ⟨j, hj, _⟩)
        · exact lst_inj e
        · omega
      · rintro rfl; exact .inl rfl
    by_cases hp : p = (⟨#[]⟩ : ByteArray)
    · rw [if_pos hp, if_pos (this.2 hp)]
    · rw [if_neg hp, if_neg (fun hh => hp (this.1 hh))]; rfl
  rintro h3 _ ⟨i, kvs, rfl, hi, x3, hfit, m3, lk⟩
  unfold F23_b1
  refine br_of (fun gi => ?_) (fun gi => ?_)
  rotate_left
  · have hil : i = l := by
      have : ¬ (i : Int) < (l : Int) := by simpa using gi
      omega
    unfold F23_k9
    refine ⟨?_, x3⟩
    rw [decide_eq_true (show treeP es from fun j hj => hfit j (by omega))]
  have hil : i < l := by
    have : (i : Int) < (l : Int) := by simpa using gi
    omega
  have e1 := en_get (es := es) (i := i) (by omega)
  obtain ⟨q, eq, _, c0, c1, c2, c3⟩ := ent_get (w.grow x3) e1
  have sme := hs _ (List.mem_of_getElem? e1)
  have bad : ¬ fitE es i → ∀ h', Ext h h' → (Value.bool false = Value.bool (decide (treeP es)) ∧ Ext h h') := fun hn h' x => by
    refine ⟨?_, x⟩
    rw [decide_eq_false (fun t => hn (t i (by omega)))]
  have pae : pa es i = lst (en es i).path := rfl
  generalize hen : en es i = e at *
  unfold F23_k2
  refine ⟨q, eq, by omega, by omega, e.path, e.kind, e.mode, e.body, by rw [Int.toNat_natCast]; exact c0, by rw [Int.toNat_natCast]; exact c1, by rw [Int.toNat_natCast]; exact c2, by rw [Int.toNat_natCast]; exact c3, rfl, newK_intro fun h4 hb4 x4 z4 => ?_⟩
  refine storeK_whole (vs := entA e) hb4 rfl zeroC38 (entA_one e) fun h5 hb5 o5 => ?_
  have x35 : Ext h3 h5 := Keep.since x4 (o5.keep rfl : Keep (· = h3.size) h4 h5) fun j hj e => by omega
  have ec := ent_cells hb5
  have x05 := x3.trans x35
  have k3 : ∀ b, (b = true ↔ ¬ (e.kind = 1 ∨ e.kind = 2)) → F23_k3 (fun x hh => ∃ (i : Nat) (kvs : List (ByteArray × Value)), x = i ∧ i ≤ l ∧ Ext h hh ∧ (∀ j, j < i → fitE es j) ∧ MapAt Value.string (fun _ : ByteArray => True) hh h.size kvs ∧ ∀ p : ByteArray, lookA kvs p = if dirAt es i (lst p) then some (.bool true) else none)
      (fun x _ => ((l : Int) - x).toNat) ((l : Int) - (i : Int)).toNat a l c (some h.size) i (at0 h3.size) a l c l i b h5 fun v h' => v = .bool (decide (treeP es)) ∧ Ext h h' := by
    intro b hb
    unfold F23_k3
    refine br_of (fun g => bad (fun f => hb.1 g (by unfold fitE at f; rw [hen] at f; exact f.1)) h5 x05) (fun g => ?_)
    have hk : e.kind = 1 ∨ e.kind = 2 := Classical.byContradiction fun hn => by rw [hb.2 hn] at g; cases g
    unfold F23_k4
    refine ⟨e.path, e.kind, e.mode, e.body, ec.1, ec.2.1, ec.2.2.1, ec.2.2.2, rfl, rfl, by decide, newK_intro fun h6 hb6 x6 z6 => ?_⟩
    have x06 := x05.trans x6
    refine HEnt.use (check_ok _ 1 1 [e] h6 (one_tab hb6) (fun f hf => by rw [List.mem_singleton] at hf; subst hf; exact sme) (by decide) (hm.ext x06)) ?_
    rintro _ h7 ⟨rfl, x7⟩
    have x07 := x06.trans x7
    have c1 := check_one e
    refine ⟨_, _, rfl, br_of (fun g => bad (fun f => ?_) h7 x07) (fun g => ?_)⟩
    · unfold fitE at f
      rw [hen] at f
      have : ((checkC [e]).2 : Int) ≠ 0 := by simpa using g
      exact this (by rw [c1.2 f.2.1]; rfl)
    have hst : stA e = 0 := by
      have : ((checkC [e]).2 : Int) = 0 := by simpa using g
      exact c1.1 (by omega)
    have ec7 := ent_cells (x7.blk (x6.blk hb5))
    unfold F23_k5
    refine ⟨e.path, ec7.1, HEnt.use (up_ok e.path (by omega) h7 (hm.ext x07)) ?_⟩
    rintro _ h8 ⟨rfl, x8⟩
    have x08 := x07.trans x8
    have x38 := ((x35.trans x6).trans x7).trans x8
    have ec8 := ent_cells (x8.blk (x7.blk (x6.blk hb5)))
    have m8 := m3.grow x38
    have hgd := stA_path hst
    have hul : ∀ x ∈ (upL (lst e.path)).1, x < 256 := by
      unfold upL
      split
      · simp
      · exact joinT_lt fun p hp => (good_pieces hgd.2 hgd.1).1 p (List.dropLast_subset _ hp)
    refine ⟨_, _, rfl, ?_⟩
    have hlk : ∀ w : World, Cls false h8 w.heap → (Instr.lookup 69 (.map (some h.size)) (.string (str (upL (lst e.path)).1)) false).run Tryd.prog w = .ok (.bool (decide (dirAt es i (upL (lst e.path)).1))) w := by
      intro w hw
      have hw := hw.eq
      have := run_lookup keyed9 Tryd.underlying69 zero4 (w := w) (hw ▸ m8) (a := str (upL (lst e.path)).1) trivial false
      rw [this, lk, lst_str _ hul]
      by_cases hd : dirAt es i (upL (lst e.path)).1
      · rw [if_pos hd, decide_eq_true hd]; rfl
      · rw [if_neg hd, decide_eq_false hd]; rfl
    have k6 : ∀ b, (b = true ↔ ¬ ((0 < i → lexK (pa es (i - 1)) (pa es i) = true) ∧ dirAt es i (upL (lst e.path)).1)) → F23_k6 (fun x hh => ∃ (i : Nat) (kvs : List (ByteArray × Value)), x = i ∧ i ≤ l ∧ Ext h hh ∧ (∀ j, j < i → fitE es j) ∧ MapAt Value.string (fun _ : ByteArray => True) hh h.size kvs ∧ ∀ p : ByteArray, lookA kvs p = if dirAt es i (lst p) then some (.bool true) else none)
        (fun x _ => ((l : Int) - x).toNat) ((l : Int) - (i : Int)).toNat a l c (some h.size) (at0 h3.size) a l c l i b h8 fun v h' => v = .bool (decide (treeP es)) ∧ Ext h h' := by
      intro b hb
      unfold F23_k6
      refine br_of (fun g => bad (fun f => hb.1 g (by unfold fitE at f; rw [hen, pae] at f; exact ⟨by rw [pae]; exact f.2.2.1, f.2.2.2⟩)) h8 x08) (fun g => ?_)
      have hok : (0 < i → lexK (pa es (i - 1)) (pa es i) = true) ∧ dirAt es i (upL (lst e.path)).1 := Classical.byContradiction fun hn => by
        rw [hb.2 hn] at g
        cases g
      have hfi : fitE es i := by unfold fitE; rw [hen]; exact ⟨hk, hst, hok.1, by rw [pae]; exact hok.2⟩
      have hnext : ∀ p, dirAt es (i + 1) p ↔ dirAt es i p ∨ (lst e.path = p ∧ e.kind = 2) := by
        intro p
        unfold dirAt
        constructor
        · rintro (h1 | ⟨j, h1, h2, h3⟩)
          · exact .inl (.inl h1)
          · by_cases hj : j = i
            · subst hj; rw [pae] at h2; rw [hen] at h3; exact .inr ⟨h2, h3⟩
            · exact .inl (.inr ⟨j, by omega, h2, h3⟩)
        · rintro ((h1 | ⟨j, h1, h2⟩) | ⟨h1, h2⟩)
          · exact .inl h1
          · exact .inr ⟨j, by omega, h2⟩
          · exact .inr ⟨i, by omega, by rw [pae]; exact h1, by rw [hen]; exact h2⟩
      have hfits : ∀ j, j < i + 1 → fitE es j := fun j hj => by
        by_cases e2 : j = i
        · subst e2; exact hfi
        · exact hfit j (by omega)
      unfold F23_k7
      refine ⟨e.kind, ec8.2.1, br_of (fun g2 => ?_) (fun g2 => ?_)⟩
      · have k2 : e.kind = 2 := by simpa using g2
        refine ⟨e.path, ec8.1, semU_update keyed9 Tryd.underlying69 m8 trivial fun h9 m9 o9 => ?_⟩
        unfold F23_k8
        rw [wrapS i l hil (by omega)]
        refine ⟨⟨i + 1, _, rfl, by omega, Keep.since x08 (o9.keep (S := (· = h.size)) rfl) (fun k hk e => by omega), hfits, m9, fun p => ?_⟩, lessS i l hil⟩
        rw [look_upd]
        have hn := hnext (lst p)
        by_cases hp : p = e.path
        · rw [if_pos hp, if_pos (hn.2 (.inr ⟨by rw [hp], k2⟩))]
        · rw [if_neg hp, lk]
          have : dirAt es (i + 1) (lst p) ↔ dirAt es i (lst p) := hn.trans ⟨fun h => h.elim id fun h => absurd (lst_inj h.1).symm hp, .inl⟩
          simp only [this]
      · have k2 : e.kind ≠ 2 := by simpa using g2
        unfold F23_k8
        rw [wrapS i l hil (by omega)]
        refine ⟨⟨i + 1, kvs, rfl, by omega, x08, hfits, m8, fun p => ?_⟩, lessS i l hil⟩
        rw [lk]
        have : dirAt es (i + 1) (lst p) ↔ dirAt es i (lst p) := (hnext (lst p)).trans ⟨fun h => h.elim id fun h => absurd h.2 k2, .inl⟩
        simp only [this]
    have fin : (0 < i → lexK (pa es (i - 1)) (pa es i) = true) → ∃ b58 : Bool, (∀ w : World, Cls false h8 w.heap → (Instr.lookup 69 (.map (some h.size)) (.string (str (upL (lst e.path)).1)) false).run Tryd.prog w = .ok (.bool b58) w) ∧ ∀ h9, Cls false h8 h9 → F23_k6 (fun x hh => ∃ (i : Nat) (kvs : List (ByteArray × Value)), x = i ∧ i ≤ l ∧ Ext h hh ∧ (∀ j, j < i → fitE es j) ∧ MapAt Value.string (fun _ : ByteArray => True) hh h.size kvs ∧ ∀ p : ByteArray, lookA kvs p = if dirAt es i (lst p) then some (.bool true) else none)
        (fun x _ => ((l : Int) - x).toNat) ((l : Int) - (i : Int)).toNat a l c (some h.size) (at0 h3.size) a l c l i (!b58) h9 fun v h' => v = .bool (decide (treeP es)) ∧ Ext h h' := by
      intro hord
      refine ⟨_, hlk, fun h9 hc => ?_⟩
      obtain rfl := hc.eq
      refine k6 _ ?_
      by_cases hd : dirAt es i (upL (lst e.path)).1
      · simp [hd, hord]
        exact hord
      · simp [hd]
    refine br_of (fun g => ?_) (fun g => fin fun h0 => ?_)
    rotate_left
    · have : ¬ (i : Int) > 0 := by simpa using g
      omega
    have hi0 : 0 < i := by
      have : (i : Int) > 0 := by simpa using g
      omega
    have ew : IntKind.i64.wrap ((i : Int) - 1) = ((i - 1 : Nat) : Int) := by rw [i64_lt _ (by omega) (by omega)]; omega
    have e2 := en_get (es := es) (i := i - 1) (by omega)
    obtain ⟨q2, eq2, _, d0, _⟩ := ent_get (w.grow x08) e2
    have sme2 := hs _ (List.mem_of_getElem? e2)
    rw [ew]
    refine ⟨q2, eq2, by omega, by omega, (en es (i - 1)).path, by rw [Int.toNat_natCast]; exact d0, e.path, ec8.1, lexK (pa es (i - 1)) (pa es i), fun h9 hc => (less_ok (en es (i - 1)).path e.path (by omega) h9).mono ?_, br_of (fun g3 => ?_) (fun g3 => fin fun _ => by simpa using g3)⟩
    · rintro v h10 ⟨rfl, rfl⟩
      exact ⟨by rw [pae]; rfl, rfl⟩
    · intro h9 hc
      obtain rfl := hc.eq
      refine k6 true ⟨fun _ hh => ?_, fun _ => rfl⟩
      have := hh.1 hi0
      rw [this] at g3; cases g3
  refine ⟨e.kind, ec.2.1, br_of (fun g => ⟨e.kind, ec.2.1, k3 _ ?_⟩) (fun g => k3 false ?_)⟩
  · have g : e.kind ≠ 1 := by simpa using g
    simp [g]
  · have g : e.kind = 1 := by simpa using g
    simp [g]
end Go.Proofs.YtcfegbpoailbdaaDoor

namespace Go.Proofs.YtcfegbpoailbdaaDoor
open Go.Vc Go.Sha Go.Trail Go.Lay
set_option linter.unusedVariables false
set_option linter.unusedSimpArgs false
set_option maxRecDepth 20000
theorem joinT_good {l : List Nat} (g : good l) (h0 : l ≠ []) : joinT (pieces l) = l := by
  have h1 := good_pieces g h0
  have hc : cl [] (pieces l) = some (pieces l) := (cl_parts (pieces l) [] h1.1).trans (by rw [List.nil_append])
  have h2 := clean_of hc
  rw [if_neg (by omega), clean_good g] at h2
  exact (Prod.mk.inj h2).1.symm
/-- the path above: none, or a way to it -/
theorem up_facts {l : List Nat} (g : good l) (h0 : l ≠ []) : (upL l).1 = [] ∨ ∃ x, l = (upL l).1 ++ 47 :: x ∧ (upL l).1 ≠ [] := by
  unfold upL
  rw [if_neg (fun h => h.elim h0 fun h => h g)]
  have h1 := good_pieces g h0
  have hj := joinT_good g h0
  obtain ⟨p, ps, hp⟩ := pieces_ne l
  obtain ⟨m, x, hm⟩ := snoc_of (show pieces l ≠ [] by rw [hp]; simp)
  rw [hm, List.dropLast_concat]
  by_cases hm0 : m = []
  · subst hm0; exact .inl rfl
  · refine .inr ⟨x, ?_, joinT_ne hm0 fun q hq => h1.1 q (by rw [hm]; exact List.mem_append_left _ hq)⟩
    rw [hm, joinT_up hm0] at hj
    exact hj.symm
theorem up_in {l : List Nat} (g : good l) (h0 : l ≠ []) (hu : (upL l).1 ≠ []) : inP (upL l).1 l = true ∧ (upL l).1 ≠ l ∧ good (upL l).1 := by
  rcases up_facts g h0 with e | ⟨x, e, _⟩
  · exact absurd e hu
  · have h1 : inP (upL l).1 l = true := by
      have := inP_below (upL l).1 x
      rwa [← e] at this
    refine ⟨h1, fun e2 => ?_, good_head g h1 hu⟩
    have h2 := congrArg List.length (e2.trans e)
    rw [List.length_append, List.length_cons] at h2
    omega
theorem tree_of {S : Sta} {es : List EntV} (o : StOK S) (h : Lists S es) : treeP es := by
  intro i hi
  have hm := en_mem hi
  have he := (h.2 _).1 hm
  have hg := o.ne he
  refine ⟨o.kind _ _ he, o.ok _ _ he, fun h0 => ?_, ?_⟩
  · have h1 := List.pairwise_iff_getElem.1 h.1 (i - 1) i (by omega) hi (by omega)
    rw [en_eq (by omega), en_eq hi] at h1
    exact h1
  · have hpa : pa es i = lst (en es i).path := rfl
    rw [hpa]
    obtain ⟨u, hu0⟩ : ∃ u, (upL (lst (en es i).path)).1 = u := ⟨_, rfl⟩
    rw [hu0]
    by_cases hu : u = []
    · exact .inl hu
    · obtain ⟨h1, h2, h3⟩ := up_in hg.2 hg.1 (by rw [hu0]; exact hu)
      rw [hu0] at h1 h2 h3
      have hl := lst_str _ (good_lt h3)
      obtain ⟨d, hd, kd⟩ := o.tree _ _ (str u) he (by unfold inB; rw [hl]; exact h1) (fun e => h2 (by rw [← hl, e])) (by rw [hl]; exact hu)
      have hdp := o.path _ _ hd
      have hdm : d ∈ es := (h.2 d).2 (by rw [hdp]; exact hd)
      obtain ⟨j, hj, hje⟩ := List.mem_iff_getElem.1 hdm
      rw [en_eq hj] at hje
      have hpj : pa es j = u := by unfold pa; rw [hje, hdp, hl]
      refine .inr ⟨j, ?_, hpj, by rw [hje]; exact kd⟩
      have hlt2 : lexK (pa es j) (pa es i) = true := by rw [hpj]; exact below_less h1 h2
      by_cases hij : j < i
      · exact hij
      · exfalso
        by_cases e2 : j = i
        · rw [e2, lexK_irr] at hlt2; cases hlt2
        · have h4 := List.pairwise_iff_getElem.1 h.1 i j hi hj (by omega)
          rw [en_eq hi, en_eq hj] at h4
          have h4 : lexK (pa es i) (pa es j) = true := h4
          rw [lexK_asymm h4] at hlt2; cases hlt2
theorem body_small {e : EntV} (h : stA e = 0) : e.path.size < 2 ^ 20 ∧ e.body.size ≤ 256 := by
  have hg := stA_path h
  have h1 := clean_len (lst e.path)
  rw [clean_good hg.2] at h1
  have h1 : (lst e.path).length ≤ 200 := h1
  rw [lst_len] at h1
  exact ⟨by omega, (stA_zero h).2.2.2.2.2.2.2⟩
theorem lists_small {S : Sta} {es : List EntV} (o : StOK S) (h : Lists S es) : Small es := fun e he => by
  have := body_small (o.ok _ _ ((h.2 e).1 he))
  omega
theorem lists_len {stk : List (List EntV)} {es : List EntV} (hl : stk.length ≤ 16) (g : ∀ l ∈ stk, Good l) (h : Lists (topS stk) es) : es.length ≤ 8192 := by
  have := h.one (ref_lists g)
  rw [this]
  unfold refM
  exact Nat.le_trans (List.length_filterMap_le _ _) (allP_len hl g)
theorem MergeR.tree {stk : List (List EntV)} {es : List EntV} {e : Nat} (h : MergeR stk es e) : Small es ∧ es.length ≤ 8192 ∧ treeP es := by
  rcases h with ⟨_, _, rfl⟩ | ⟨_, _, _, rfl⟩ | ⟨h1, g, _, h2⟩
  · exact ⟨(fun e he => absurd he (by simp)), by simp, fun i hi => absurd hi (by simp)⟩
  · exact ⟨(fun e he => absurd he (by simp)), by simp, fun i hi => absurd hi (by simp)⟩
  · exact ⟨lists_small (top_ok g) h2, lists_len h1 g h2, tree_of (top_ok g) h2⟩
/-! ### few -/
def few (stk : List (List EntV)) : Prop := stk.length ≤ 20 ∧ ∀ es ∈ stk, es.length ≤ 70
instance (stk : List (List EntV)) : Decidable (few stk) := by unfold few; infer_instance
theorem few_ok (a : Option Addr) (l c : Nat) (stk : List (List EntV)) (hs : List HdE) (h : Heap) (t : StackE h a l c stk hs) :
    HEnt Tryd.prog 11 #[.slice a l c] h fun v h' => v = .bool (decide (few stk)) ∧ h' = h := by
  have hl := t.length
  refine F11_ent _ _ _ _ _ ?_
  unfold F11
  refine br_of (fun g => ?_) (fun g => ?_)
  · have g : (l : Int) > 20 := by simpa using g
    exact ⟨by rw [decide_eq_false (fun hf => by have := hf.1; omega)], rfl⟩
  have h20 : l ≤ 20 := by
    have : ¬ (l : Int) > 20 := by simpa using g
    omega
  unfold F11_k1
  refine ⟨fun x hh => ∃ i : Nat, x = i ∧ i ≤ l ∧ hh = h ∧ ∀ es ∈ stk.take i, es.length ≤ 70, fun x _ => ((l : Int) - x).toNat, ⟨0, rfl, by omega, rfl, by simp⟩, ?_⟩
  rintro h1 _ ⟨i, rfl, hi, rfl, hf⟩
  unfold F11_b2
  refine br_of (fun gi => ?_) (fun gi => ?_)
  · have hil : i < l := by
      have : (i : Int) < (l : Int) := by simpa using gi
      omega
    obtain ⟨q, es, d, s1, d1, eq, hc, tl, _, dl⟩ := t.get hil
    have hel := tl.len
    rw [ents_len] at hel
    unfold F11_k3
    refine ⟨q, eq, by omega, by omega, d.a, d.l, d.c, by rw [Int.toNat_natCast]; exact hc, br_of (fun g7 => ?_) (fun g7 => ?_)⟩
    · have g7 : (d.l : Int) > 70 := by simpa using g7
      exact ⟨by rw [decide_eq_false (fun hf2 => by have := hf2.2 es (List.mem_of_getElem? s1); omega)], rfl⟩
    · have g7 : ¬ (d.l : Int) > 70 := by simpa using g7
      unfold F11_k4
      rw [wrapS i l hil (by omega)]
      refine ⟨⟨i + 1, rfl, by omega, rfl, fun e he => ?_⟩, lessS i l hil⟩
      rw [take_snoc s1, List.mem_append, List.mem_singleton] at he
      rcases he with he | rfl
      · exact hf e he
      · omega
  · have hil : i = l := by
      have : ¬ (i : Int) < (l : Int) := by simpa using gi
      omega
    unfold F11_k5
    rw [List.take_of_length_le (by omega)] at hf
    exact ⟨by rw [decide_eq_true (show few stk from ⟨by omega, hf⟩)], rfl⟩
/-! ### stacks of one's own -/
theorem size26 : Tryd.prog.cellsOf 26 = 1 := by kernel_rfl
theorem bytes26 : Tryd.prog.bytesOf 26 = 24 := by kernel_rfl
theorem z26 : (((Tryd.prog.info? 26).bind (·.zero)).getD undef).cells.size = 1 := by kernel_rfl
theorem own_keepT {S : Nat → Prop} {el : TypeId} {n : Nat} {h0 h h' : Heap} {a : Option Addr} {l c : Nat} {rows : List (List Value)} (o : OwnR el n h0 h a l c rows) (x : Keep S h h') (h1 : ∀ k, k < h0.size → ¬ S k) (h2 : ∀ k cs, h[k]? = some (.cells cs el (0, 0)) → ¬ S k) : OwnR el n h0 h' a l c rows :=
  o.keep x h1 fun k e => by
    rcases o.own with ⟨e2, _⟩ | ⟨b, cs, e2, _, hb, _⟩
    · rw [e] at e2; cases e2
    · rw [e] at e2; injection e2 with e2; injection e2 with e2
      subst e2; exact h2 _ _ hb
theorem own_elem {el el' : TypeId} {n : Nat} {h0 h : Heap} {a : Option Addr} {l c k : Nat} {rows : List (List Value)} {cs : Array Value} (o : OwnR el n h0 h a l c rows) (e : a = some ⟨k, 0, none⟩) (hb : h[k]? = some (.cells cs el' (0, 0))) : el' = el ∧ h0.size ≤ k := by
  rcases o.own with ⟨e2, _⟩ | ⟨b, cs2, e2, hB, hb2, _⟩
  · rw [e] at e2; cases e2
  · rw [e] at e2; injection e2 with e2; injection e2 with e2
    subst e2
    rw [hb] at hb2
    injection hb2 with hb2; injection hb2 with _ hb2
    exact ⟨hb2, hB⟩
/-- a layer in memory from before, or in memory of its own -/
def LayE (h0 h : Heap) (d : HdE) (es : List EntV) : Prop := Small es ∧ d.l < 2 ^ 40 ∧ (OwnR 38 4 h0 h d.a d.l d.c (ents es) ∨ Tab 4 h0 d.a d.l d.c (ents es))
structure StackO (h0 h : Heap) (a : Option Addr) (l c : Nat) (stk : List (List EntV)) (hs : List HdE) : Prop where
  len : hs.length = stk.length
  rows : OwnR 26 1 h0 h a l c (hs.map sliceE)
  lays : ∀ (i : Nat) (es : List EntV) (d : HdE), stk[i]? = some es → hs[i]? = some d → LayE h0 h d es
theorem LayE.grow {h0 h h' : Heap} {d : HdE} {es : List EntV} (t : LayE h0 h d es) (x : Ext h h') : LayE h0 h' d es := ⟨t.1, t.2.1, t.2.2.imp (fun o => o.grow x) id⟩
theorem StackO.grow {h0 h h' : Heap} {a : Option Addr} {l c : Nat} {stk : List (List EntV)} {hs : List HdE} (t : StackO h0 h a l c stk hs) (x : Ext h h') : StackO h0 h' a l c stk hs :=
  ⟨t.len, t.rows.grow x, fun i es d h1 h2 => (t.lays i es d h1 h2).grow x⟩
theorem StackO.stack {h0 h : Heap} {a : Option Addr} {l c : Nat} {stk : List (List EntV)} {hs : List HdE} (t : StackO h0 h a l c stk hs) : StackE h a l c stk hs :=
  ⟨t.len, t.rows.rows, fun i es d h1 h2 => by
    obtain ⟨s, dl, g⟩ := t.lays i es d h1 h2
    exact ⟨g.elim (fun o => o.rows) fun w => w.grow t.rows.ext, s, dl⟩⟩
theorem StackO.nil {h0 h : Heap} (x : Ext h0 h) : StackO h0 h none 0 0 [] [] := ⟨rfl, OwnR.nil _ _ x, fun i es d h1 _ => by simp at h1⟩
/-- more layers behind the others -/
theorem StackO.app {h0 h : Heap} {a : Option Addr} {l c b m : Nat} {stk ls : List (List EntV)} {hs ds : List HdE} {K : Option Addr → Nat → Nat → Heap → Prop} (t : StackO h0 h a l c stk hs) (hls : ds.length = ls.length) (hds : ds.length = m)
    (hl : ∀ (i : Nat) (es : List EntV) (d : HdE), ls[i]? = some es → ds[i]? = some d → LayE h0 h d es) (hb : h[b]? = some (.cells ((ds.map sliceE).flatten).toArray 26 (0, 0))) (room : l + m < 1099511627776)
    (hK : ∀ a' c' h', StackO h0 h' a' (l + m) c' (stk ++ ls) (hs ++ ds) → K a' (l + m) c' h') : appK Tryd.prog 26 h a l c (.slice (some (at0 b)) m m) K := by
  have hrow : ∀ r ∈ ds.map sliceE, r.length = 1 := by
    intro r hr
    obtain ⟨d, _, rfl⟩ := List.mem_map.1 hr
    rfl
  have hfl : (ds.map sliceE).flatten.length = m * 1 := by rw [flat_len hrow, List.length_map, hds]
  refine appK_R (new := ds.map sliceE) (m := m) size26 t.rows (srcK_slice hfl (fun ad e => by cases e; exact cells_blk0 hb) (by rintro ⟨⟩)) (by rw [List.length_map, hds]) hrow (by
    intro r hr u hu
    obtain ⟨d, _, rfl⟩ := List.mem_map.1 hr
    simp [sliceE] at hu; subst hu; rfl) (by rw [bytes26]; omega) z26 fun a' c' h' o' k' _ => hK a' c' h' ⟨by rw [List.length_append, List.length_append, t.len, hls], by rw [List.map_append]; exact o', fun i es d h1 h2 => ?_⟩
  have keepL : ∀ {d : HdE} {es : List EntV}, LayE h0 h d es → LayE h0 h' d es := fun g => by
    refine ⟨g.1, g.2.1, g.2.2.imp (fun o => own_keepT o k' (fun k hk e => ?_) fun k cs hbk e => ?_) id⟩
    · have := t.rows.ext.size
      rcases e with e | e
      · have := (t.rows.lt k e).1; omega
      · omega
    · rcases e with e | e
      · exact absurd (own_elem t.rows e hbk).1 (by decide)
      · have := blk_lt hbk; omega
  have hlen := t.len
  by_cases hi : i < stk.length
  · rw [List.getElem?_append_left (by omega)] at h1 h2
    exact keepL (t.lays i es d h1 h2)
  · rw [List.getElem?_append_right (by omega)] at h1 h2
    rw [hlen] at h2
    exact keepL (hl _ es d h1 h2)
theorem own_ok (a : Option Addr) (l c : Nat) (stk : List (List EntV)) (hs : List HdE) (h : Heap) (t : StackE h a l c stk hs) (hl : l ≤ 20) :
    HEnt Tryd.prog 13 #[.slice a l c] h fun v h' => ∃ a' c' hs', v = .slice a' l c' ∧ StackO h h' a' l c' stk hs' := by
  have hlen := t.length
  refine F13_ent _ _ _ _ _ ?_
  unfold F13
  refine ⟨fun a3 l3 c3 x hh => ∃ (i : Nat) (hs' : List HdE), x = i ∧ i ≤ l ∧ l3 = i ∧ StackO h hh a3 l3 c3 (stk.take i) hs', fun _ _ _ x _ => ((l : Int) - x).toNat, ⟨0, [], rfl, by omega, rfl, StackO.nil (Ext.refl h)⟩, ?_⟩
  rintro h1 a3 i c3 _ ⟨_, hs', rfl, hi, rfl, o⟩
  have x1 := o.rows.ext
  unfold F13_b1
  refine br_of (fun gi => ?_) (fun gi => ?_)
  rotate_left
  · have hil : i = l := by
      have : ¬ (i : Int) < (l : Int) := by simpa using gi
      omega
    subst hil
    unfold F13_k3
    rw [List.take_of_length_le (by omega)] at o
    exact ⟨a3, c3, hs', rfl, o⟩
  have hil : i < l := by
    have : (i : Int) < (l : Int) := by simpa using gi
    omega
  unfold F13_k2
  refine ⟨by decide, newK_intro fun h2 hb2 x2 z2 => ?_⟩
  obtain ⟨q, es, d, s1, d1, eq, hc, tl, sm, dl⟩ := (t.grow (x1.trans x2)).get hil
  have hel := tl.len
  rw [ents_len] at hel
  refine ⟨q, eq, by omega, by omega, d.a, d.l, d.c, by rw [Int.toNat_natCast]; exact hc, ?_⟩
  have o1 : OwnR 38 4 h h2 (some (at0 h1.size)) 0 0 [] := OwnR.new_ (rows := []) hb2 (x1.trans x2) x1.size (by simp) rfl
  refine appK_R size38 o1 tl.src (by rw [ents_len, hel]) (ents_row es) (fun r hr u hu => by
    obtain ⟨e, _, rfl⟩ := List.mem_map.1 hr
    exact entC_one e u hu) (by rw [bytes38']; omega) z38 fun a5 c5 h3 o3 k3 d3 => ?_
  rw [Nat.zero_add, List.nil_append] at o3
  rw [Nat.zero_add]
  refine ⟨by decide, newK_intro fun h4 hb4 x4 z4 => ?_⟩
  have x13 : Ext h1 h3 := Keep.since x2 k3 fun k hk e => by
    rcases e with e | e
    · cases e; omega
    · omega
  have x14 := x13.trans x4
  refine (o.grow x14).app (ls := [es]) (ds := [⟨a5, d.l, c5⟩]) (m := 1) rfl rfl (fun j es' d' h5 h6 => ?_) hb4 (by omega) fun a' c' h5 o5 => ?_
  · match j, h5, h6 with
    | 0, h5, h6 => cases h5; cases h6; exact ⟨sm, dl, .inl (o3.grow x4)⟩
  · rw [wrapS i l hil (by omega)]
    refine ⟨⟨i + 1, hs' ++ [⟨a5, d.l, c5⟩], rfl, by omega, rfl, ?_⟩, lessS i l hil⟩
    rw [take_snoc s1]
    exact o5
end Go.Proofs.YtcfegbpoailbdaaDoor

namespace Go.Proofs.YtcfegbpoailbdaaDoor
open Go.Vc Go.Sha Go.Trail Go.Lay
set_option linter.unusedVariables false
set_option linter.unusedSimpArgs false
set_option maxRecDepth 20000
def x1E : EntV := ⟨⟨#[97, 47, 98]⟩, 1, 0, ⟨#[120]⟩⟩
def x2E : EntV := ⟨⟨#[97]⟩, 3, 0, ByteArray.empty⟩
def x3E : EntV := ⟨⟨#[97, 47, 99]⟩, 1, 0, ⟨#[121]⟩⟩
def x4E : EntV := ⟨⟨#[97]⟩, 2, 0, ByteArray.empty⟩
def stk3 : List (List EntV) := [[x1E], [x2E], [x3E]]
theorem x1_ok : stA x1E = 0 := stA_of (by unfold badP; decide +kernel) (by decide) (by decide) (by decide) (by decide) (by decide)
theorem x2_ok : stA x2E = 0 := stA_of (by unfold badP; decide +kernel) (by decide) (by decide) (by decide) (by decide) (by decide)
theorem x3_ok : stA x3E = 0 := stA_of (by unfold badP; decide +kernel) (by decide) (by decide) (by decide) (by decide) (by decide)
theorem good_one {e : EntV} (h : stA e = 0) : Good [e] := (good_check [e]).1 ((check_one e).2 h)
theorem stk3_good : ∀ l ∈ stk3, Good l := by
  intro l hl
  simp only [stk3, List.mem_cons, List.not_mem_nil, or_false] at hl
  rcases hl with rfl | rfl | rfl
  · exact good_one x1_ok
  · exact good_one x2_ok
  · exact good_one x3_ok
theorem stk3_is : refM stk3 = [x4E, x3E] := by kernel_rfl
def yes (h : Heap) : Value → Heap → Prop := fun v h' => v = .bool true ∧ Ext h h'
open Classical in
theorem works_ok (h : Heap) (hm : MaxAt h) : HEnt Tryd.prog 12 #[] h (yes h) := by
  refine F12_ent _ _ ?_
  unfold F12
  refine ⟨rfl, by decide, newK_intro fun h1 hb1 x1 z1 => ⟨rfl, by decide, newK_intro fun h2 hb2 x2 z2 => ⟨rfl, by decide, newK_intro fun h3 hb3 x3 z3 => ⟨by decide, newK_intro fun h4 hb4 x4 z4 => ?_⟩⟩⟩⟩
  have x04 := ((x1.trans x2).trans x3).trans x4
  have t : StackE h4 (some (at0 h3.size)) 3 3 stk3 [⟨some (at0 h.size), 1, 1⟩, ⟨some (at0 h1.size), 1, 1⟩, ⟨some (at0 h2.size), 1, 1⟩] := by
    refine ⟨rfl, (OwnR.new_ (el := 26) (n := 1) (h0 := h) (rows := [sliceE ⟨some (at0 h.size), 1, 1⟩, sliceE ⟨some (at0 h1.size), 1, 1⟩, sliceE ⟨some (at0 h2.size), 1, 1⟩]) hb4 x04 (by have := (x1.trans x2).trans x3; exact this.size) (by simp [sliceE]) rfl).rows, fun i es d hi hd => ?_⟩
    have sm : ∀ e : EntV, stA e = 0 → Small [e] := fun e he f hf => by
      rw [List.mem_singleton] at hf; subst hf
      have := body_small he
      omega
    match i, hi, hd with
    | 0, hi, hd => cases hi; cases hd; exact ⟨one_tab (e := x1E) (x4.blk (x3.blk (x2.blk hb1))), sm _ x1_ok, (by show 1 < 2 ^ 40; decide)⟩
    | 1, hi, hd => cases hi; cases hd; exact ⟨one_tab (e := x2E) (x4.blk (x3.blk hb2)), sm _ x2_ok, (by show 1 < 2 ^ 40; decide)⟩
    | 2, hi, hd => cases hi; cases hd; exact ⟨one_tab (e := x3E) (x4.blk hb3), sm _ x3_ok, (by show 1 < 2 ^ 40; decide)⟩
  refine HEnt.use (merge_ok _ 3 3 stk3 _ h4 t (hm.ext x04)) ?_
  rintro _ h5 ⟨a', l', c', es, e, rfl, mr, o⟩
  have ref : MergeR stk3 (refM stk3) 0 := .inr (.inr ⟨by decide, stk3_good, rfl, ref_lists stk3_good⟩)
  obtain ⟨rfl, rfl⟩ := mr.one ref
  rw [stk3_is] at o mr
  have hl2 := o.len
  have hl2 : 2 = l' := hl2
  subst hl2
  obtain ⟨q, eq, _, c0, c1, c2, c3⟩ := ent_get o.rows (i := 0) (e := x4E) rfl
  obtain ⟨q2, eq2, _, d0, d1, d2, d3⟩ := ent_get o.rows (i := 1) (e := x3E) rfl
  have tr := mr.tree
  refine ⟨_, _, _, _, rfl, br_of (fun _ => br_of (fun _ => ?_) (fun g => by cases g)) (fun g => by cases g)⟩
  refine ⟨q, eq, by decide, by decide, _, _, _, _, c0, c1, c2, c3, rfl, true, fun w => ?_, eqg30, br_of (fun _ => ?_) (fun g => by cases g)⟩
  · have := run_equal_ent x4E x4E w
    rw [(eqE_iff x4E x4E).2 rfl] at this
    exact this
  refine ⟨q2, eq2, by decide, by decide, _, d3, br_of (fun _ => ?_) (fun g => absurd g (by decide +kernel))⟩
  refine HEnt.use (tree_ok a' 2 c' _ h5 o.rows tr.1 (by decide) (hm.ext (x04.trans o.ext))) ?_
  rintro _ h6 ⟨rfl, x6⟩
  refine ⟨_, rfl, ?_, (x04.trans o.ext).trans x6⟩
  rw [decide_eq_true tr.2.2]
theorem works_yes {h h1 : Heap} (x : Ext h h1) (hm : MaxAt h) : HCalls Tryd.prog 12 #[] h1 fun r h2 => ∃ b, r = .bool b ∧ yes h (.bool b) h2 := by
  refine HEnt.use (works_ok h1 (hm.ext x)) ?_
  rintro _ h2 ⟨rfl, y⟩
  exact ⟨true, rfl, rfl, x.trans y⟩
end Go.Proofs.YtcfegbpoailbdaaDoor
