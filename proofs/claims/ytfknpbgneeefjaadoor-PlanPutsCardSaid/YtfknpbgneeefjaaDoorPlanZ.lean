import Derived.Test.YtfknpbgneeefjaaDoorPlanY
import Derived.Test.YtfknpbgneeefjaaDoorPlanV
import Derived.Test.YtfknpbgneeefjaaDoorVppJ

namespace Go.Proofs.YtfknpbgneeefjaaDoor
open Go.Vc Go.Sha Go.Trail Go.Packs Go.Plan Go.Man
set_option linter.unusedVariables false
set_option linter.unusedSimpArgs false
set_option maxRecDepth 20000
theorem OpsAt.cut {h : Heap} {a : Option Addr} {l c : Nat} {os : List OpV} {ds : List Hdr} (p : OpsAt h a l c os ds) {i : Nat} {o : OpV} {d : Hdr} (ho : os[i]? = some o) (hd : ds[i]? = some d) : OpsAt h (cutAt c i 5 a) 1 (c - i) [o] [d] := by
  have hi := (List.getElem?_eq_some_iff.1 ho).1
  have hl := p.length
  have hz : (List.zipWith OpV.cells os ds)[i]? = some (OpV.cells o d) := by rw [List.getElem?_zipWith, ho, hd]
  have t := (tab_drop p.rows i (by omega)).take 1 (by omega)
  rw [dropR_cons hz] at t
  refine ⟨rfl, t, fun j o' d' h1 h2 => ?_, fun o' h1 => ?_⟩
  · match j, h1, h2 with
    | 0, h1, h2 => cases h1; cases h2; exact p.refs i o d ho hd
  · simp at h1; subst h1; exact p.ok _ (List.mem_of_getElem? ho)
theorem opsTwin_hdr {h0 h : Heap} {e : Hdr} {os : List OpV} {es : List Hdr} (t : OpTwin h0 h e (fewOps os) es) : e.l ≤ 12 ∧ ∀ x ∈ es, x.l ≤ 20 := by
  have hl := t.length
  refine ⟨by have : (fewOps os).length ≤ 12 := by unfold fewOps; rw [List.length_map, List.length_take]; omega
             omega, fun x hx => ?_⟩
  obtain ⟨i, hi⟩ := List.getElem?_of_mem hx
  have hlt := (List.getElem?_eq_some_iff.1 hi).1
  have hle := t.len
  have p1 : (fewOps os)[i]? = some ((fewOps os)[i]'(by omega)) := List.getElem?_eq_getElem (by omega)
  have o := (t.refs i _ x p1 hi).len
  have hm := List.mem_of_getElem? p1
  generalize (fewOps os)[i]'(by omega) = p at *
  unfold fewOps at hm
  obtain ⟨q, _, rfl⟩ := List.mem_map.1 hm
  rw [List.length_map] at o
  have : ((fewOp q).refs).length ≤ 20 := by unfold fewOp; simp only [List.length_take]; omega
  omega
theorem opsTwin_at {h0 h h' : Heap} {e : Hdr} {a : Option Addr} {l c : Nat} {os : List OpV} {ds es : List Hdr} (p : OpsAt h0 a l c os ds) (t : OpTwin h h' e (fewOps os) es) : OpsAt h' e.a e.l e.c (fewOps os) es := by
  refine t.ops fun o ho => ?_
  unfold fewOps at ho
  obtain ⟨q, hq, rfl⟩ := List.mem_map.1 ho
  have hq := List.mem_of_mem_take hq
  refine ⟨p.ok q hq, fun r hr => ?_⟩
  obtain ⟨i, hi⟩ := List.getElem?_of_mem hq
  have hlt := (List.getElem?_eq_some_iff.1 hi).1
  have hle := p.len
  exact (p.refs i q _ hi (List.getElem?_eq_getElem (show i < ds.length by omega))).ok r (List.mem_of_mem_take hr)
theorem good_small {ps : List PackV} (g : GoodPs ps) : Small ps := by
  refine ⟨fun p hp => ⟨g.2 p hp, ?_⟩, ?_⟩
  · have := (manC_pos (packsC_mem ps g.1 p hp)).2.1
    omega
  · rcases packsC_each ps g.1 with h1 | h1
    · omega
    · rw [h1]; exact Nat.zero_le _
theorem putS_small {sts : List (List PackV)} {pl : List PlanV} (s : ∀ ps ∈ sts, Small ps) (g : GoodPl pl) : ∀ ps ∈ putS sts pl, Small ps := by
  intro ps h
  rcases mem_putS sts pl ps h with (h | rfl) | ⟨p, hp, rfl⟩
  · exact s ps h
  · exact ⟨by simp, by simp⟩
  · exact good_small (g.1 p hp).2
theorem good_one {sts : List (List PackV)} {owner : Int} {o : OpV} {ps : List PackV} (hps : ∀ p ∈ ps, p.ok ∧ ∀ r ∈ p.refs, r.ok) (ho : OpV.ok o ∧ ∀ r ∈ o.refs, r.ok) : GoodPs (doC ps owner o).1 :=
  ⟨doC_zero _ _ _, fun p hp => by
    rcases doC_mem _ _ _ p hp with h | rfl
    · exact hps p h
    · exact lay_ok ho.1.1 ho.1.2 ho.2⟩
theorem now_ok {sts : List (List PackV)} {pl : List PlanV} (s : ∀ ps ∈ sts, Small ps) (g : GoodPl pl) (r : Int) : ∀ p ∈ nowC sts pl r, p.ok ∧ ∀ r ∈ p.refs, r.ok := by
  intro p hp
  unfold nowC at hp
  cases h : lookP pl r with
  | some x =>
    rw [h] at hp
    exact (g.1 _ ((lookP_mem g.2).1 h)).2.2 p hp
  | none =>
    rw [h] at hp
    simp only at hp
    unfold stackC at hp
    split at hp
    · rw [List.getD_eq_getElem?_getD] at hp
      cases h : sts[(r - 1).toNat]? with
      | none => rw [h] at hp; simp at hp
      | some x => rw [h] at hp; exact ((s x (List.mem_of_getElem? h)).1 p hp).1
    · simp at hp
theorem putP_len : ∀ (pl : List PlanV) (r : Int) (x : List PackV), (putP pl r x).length ≤ pl.length + 1
  | [], r, x => by simp [putP]
  | (q, y) :: t, r, x => by
    unfold putP
    split
    · simp
    · have := putP_len t r x
      simp only [List.length_cons]; omega
theorem inOrder_sing {l : List PlanV} {p : PlanV} (h : InOrder l [p]) : l = [p] := List.perm_singleton.1 h.1
theorem inOrder_nil {l : List PlanV} (h : InOrder l []) : l = [] := List.perm_nil.1 h.1
theorem PlansAt.length {h0 h : Heap} {a : Option Addr} {l c : Nat} {pl : List PlanV} {hs : List Hdr} (t : PlansAt h0 h a l c pl hs) : pl.length = l := by
  have := t.rows.len
  rw [List.length_zipWith, t.len, Nat.min_self] at this; exact this
theorem steps_ok (a : Option Addr) (l c : Nat) (sts0 : List (List PackV)) (hs0 : List Hdr) (owner : Int) (a2 : Option Addr) (l2 c2 : Nat) (os0 : List OpV) (ds0 : List Hdr) (h : Heap) (hst : StacksIn h a l c sts0 hs0) (hop : OpsAt h a2 l2 c2 os0 ds0) (hl : l < 9223372036854775808) (hl2 : l2 < 9223372036854775808) (hm : Ord.MaxAt h) :
    HEnt Tryd.prog 7 #[.slice a l c, .int .i64 owner, .slice a2 l2 c2] h (yes h) := by
  have hsm := hst.small
  refine F7_ent _ _ _ _ _ _ _ _ _ ?_
  unfold F7
  refine HEnt.use (stacksOf_ok a l c sts0 hs0 h hst hl) ?_
  rintro _ h1 ⟨es, hes, rfl, ts⟩
  have x1 : Ext h h1 := ts.ext
  refine ⟨_, _, _, rfl, HEnt.use (opsOf_ok a2 l2 c2 os0 ds0 h1 (hop.grow x1) hl2) ?_⟩
  rintro _ h2 ⟨eo, heo, rfl, to⟩
  have x2 : Ext h1 h2 := to.rows.ext
  have hops := opsTwin_at hop to
  have hho := opsTwin_hdr to
  have hstk := (ts.grow x2).stacks hsm
  have hel : es.l ≤ 9 := by
    have := ts.length
    have : (fewStacks sts0).length ≤ 9 := by unfold fewStacks; rw [List.length_map, List.length_take]; omega
    omega
  have hol := hops.length
  generalize fewStacks sts0 = sts at *
  generalize fewOps os0 = os at *
  refine ⟨_, _, _, rfl, HEnt.use (all_ok es.a es.l es.c sts hes owner eo.a eo.l eo.c os heo h2 hstk hops (fun x hx => by have := hho.2 x hx; omega) (by omega) (hm.ext (x1.trans x2))) ?_⟩
  rintro _ h3 ⟨a3, l3, c3, pl3, hs3, rfl, hpa, hio, x3⟩
  have x03 := (x1.trans x2).trans x3
  have hp3 := hpa.length
  refine ⟨_, _, _, _, _, rfl, ?_⟩
  have bad : (os.length = 0 ∨ os.length > 8) → F7_k1 es.a es.l es.c owner eo.a eo.l eo.c a3 l3 c3 (allC sts owner os).2.1 (allC sts owner os).2.2 true h3 (yes h) := by
    intro hb
    have : ∃ n : Nat, n ≠ 0 ∧ allC sts owner os = ([], 0, n) := by
      unfold allC
      rcases hb with e | e
      · rw [if_pos e]; exact ⟨9, by decide, rfl⟩
      · rw [if_neg (by omega), if_pos e]; exact ⟨3, by decide, rfl⟩
    obtain ⟨n, hn, e⟩ := this
    rw [e] at hio ⊢
    have := inOrder_nil hio
    subst this
    simp at hp3
    unfold F7_k1
    refine br_of (fun _ => br_of (fun _ => br_of (fun _ => works_yes x03 hm) (fun e => by simp at e; omega)) (fun e => by simp at e; omega)) (fun e => by cases e)
  refine br_of (fun g => bad (.inl (by simp at g; omega))) (fun g => ?_)
  have g' : os.length ≠ 0 := by simp at g; omega
  by_cases g8 : os.length > 8
  · rw [show (decide (((eo.l : Int) : Int) > 8)) = true from decide_eq_true (by omega)]
    exact bad (.inr g8)
  rw [show (decide (((eo.l : Int) : Int) > 8)) = false from decide_eq_false (by omega)]
  unfold F7_k1
  refine br_of (fun e => by cases e) (fun _ => ?_)
  have hall : allC sts owner os = runC sts owner [] 0 os := by unfold allC; rw [if_neg g', if_neg g8]
  unfold F7_k2
  refine HEnt.use (put_ok es.a es.l es.c sts hes none 0 0 [] [] h3 (hstk.grow x3) (PlansIn.nil h3) (by decide)) ?_
  rintro _ h4 ⟨e4, es4, rfl, t4⟩
  have x4 : Ext h3 h4 := t4.ext
  refine ⟨_, _, _, rfl, fun an ln cn x hh => ∃ (i : Nat) (pl : List PlanV) (hn : List Hdr), x = i ∧ i ≤ eo.l ∧ StackTw h hh ⟨an, ln, cn⟩ (putS sts pl) hn ∧ GoodPl pl ∧ Ext h3 hh ∧ runC sts owner [] 0 os = runC sts owner pl i (os.drop i) ∧ pl.length ≤ i, fun _ _ _ x _ => ((eo.l : Int) - x).toNat, ⟨0, [], es4, rfl, by omega, t4.since x03, ⟨by simp, by simp⟩, x4, rfl, by simp⟩, ?_⟩
  rintro h5 an ln cn _ ⟨i, pl, hn, rfl, hi, tn, gp, x35, hrun, hpli⟩
  have x05 := x03.trans x35
  unfold F7_b3
  refine br_of (fun gi => ?_) (fun gi => ?_)
  case refine_2 =>
    have hil : i = eo.l := by
      have : ¬ (i : Int) < (eo.l : Int) := by simpa using gi
      omega
    subst hil
    have hres : allC sts owner os = (pl, 0, 0) := by
      rw [hall, hrun, List.drop_of_length_le (by omega)]; rfl
    rw [hres] at hio ⊢
    unfold F7_k7
    have g3 : ∀ p ∈ pl3, GoodPs p.2 := fun p hp => (gp.1 p (hio.1.mem_iff.1 hp)).2
    refine br_of (fun _ => br_of (fun _ => ?_) (fun e => by simp at e)) (fun e => by simp at e)
    have hl3 : l3 < 9223372036854775807 := by
      have := hio.1.length_eq
      have e1 : (pl, 0, 0).1.length = pl.length := rfl
      omega
    refine HEnt.use (put_ok es.a es.l es.c sts hes a3 l3 c3 pl3 hs3 h5 ((hstk.grow x3).grow x35) ((hpa.in_ g3).grow x35) hl3) ?_
    rintro _ h6 ⟨e6, es6, rfl, t6⟩
    have x6 : Ext h5 h6 := t6.ext
    rw [putS_perm sts hio.1 gp.2] at t6
    have sm := putS_small hsm gp
    refine ⟨_, _, _, rfl, HEnt.use (sameStacks_ok e6.a e6.l e6.c an ln cn (putS sts pl) es6 hn h6 (t6.stacks sm) ((tn.grow x6).stacks sm) (by have := t6.length; rw [putS_len] at this; omega)) ?_⟩
    rintro _ h7 ⟨rfl, x7⟩
    exact ⟨true, rfl, br_of (fun _ => works_yes ((x05.trans x6).trans x7) hm) (fun e => by cases e)⟩
  have hil : i < eo.l := by
    have : (i : Int) < (eo.l : Int) := by simpa using gi
    omega
  obtain ⟨q, o, d, hoi, hdi, _, ook, hr, _⟩ := hops.get hil
  have hcap := hops.rows.cap
  have hw : IntKind.i64.wrap ((i : Int) + 1) = ((i + 1 : Nat) : Int) := by rw [i64_lt _ (by omega) (by omega)]; omega
  rw [dropR_cons hoi] at hrun
  have sm := putS_small hsm gp
  have nl : ln = 6 := by have := tn.length; rw [putS_len] at this; exact this.symm
  unfold F7_k4
  rw [hw, Int.toNat_natCast, Int.toNat_natCast, show i + 1 - i = 1 by omega]
  refine ⟨by omega, by omega, by omega, HEnt.use (all_ok an ln cn (putS sts pl) hn owner _ 1 _ [o] [d] h5 (tn.stacks sm) ((hops.cut hoi hdi).grow (x3.trans x35)) (fun x hx => by simp at hx; subst hx; have := hho.2 _ (List.mem_of_getElem? hdi); omega) (by omega) (hm.ext x05)) ?_⟩
  rintro _ h6 ⟨a6, l6, c6, pl6, hs6, rfl, hpa6, hio6, x6⟩
  rw [allC_one, doC_now sts owner o gp.2] at hio6 ⊢
  refine ⟨_, _, _, _, _, rfl, br_of (fun ge => ?_) (fun ge => ?_)⟩
  · have ge' : (doC (nowC sts pl o.root) owner o).2 ≠ 0 := by
      intro e
      rw [if_neg (fun h => h e)] at ge
      simp at ge
    rw [if_pos ge']
    have hres : allC sts owner os = ([], i, (doC (nowC sts pl o.root) owner o).2) := by
      rw [hall, hrun]
      unfold runC; rw [if_pos ge']
    rw [hres] at hio ⊢
    have := inOrder_nil hio
    subst this
    simp at hp3
    refine br_of (fun _ => br_of (fun _ => br_of (fun _ => works_yes (x05.trans x6) hm) (fun e => by simp at e; omega)) (fun e => by simp at e)) (fun e => by simp at e)
  have ge' : (doC (nowC sts pl o.root) owner o).2 = 0 := by
    refine Classical.byContradiction fun e => ?_
    rw [if_pos e] at ge
    simp at ge; omega
  rw [if_neg (fun h => h ge')] at hio6
  have := inOrder_sing hio6
  subst this
  have hroot := doC_root ge'
  have gd : GoodPs (doC (nowC sts pl o.root) owner o).1 := good_one (sts := sts) (now_ok hsm gp o.root) ⟨ook, hr.ok⟩
  have hl6 := hpa6.length
  simp at hl6
  unfold F7_k5
  refine HEnt.use (put_ok an ln cn (putS sts pl) hn a6 l6 c6 _ hs6 h6 ((tn.grow x6).stacks sm) (hpa6.in_ (fun p hp => by simp at hp; subst hp; exact gd)) (by omega)) ?_
  rintro _ h7 ⟨e7, es7, rfl, t7⟩
  have x7 : Ext h6 h7 := t7.ext
  refine ⟨_, _, _, rfl, ?_⟩
  unfold F7_k6
  rw [hw]
  rw [putS_step sts o.root _ gp.2] at t7
  refine ⟨⟨i + 1, _, es7, rfl, by omega, t7.since (x05.trans x6), good_put gp hroot gd, (x35.trans x6).trans x7, ?_, by have := putP_len pl o.root (doC (nowC sts pl o.root) owner o).1; omega⟩, less_succ i eo.l hil⟩
  rw [hrun]
  conv => lhs; unfold runC
  rw [if_neg (fun e => e ge')]
end Go.Proofs.YtfknpbgneeefjaaDoor
