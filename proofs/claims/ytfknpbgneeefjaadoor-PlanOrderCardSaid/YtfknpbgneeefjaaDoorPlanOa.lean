import Derived.Test.YtfknpbgneeefjaaDoorPlanZ
import Derived.Test.YtfknpbgneeefjaaDoorVppK

namespace Go.Plan
open Go.Vc Go.Sha Go.Trail Go.Packs Go.Man
set_option linter.unusedVariables false
theorem now_other (sts : List (List PackV)) {r s : Int} (x : List PackV) (h : r ≠ s) : nowC sts [(r, x)] s = nowC sts [] s := by
  unfold nowC
  rw [lookP_cons, if_neg h]
theorem runC_cons (sts : List (List PackV)) (owner : Int) (pl : List PlanV) (i : Nat) (o : OpV) (t : List OpV) : runC sts owner pl i (o :: t) = if (doC (nowC sts pl o.root) owner o).2 ≠ 0 then ([], i, (doC (nowC sts pl o.root) owner o).2) else runC sts owner (putP pl o.root (doC (nowC sts pl o.root) owner o).1) (i + 1) t := rfl
theorem allC_two (sts : List (List PackV)) (owner : Int) (o p : OpV) (h : o.root ≠ p.root) : allC sts owner [o, p] =
    if (doC (nowC sts [] o.root) owner o).2 ≠ 0 then ([], 0, (doC (nowC sts [] o.root) owner o).2) else if (doC (nowC sts [] p.root) owner p).2 ≠ 0 then ([], 1, (doC (nowC sts [] p.root) owner p).2) else ([(o.root, (doC (nowC sts [] o.root) owner o).1), (p.root, (doC (nowC sts [] p.root) owner p).1)], 0, 0) := by
  unfold allC
  rw [if_neg (by simp), if_neg (by simp), runC_cons]
  split
  · rfl
  · rw [runC_cons, show putP [] o.root (doC (nowC sts [] o.root) owner o).1 = [(o.root, (doC (nowC sts [] o.root) owner o).1)] from rfl, now_other sts _ h]
    split
    · rfl
    · rw [show putP [(o.root, (doC (nowC sts [] o.root) owner o).1)] p.root (doC (nowC sts [] p.root) owner p).1 = [(o.root, (doC (nowC sts [] o.root) owner o).1), (p.root, (doC (nowC sts [] p.root) owner p).1)] by unfold putP; rw [if_neg h]; rfl]
      rfl
end Go.Plan
namespace Go.Proofs.YtfknpbgneeefjaaDoor
open Go.Vc Go.Sha Go.Trail Go.Packs Go.Plan Go.Man
set_option linter.unusedVariables false
set_option linter.unusedSimpArgs false
set_option maxRecDepth 20000
theorem opsAt_two {el : TypeId} {h h' : Heap} {b : Nat} {o p : OpV} {d e : Hdr} (hb : h'[b]? = some (.cells (OpV.cells o d ++ OpV.cells p e).toArray el (0, 0))) (x : Ext h h') (hsz : h.size ≤ b) (ho : RefsAt h' d.a d.l d.c o.refs) (hp : RefsAt h' e.a e.l e.c p.refs) (ko : OpV.ok o) (kp : OpV.ok p) : OpsAt h' (some (at0 b)) 2 2 [o, p] [d, e] := by
  have own : OwnR el 5 h h' (some ⟨b, 0, none⟩) 2 2 [OpV.cells o d, OpV.cells p e] := OwnR.new_ (rows := [OpV.cells o d, OpV.cells p e]) (by rw [hb]; simp) x hsz (by intro r hr; simp at hr; rcases hr with rfl | rfl <;> rfl) rfl
  refine ⟨rfl, own.rows, fun i o' d' h1 h2 => ?_, by intro x hx; simp at hx; rcases hx with rfl | rfl; exact ko; exact kp⟩
  match i, h1, h2 with
  | 0, h1, h2 => cases h1; cases h2; exact ho
  | 1, h1, h2 => cases h1; cases h2; exact hp
theorem order_ok (a : Option Addr) (l c : Nat) (sts0 : List (List PackV)) (hs0 : List Hdr) (owner : Int) (o1 o2 : OpV) (d1 d2 : Hdr) (h : Heap) (hst : StacksIn h a l c sts0 hs0) (hl : l < 9223372036854775808) (k1 : OpV.ok o1 ∧ RefsAt h d1.a d1.l d1.c o1.refs) (k2 : OpV.ok o2 ∧ RefsAt h d2.a d2.l d2.c o2.refs) (hm : Ord.MaxAt h) :
    HEnt Tryd.prog 6 #[.slice a l c, .int .i64 owner, .agg (OpV.cells o1 d1 ++ OpV.cells o2 d2).toArray] h (yes h) := by
  have hsm := hst.small
  refine F6_ent _ _ _ _ _ _ _ ?_
  unfold F6
  refine newK_intro fun h1 hb1 x1 z1 => HEnt.use (stacksOf_ok a l c sts0 hs0 h1 (hst.grow x1) hl) ?_
  rintro _ h2 ⟨es, hes, rfl, ts⟩
  have x2 : Ext h1 h2 := ts.ext
  have hb2 := x2.blk hb1
  have x02 := x1.trans x2
  have hop2 := opsAt_two hb2 x02 (Nat.le_refl _) (k1.2.grow x02) (k2.2.grow x02) k1.1 k2.1
  refine ⟨_, _, _, rfl, by decide, by decide, by decide, ?_⟩
  rw [cutAt0]
  refine HEnt.use (opsOf_ok _ 2 2 [o1, o2] [d1, d2] h2 hop2 (by decide)) ?_
  rintro _ h3 ⟨eo, heo, rfl, to⟩
  have x3 : Ext h2 h3 := to.rows.ext
  have hops := opsTwin_at hop2 to
  have hho := opsTwin_hdr to
  have hstk := (ts.grow x3).stacks hsm
  have hel : es.l ≤ 9 := by
    have := ts.length
    have : (fewStacks sts0).length ≤ 9 := by unfold fewStacks; rw [List.length_map, List.length_take]; omega
    omega
  generalize fewStacks sts0 = sts at *
  rw [show fewOps [o1, o2] = [fewOp o1, fewOp o2] from rfl] at hops to
  generalize fewOp o1 = o at *
  generalize fewOp o2 = p at *
  have hol := hops.length
  have hol : eo.l = 2 := hol.symm
  have hcap := hops.rows.cap
  match heo, hops.len with
  | [d, e], _ =>
  obtain ⟨q, o', d', e1, e2, hq, oo, ro, qo⟩ := hops.get (i := 0) (by omega)
  cases e1; cases e2
  obtain ⟨q', o', d', e1, e2, hq', po, rp, qp⟩ := hops.get (i := 1) (by omega)
  cases e1; cases e2
  rw [hq] at hq'
  cases hq'
  have x03 := x02.trans x3
  refine ⟨_, _, _, rfl, q, hq, by decide, by omega, o.root, qo 1 _ rfl, q, hq, by decide, by omega, p.root, qp 1 _ rfl, ?_⟩
  rintro h3 rfl
  refine br_of (fun _ => works_yes x03 hm) (fun hne => ?_)
  have hne : o.root ≠ p.root := by simpa using hne
  have bnd : ∀ x ∈ [d, e], x.l ≤ 1099511627776 := fun x hx => by have := hho.2 x hx; omega
  have two := allC_two sts owner o p hne
  have owt := allC_two sts owner p o (Ne.symm hne)
  have one_ := allC_one sts owner o
  unfold F6_k1
  refine HEnt.use (all_ok es.a es.l es.c sts hes owner eo.a eo.l eo.c [o, p] [d, e] h3 hstk hops bnd (by omega) (hm.ext x03)) ?_
  rintro _ h4 ⟨a4, l4, c4, pl4, hs4, rfl, hpa4, hio4, x4⟩
  refine ⟨_, _, _, _, _, rfl, Ext, Ext.refl, fun _ _ _ => Ext.trans, q, hq, by decide, by omega, p.kind, p.root, p.name, p.ver, e.a, e.l, e.c, fun w x => run_loadAt (cs := (OpV.cells p e).toArray) (fun j v hj => (x4.trans x).some (qp j v (by simpa using hj))) Tryd.underlying25 rfl (by rw [size25]; rfl), q, hq, by decide, by omega, o.kind, o.root, o.name, o.ver, d.a, d.l, d.c, fun w x => run_loadAt (cs := (OpV.cells o d).toArray) (fun j v hj => (x4.trans x).some (qo j v (by simpa using hj))) Tryd.underlying25 rfl (by rw [size25]; rfl), rfl, rfl, by decide, newK_intro fun h5 hb5 x5 z5 => ?_⟩
  have x35 := x4.trans x5
  have hops5 := opsAt_two (el := 25) (o := p) (p := o) (d := e) (e := d) hb5 (x03.trans x35) ((x03.trans x4).size) (rp.grow x35) (ro.grow x35) po oo
  refine ⟨x5, HEnt.use (all_ok es.a es.l es.c sts hes owner _ 2 2 [p, o] [e, d] h5 (hstk.grow x35) hops5 (fun x hx => bnd x (by simp at hx ⊢; rcases hx with rfl | rfl; exact .inr rfl; exact .inl rfl)) (by omega) (hm.ext (x03.trans x35))) ?_⟩
  rintro _ h6 ⟨a6, l6, c6, pl6, hs6, rfl, hpa6, hio6, x6⟩
  have x36 := x35.trans x6
  have hc0 := (hops.cut (i := 0) rfl rfl).grow x36
  have hc1 := hops.cut (i := 1) rfl rfl
  refine ⟨_, _, _, _, _, rfl, x6, by decide, by decide, by omega, HEnt.use (all_ok es.a es.l es.c sts hes owner _ 1 _ [o] [d] h6 (hstk.grow x36) hc0 (fun x hx => bnd x (by simp at hx ⊢; exact .inl hx)) (by omega) (hm.ext (x03.trans x36))) ?_⟩
  rintro _ h7 ⟨a7, l7, c7, pl7, hs7, rfl, hpa7, hio7, x7⟩
  have x37 := x36.trans x7
  -- the first alone
  have sing : allC sts owner [o] = ([], 0, (doC (nowC sts [] o.root) owner o).2) ∧ (doC (nowC sts [] o.root) owner o).2 ≠ 0 ∨ allC sts owner [o] = ([(o.root, (doC (nowC sts [] o.root) owner o).1)], 0, 0) ∧ (doC (nowC sts [] o.root) owner o).2 = 0 := by
    rw [one_]
    by_cases g : (doC (nowC sts [] o.root) owner o).2 = 0
    · exact .inr ⟨if_neg (fun e => e g), g⟩
    · exact .inl ⟨if_pos g, g⟩
  have gps : ∀ (r : Int) (u : OpV) (d : Hdr), OpV.ok u → RefsAt h3 d.a d.l d.c u.refs → GoodPs (doC (nowC sts [] r) owner u).1 := fun r u d ku ru => good_one (sts := sts) (now_ok hsm (pl := []) ⟨by simp, by simp⟩ r) ⟨ku, ru.ok⟩
  have go := gps o.root o d oo ro
  have gp := gps p.root p e po rp
  have g7 : ∀ q ∈ (allC sts owner [o]).1, GoodPs q.2 := by
    rcases sing with ⟨s, _⟩ | ⟨s, _⟩ <;> rw [s] <;> intro q hq
    · simp at hq
    · simp at hq; subst hq; exact go
  have p7 : pl7 = (allC sts owner [o]).1 := by
    rcases sing with ⟨s, _⟩ | ⟨s, _⟩ <;> rw [s] at hio7 ⊢
    · exact inOrder_nil hio7
    · exact inOrder_sing hio7
  have nd7 : (((allC sts owner [o]).1).map Prod.fst).Nodup := by
    rcases sing with ⟨s, _⟩ | ⟨s, _⟩ <;> rw [s] <;> simp
  have n7 : nowC sts (allC sts owner [o]).1 p.root = nowC sts [] p.root := by
    rcases sing with ⟨s, _⟩ | ⟨s, _⟩ <;> rw [s]
    exact now_other sts _ hne
  have gpl7 : GoodPl (allC sts owner [o]).1 := by
    refine ⟨fun q hq => ⟨?_, g7 q hq⟩, nd7⟩
    rcases sing with ⟨s, _⟩ | ⟨s, g⟩ <;> rw [s] at hq
    · simp at hq
    · simp at hq; subst hq; exact doC_root g
  have zz7 : l7 ≤ 1 := by
    have := hpa7.length
    rw [p7] at this
    rcases sing with ⟨s, _⟩ | ⟨s, _⟩ <;> rw [s] at this <;> simp at this <;> omega
  subst p7
  refine ⟨_, _, _, _, _, rfl, Ext, Ext.refl, fun _ _ _ => Ext.trans, by decide, by omega, HEnt.use (put_ok es.a es.l es.c sts hes a7 l7 c7 _ hs7 h7 (hstk.grow x37) (hpa7.in_ g7) (by omega)) ?_⟩
  rintro _ h8 ⟨e8, es8, rfl, t8⟩
  have x8 : Ext h7 h8 := t8.ext
  have x38 := x37.trans x8
  have sm8 := putS_small hsm gpl7
  have l8 : e8.l = 6 := by have := t8.length; rw [putS_len] at this; exact this.symm
  refine ⟨_, _, _, rfl, x8, ?_⟩
  rw [show eo.l - 1 = 1 by omega]
  refine HEnt.use (all_ok e8.a e8.l e8.c _ es8 owner _ 1 _ [p] [e] h8 (t8.stacks sm8) (hc1.grow x38) (fun x hx => bnd x (by simp at hx ⊢; exact .inr hx)) (by omega) (hm.ext (x03.trans x38))) ?_
  rintro _ h9 ⟨a9, l9, c9, pl9, hs9, rfl, hpa9, hio9, x9⟩
  have x39 := x38.trans x9
  have x09 := x03.trans x39
  refine ⟨_, _, _, _, _, rfl, x9, ?_⟩
  rw [allC_one (putS sts _) owner p, doC_now sts owner p nd7, n7] at hio9 ⊢
  by_cases hz : (doC (nowC sts [] o.root) owner o).2 = 0 ∧ (doC (nowC sts [] p.root) owner p).2 = 0
  · obtain ⟨z1, z2⟩ := hz
    rw [if_neg (fun e => e z1), if_neg (fun e => e z2)] at two
    rw [if_neg (fun e => e z2), if_neg (fun e => e z1)] at owt
    rw [if_neg (fun e => e z1)] at one_
    rw [if_neg (fun e => e z2)] at hio9
    rw [if_neg (fun e => e z2)]
    rw [two] at hio4 ⊢
    rw [owt] at hio6 ⊢
    have := inOrder_sing hio9
    subst this
    have nd : (List.map Prod.fst [(o.root, (doC (nowC sts [] o.root) owner o).1), (p.root, (doC (nowC sts [] p.root) owner p).1)]).Nodup := by simp [hne]
    have e46 := inOrder_one hio4 hio6 (List.Perm.swap _ _ _) nd
    subst e46
    have g4 : ∀ q ∈ pl4, GoodPs q.2 := fun q hq => by
      have := hio4.1.mem_iff.1 hq
      simp at this
      rcases this with rfl | rfl
      · exact go
      · exact gp
    have ll4 : l4 = 2 := by rw [← hpa4.length, hio4.1.length_eq]; rfl
    have ll9 : l9 = 1 := hpa9.length.symm
    rw [one_] at t8 hpa7 ⊢
    unfold F6_k2 F6_k3 F6_k4
    refine br_of (fun e => by simp at e) (fun _ => br_of (fun _ => br_of (fun e => by simp at e) (fun _ => br_of (fun e => by simp at e) (fun _ => ?_))) (fun e => by simp at e))
    refine HEnt.use (put_ok es.a es.l es.c sts hes a7 l7 c7 _ hs7 h9 (hstk.grow x39) ((hpa7.in_ (fun q hq => by simp at hq; subst hq; exact go)).grow (x8.trans x9)) (by omega)) ?_
    rintro _ h10 ⟨e10, es10, rfl, t10⟩
    have x10 : Ext h9 h10 := t10.ext
    have sm10 : ∀ ps ∈ putS sts [(o.root, (doC (nowC sts [] o.root) owner o).1)], Small ps := putS_small hsm ⟨fun q hq => by simp at hq; subst hq; exact ⟨doC_root z1, go⟩, by simp⟩
    refine ⟨_, _, _, rfl, HEnt.use (put_ok e10.a e10.l e10.c _ es10 a9 l9 c9 _ hs9 h10 (t10.stacks sm10) ((hpa9.in_ (fun q hq => by simp at hq; subst hq; exact gp)).grow x10) (by omega)) ?_⟩
    rintro _ h11 ⟨e11, es11, rfl, t11⟩
    have x11 : Ext h10 h11 := t11.ext
    rw [putS_step sts p.root _ (by simp), show putP [(o.root, (doC (nowC sts [] o.root) owner o).1)] p.root (doC (nowC sts [] p.root) owner p).1 = [(o.root, (doC (nowC sts [] o.root) owner o).1), (p.root, (doC (nowC sts [] p.root) owner p).1)] by unfold putP; rw [if_neg hne]; rfl] at t11
    have x4_11 : Ext h4 h11 := (((((x5.trans x6).trans x7).trans x8).trans x9).trans x10).trans x11
    have x6_11 : Ext h6 h11 := ((((x7.trans x8).trans x9).trans x10).trans x11)
    refine ⟨_, _, _, rfl, HEnt.use (samePlans_ok a4 l4 c4 a6 l6 c6 pl4 hs4 hs6 h11 ((hpa4.in_ g4).grow x4_11) ((hpa6.in_ g4).grow x6_11) (by omega)) ?_⟩
    rintro _ h12 ⟨rfl, x12⟩
    refine ⟨true, rfl, br_of (fun _ => br_of (fun _ => ?_) (fun e => by simp at e; omega)) (fun e => by cases e)⟩
    have gpl : GoodPl [(o.root, (doC (nowC sts [] o.root) owner o).1), (p.root, (doC (nowC sts [] p.root) owner p).1)] := ⟨fun q hq => by
      simp at hq
      rcases hq with rfl | rfl
      · exact ⟨doC_root z1, go⟩
      · exact ⟨doC_root z2, gp⟩, nd⟩
    have sm := putS_small hsm gpl
    have x3_12 : Ext h3 h12 := ((x39.trans x10).trans x11).trans x12
    refine HEnt.use (put_ok es.a es.l es.c sts hes a4 l4 c4 pl4 hs4 h12 (hstk.grow x3_12) ((hpa4.in_ g4).grow (x4_11.trans x12)) (by omega)) ?_
    rintro _ h13 ⟨e13, es13, rfl, t13⟩
    have x13 : Ext h12 h13 := t13.ext
    rw [putS_perm sts hio4.1 nd] at t13
    refine ⟨_, _, _, rfl, HEnt.use (sameStacks_ok e13.a e13.l e13.c e11.a e11.l e11.c _ es13 es11 h13 (t13.stacks sm) ((t11.grow (x12.trans x13)).stacks sm) (by have := t13.length; rw [putS_len] at this; omega)) ?_⟩
    rintro _ h14 ⟨rfl, x14⟩
    exact ⟨true, rfl, br_of (fun _ => works_yes ((x03.trans x3_12).trans (x13.trans x14)) hm) (fun e => by cases e)⟩
  · -- refused, whichever comes first
    have t0 : (allC sts owner [o, p]).1 = [] ∧ (allC sts owner [o, p]).2.2 ≠ 0 := by
      rw [two]
      by_cases z1 : (doC (nowC sts [] o.root) owner o).2 = 0
      · rw [if_neg (fun e => e z1), if_pos (fun z2 => hz ⟨z1, z2⟩)]
        exact ⟨rfl, fun z2 => hz ⟨z1, z2⟩⟩
      · rw [if_pos z1]; exact ⟨rfl, z1⟩
    have t1 : (allC sts owner [p, o]).1 = [] ∧ (allC sts owner [p, o]).2.2 ≠ 0 := by
      rw [owt]
      by_cases z2 : (doC (nowC sts [] p.root) owner p).2 = 0
      · rw [if_neg (fun e => e z2), if_pos (fun z1 => hz ⟨z1, z2⟩)]
        exact ⟨rfl, fun z1 => hz ⟨z1, z2⟩⟩
      · rw [if_pos z2]; exact ⟨rfl, z2⟩
    have p4 : pl4 = [] := inOrder_nil (t0.1 ▸ hio4)
    have p6 : pl6 = [] := inOrder_nil (t1.1 ▸ hio6)
    have zz4 : l4 = 0 := by rw [← hpa4.length, p4]; rfl
    have zz6 : l6 = 0 := by rw [← hpa6.length, p6]; rfl
    have b4 : (((allC sts owner [o, p]).2.2 : Int) == 0) = false := by have := t0.2; simp; omega
    have b6 : (((allC sts owner [p, o]).2.2 : Int) == 0) = false := by have := t1.2; simp; omega
    rw [b4, b6]
    have fin : F6_k2 es.a es.l es.c a4 l4 c4 (allC sts owner [o, p]).2.2 a6 l6 c6 a7 l7 c7 a9 l9 c9 false h9 (yes h) := by
      unfold F6_k2 F6_k3
      refine br_of (fun e => by cases e) (fun _ => br_of (fun _ => br_of (fun _ => br_of (fun _ => works_yes x09 hm) (fun e => by simp at e; omega)) (fun e => by simp at e; omega)) (fun e => ?_))
      have := t0.2
      simp at e; omega
    refine br_of (fun e => by cases e) (fun _ => br_of (fun g => ?_) (fun _ => fin))
    have z1 : (doC (nowC sts [] o.root) owner o).2 = 0 := by
      rcases sing with ⟨s, z⟩ | ⟨s, z⟩
      · rw [s] at g; simp at g; exact g
      · exact z
    have z2 : (doC (nowC sts [] p.root) owner p).2 ≠ 0 := fun z2 => hz ⟨z1, z2⟩
    rw [if_pos z2]
    have : ((((doC (nowC sts [] p.root) owner p).2 : Nat) : Int) == 0) = false := by simp; omega
    rw [this]
    exact fin
end Go.Proofs.YtfknpbgneeefjaaDoor
