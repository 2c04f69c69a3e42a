import Derived.Test.YtfknpbgneeefjaaDoorPlanR
import Derived.Test.YtfknpbgneeefjaaDoorVppG

namespace Go.Proofs.YtfknpbgneeefjaaDoor
open Go.Vc Go.Sha Go.Trail Go.Packs Go.Plan Go.Man
set_option linter.unusedVariables false
set_option linter.unusedSimpArgs false
set_option maxRecDepth 20000
theorem run_loadAt {P : Program} {w : World} {ad : Addr} {cs : Array Value} {t : TypeId} {d : TypeDesc} (hc : CellsAt w.heap ad cs.toList) (hd : P.underlying t = some d) (hp : plainD d = false) (hn : cs.size = P.cellsOf t) : (loadVar t ad).run P w = .ok (.agg cs) w := by
  have hr := run_cells (P := P) hc
  simp only [Array.length_toList] at hr
  unfold loadVar
  simp [Sem.run_bind, run_isAgg_true hd hp, run_size hd, ← hn, hr]
def yes (h : Heap) : Value → Heap → Prop := fun v h' => v = .bool true ∧ Ext h h'
theorem works_yes {h h1 : Heap} (x : Ext h h1) (hm : Ord.MaxAt h) : HCalls Tryd.prog 17 #[] h1 fun r h2 => ∃ b, r = .bool b ∧ yes h (.bool b) h2 := by
  refine HEnt.use (works_ok h1 (hm.ext x)) ?_
  rintro _ h2 ⟨rfl, x2⟩
  exact ⟨true, rfl, rfl, x.trans x2⟩
theorem few_len (ps : List PackV) : (fewPacks ps).length ≤ 20 := by unfold fewPacks; rw [List.length_map, List.length_take]; omega
theorem few_oks {ps : List PackV} (ok : ∀ p ∈ ps, p.ok ∧ ∀ r ∈ p.refs, r.ok) : ∀ p ∈ fewPacks ps, p.ok ∧ ∀ r ∈ p.refs, r.ok := by
  intro p hp
  unfold fewPacks at hp
  obtain ⟨q, hq, rfl⟩ := List.mem_map.1 hp
  have := ok q (List.mem_of_mem_take hq)
  exact ⟨this.1, fun r hr => this.2 r (List.mem_of_mem_take hr)⟩
theorem few_hdr {h0 h : Heap} {e : Hdr} {ps : List PackV} {es : List Hdr} (t : TwinAt h0 h e (fewPacks ps) es) : e.l ≤ 20 ∧ ∀ x ∈ es, x.l ≤ 20 := by
  refine ⟨by have := t.length; have := few_len ps; omega, fun x hx => ?_⟩
  obtain ⟨i, hi⟩ := List.getElem?_of_mem hx
  have hlt := (List.getElem?_eq_some_iff.1 hi).1
  have hl := t.len
  have p1 : (fewPacks ps)[i]? = some ((fewPacks ps)[i]'(by omega)) := List.getElem?_eq_getElem (by omega)
  have o := (t.refs i _ x p1 hi).len
  have hm := List.mem_of_getElem? p1
  generalize (fewPacks ps)[i]'(by omega) = p at *
  unfold fewPacks at hm
  obtain ⟨q, _, rfl⟩ := List.mem_map.1 hm
  rw [List.length_map] at o
  have : ((fewPack q).refs).length ≤ 20 := by unfold fewPack; simp only [List.length_take]; omega
  omega
theorem does_ok (a : Option Addr) (l c : Nat) (ps : List PackV) (ds : List Hdr) (owner : Int) (o : OpV) (dd : Hdr) (h : Heap) (hp : PacksAt h a l c ps ds) (hr : RefsAt h dd.a dd.l dd.c o.refs) (ho : OpV.ok o) (hl : l < 9223372036854775808) (hm : Ord.MaxAt h) :
    HEnt Tryd.prog 3 #[.slice a l c, .int .i64 owner, .agg (opA o dd)] h (yes h) := by
  have oks := few_oks (PacksAt.oks hp)
  have hrok : ∀ r ∈ (fewOp o).refs, r.ok := fun r hr' => hr.ok r (List.mem_of_mem_take hr')
  refine F3_ent _ _ _ _ _ _ _ _ _ _ _ _ _ ?_
  unfold F3
  refine newK_intro fun h1 hb1 x1 z1 => ?_
  have opn : ∀ {h' : Heap} {b : Nat}, h'[b]? = some (.cells (opA o dd) 25 (0, 0)) → Ext h h' → h.size ≤ b → OpsAt h' (some (at0 b)) 1 1 [o] [dd] := fun {h' b} hb x hsz => by
    have own : OwnR 25 5 h h' (some ⟨b, 0, none⟩) 1 1 [OpV.cells o dd] := OwnR.new_ (rows := [OpV.cells o dd]) hb x hsz (by intro r hr; simp at hr; subst hr; rfl) rfl
    refine ⟨rfl, own.rows, fun i o' d' h1 h2 => ?_, by intro x hx; simp at hx; subst hx; exact ho⟩
    match i, h1, h2 with
    | 0, h1, h2 => cases h1; cases h2; exact hr.grow x
  have stk : ∀ {h' : Heap} {K : Value → Heap → Prop}, Ext h h' → (∀ e es h'', TwinAt h' h'' e (fewPacks ps) es → K (.slice e.a e.l e.c) h'') → HCalls Tryd.prog 9 #[.slice a l c] h' K := fun x hK => by
    refine HEnt.use (packsOf_ok a l c ps ds _ (hp.grow x) hl) ?_
    rintro _ h'' ⟨e, es, rfl, t⟩
    exact hK e es h'' t
  have ops : ∀ {h' : Heap} {b : Nat} {K : Value → Heap → Prop}, h'[b]? = some (.cells (opA o dd) 25 (0, 0)) → Ext h h' → h.size ≤ b → (∀ e es h'', OpTwin h' h'' e [fewOp o] es → K (.slice e.a e.l e.c) h'') → HCalls Tryd.prog 10 #[.slice (some (at0 b)) 1 1] h' K := fun hb x hsz hK => by
    refine HEnt.use (opsOf_ok _ 1 1 [o] [dd] _ (opn hb x hsz) (by decide)) ?_
    rintro _ h'' ⟨e, es, rfl, t⟩
    exact hK e es h'' t
  have ld : ∀ {w : World}, Ext h1 w.heap → (loadVar 25 (at0 h.size)).run Tryd.prog w = .ok (.agg (opA o dd)) w := fun x => run_loadAgg (x.blk hb1) Tryd.underlying25 rfl (by rw [size25]; rfl)
  -- the one operation, out of its slice
  have one_ : ∀ {h0 h' : Heap} {e : Hdr} {es : List Hdr}, OpTwin h0 h' e [fewOp o] es → ∃ q d, e.a = some q ∧ e.l = 1 ∧ d.l ≤ 20 ∧ RefsAt h' d.a d.l d.c (fewOp o).refs ∧ ∀ j v, (OpV.cells (fewOp o) d)[j]? = some v → Vc.cell h' ((q.add (0 * 5)).add j) = some v := fun {h0 h' e es} t => by
    have hl1 := t.length
    obtain ⟨q, x, d, hx, hd, e1, _, hrr, hc⟩ := (t.ops (by intro x hx; simp at hx; subst hx; exact ⟨ho, hrok⟩)).get (i := 0) (by simp at hl1; omega)
    cases hx
    have hl2 := hrr.len
    have : (fewOp o).refs.length ≤ 20 := by unfold fewOp; simp only [List.length_take]; omega
    exact ⟨q, d, e1, by simp at hl1; omega, by omega, hrr, hc⟩
  refine ⟨fun a7 l7 c7 a8 l8 c8 hh => (∃ es, TwinAt h hh ⟨a7, l7, c7⟩ (fewPacks ps) es) ∧ (∃ es, OpTwin h hh ⟨a8, l8, c8⟩ [fewOp o] es) ∧ Ext h1 hh, ⟨Ext, Ext.refl, fun _ _ _ => Ext.trans, _, _, _, _, _, _, _, fun w x => ld x, ?_, ?_⟩, ?_⟩
  · refine stk x1 fun e es h2 t => ⟨_, _, _, rfl, t.ext, rfl, by decide, newK_intro fun h3 hb3 x3 z3 => ⟨x3, ?_⟩⟩
    have x2 : Ext h1 h2 := t.ext
    refine ops hb3 ((x1.trans x2).trans x3) (x1.trans x2).size fun e' es' h4 t' => ⟨_, _, _, rfl, t'.rows.ext, ⟨es, (t.since x1).grow (x3.trans t'.rows.ext)⟩, ⟨es', ⟨t'.len, t'.rows.since ((x1.trans x2).trans x3), fun i p d hp hd => (t'.refs i p d hp hd).since ((x1.trans x2).trans x3)⟩⟩, (x2.trans x3).trans t'.rows.ext⟩
  · refine ⟨rfl, by decide, newK_intro fun h2 hb2 x2 z2 => ⟨x2, ?_⟩⟩
    refine stk (x1.trans x2) fun e es h3 t => ⟨_, _, _, rfl, t.ext, ?_⟩
    have x3 : Ext h2 h3 := t.ext
    refine ops (x3.blk hb2) ((x1.trans x2).trans x3) x1.size fun e' es' h4 t' => ⟨_, _, _, rfl, t'.rows.ext, ⟨es, (t.since (x1.trans x2)).grow t'.rows.ext⟩, ⟨es', ⟨t'.len, t'.rows.since ((x1.trans x2).trans x3), fun i p d hp hd => (t'.refs i p d hp hd).since ((x1.trans x2).trans x3)⟩⟩, (x2.trans x3).trans t'.rows.ext⟩
  rintro h2 a7 l7 c7 a8 l8 c8 ⟨⟨es7, t7⟩, ⟨es8, t8⟩, x12⟩
  have x02 := x1.trans x12
  obtain ⟨q8, d8, hq8, hl8, hd8, hr8, hc8⟩ := one_ t8
  have hq8 : a8 = some q8 := hq8
  have hl8 : l8 = 1 := hl8
  have f7 := few_hdr t7
  unfold F3_k2
  refine ⟨fun a9 l9 c9 x hh => x = ((doC (fewPacks ps) owner (fewOp o)).2 : Int) ∧ ∃ es, TwinAt h2 hh ⟨a9, l9, c9⟩ (doC (fewPacks ps) owner (fewOp o)).1 es, ⟨q8, hq8, by decide, by omega, _, _, _, _, _, _, _, hc8 0 _ rfl, hc8 1 _ rfl, hc8 2 _ rfl, hc8 3 _ rfl, hc8 4 _ rfl, rfl, ?_⟩, ?_⟩
  · refine HEnt.use (do_ok a7 l7 c7 (fewPacks ps) es7 owner (fewOp o) d8 h2 (t7.packs oks) hr8 ho.1 ho.2 (by have : l7 ≤ 20 := f7.1; omega) (fun x hx => by have := f7.2 x hx; omega) (by omega) (hm.ext x02)) ?_
    rintro _ h3 ⟨e, es, rfl, t⟩
    exact ⟨_, _, _, _, rfl, rfl, es, t⟩
  rintro h3 a9 l9 c9 _ ⟨rfl, es9, t9⟩
  have x23 : Ext h2 h3 := t9.ext
  have x13 := x12.trans x23
  have x03 := x1.trans x13
  unfold F3_k4
  refine ⟨fun a11 l11 c11 x hh => x = ((doC (fewPacks ps) owner (fewOp o)).2 : Int) ∧ (∃ es, PacksAt hh a11 l11 c11 (doC (fewPacks ps) owner (fewOp o)).1 es) ∧ Ext h3 hh, ⟨Ext, Ext.refl, fun _ _ _ => Ext.trans, _, _, _, _, _, _, _, fun w x => ld (x13.trans x), ?_, ?_⟩, ?_⟩
  · refine stk x03 fun e es h4 t => ⟨_, _, _, rfl, t.ext, rfl, by decide, newK_intro fun h5 hb5 x5 z5 => ⟨x5, ?_⟩⟩
    have x4 : Ext h3 h4 := t.ext
    refine ops hb5 ((x03.trans x4).trans x5) (x03.trans x4).size fun e' es' h6 t' => ⟨_, _, _, rfl, t'.rows.ext, ?_⟩
    have x6 : Ext h5 h6 := t'.rows.ext
    obtain ⟨q, d, hq, hl', hd', hrr, hc⟩ := one_ t'
    have f := few_hdr t
    refine ⟨q, hq, by decide, by omega, _, _, _, _, _, _, _, fun w x => run_loadAt (cs := (OpV.cells (fewOp o) d).toArray) (fun j v hj => x.some (hc j v (by simpa using hj))) Tryd.underlying25 rfl (by rw [size25]; rfl), ?_⟩
    refine HEnt.use (refDo_ok e.a e.l e.c (fewPacks ps) es owner (fewOp o) d h6 ((t.grow (x5.trans x6)).packs oks) hrr ho.1 ho.2 (by omega)) ?_
    rintro _ h7 ⟨a', l', c', ds', rfl, hp', x7⟩
    exact ⟨_, _, _, _, rfl, x7, rfl, ⟨ds', hp'⟩, ((x4.trans x5).trans x6).trans x7⟩
  · refine ⟨rfl, by decide, newK_intro fun h4 hb4 x4 z4 => ⟨x4, ?_⟩⟩
    refine stk (x03.trans x4) fun e es h5 t => ⟨_, _, _, rfl, t.ext, ?_⟩
    have x5 : Ext h4 h5 := t.ext
    refine ops (x5.blk hb4) ((x03.trans x4).trans x5) x03.size fun e' es' h6 t' => ⟨_, _, _, rfl, t'.rows.ext, ?_⟩
    have x6 : Ext h5 h6 := t'.rows.ext
    obtain ⟨q, d, hq, hl', hd', hrr, hc⟩ := one_ t'
    have f := few_hdr t
    refine ⟨q, hq, by decide, by omega, _, _, _, _, _, _, _, fun w x => run_loadAt (cs := (OpV.cells (fewOp o) d).toArray) (fun j v hj => x.some (hc j v (by simpa using hj))) Tryd.underlying25 rfl (by rw [size25]; rfl), ?_⟩
    refine HEnt.use (refDo_ok e.a e.l e.c (fewPacks ps) es owner (fewOp o) d h6 ((t.grow x6).packs oks) hrr ho.1 ho.2 (by omega)) ?_
    rintro _ h7 ⟨a', l', c', ds', rfl, hp', x7⟩
    exact ⟨_, _, _, _, rfl, x7, rfl, ⟨ds', hp'⟩, ((x4.trans x5).trans x6).trans x7⟩
  rintro h4 a11 l11 c11 _ ⟨rfl, ⟨es11, p11⟩, x34⟩
  have hz := doC_zero (fewPacks ps) owner (fewOp o)
  have hres : ∀ p ∈ (doC (fewPacks ps) owner (fewOp o)).1, p.ok ∧ ∀ r ∈ p.refs, r.ok := fun p hp' => by
    rcases doC_mem _ _ _ p hp' with h | rfl
    · exact oks p h
    · exact lay_ok ho.1 ho.2 hrok
  have s9 := twin_small t9 hz
  have s9l : l9 ≤ 16 := s9.1
  unfold F3_k6
  refine ⟨Ext, Ext.refl, fun _ _ _ => Ext.trans, HEnt.use (packs_same a9 l9 c9 a11 l11 c11 (doC (fewPacks ps) owner (fewOp o)).1 es9 es11 h4 ((t9.grow x34).packs hres) p11 (by omega) (fun d hd => by have := s9.2 d hd; omega)) ?_⟩
  rintro _ h5 ⟨rfl, x5⟩
  have x25 := (x23.trans x34).trans x5
  have cc : ∀ {w : World}, Ext h5 w.heap → CellsAt w.heap (q8.add (0 * 5)) (OpV.cells (fewOp o) d8) := fun x j v hj => (x25.trans x).some (hc8 j v hj)
  refine ⟨true, rfl, x5, br_of (fun _ => br_of (fun _ => ?_) (fun e => by simp at e)) (fun e => by cases e)⟩
  refine ⟨q8, hq8, by decide, by omega, _, _, _, _, _, _, _, fun w x => run_loadAt (cs := (OpV.cells (fewOp o) d8).toArray) (cc x) Tryd.underlying25 rfl (by rw [size25]; rfl), q8, hq8, by decide, by omega, _, _, _, _, _, _, _, fun w x => run_loadAt (cs := (OpV.cells (fewOp o) d8).toArray) (cc x) Tryd.underlying25 rfl (by rw [size25]; rfl), ?_⟩
  refine HEnt.use (check_ok (fewOp o) d8 h5 (hr8.grow x25) ho.1 ho.2 (by omega)) ?_
  rintro _ h6 ⟨rfl, x6⟩
  refine ⟨_, rfl, x6, HEnt.use (refCheck_ok (fewOp o) d8 h6 (hr8.grow (x25.trans x6)) ho.1 ho.2) ?_⟩
  rintro _ h7 ⟨rfl, x7⟩
  have x27 := (x25.trans x6).trans x7
  have x37 : Ext h3 h7 := ((x34.trans x5).trans x6).trans x7
  refine ⟨_, rfl, x7, ?_⟩
  unfold F3_k7
  refine HEnt.use (spoil_ok ⟨a9, l9, c9⟩ es9 h2 h7 ((t9.grow x37).spoil fun p hp' r hr' => (hres p hp').2 r hr') (by show l9 < _; omega) (fun d hd => by have := s9.2 d hd; omega)) ?_
  rintro _ h8 ⟨rfl, k8⟩
  have x28 : Ext h2 h8 := Keep.since x27 k8 fun j hj e => by omega
  have x08 := x02.trans x28
  refine ⟨rfl, br_of (fun _ => ?_) (fun e => by simp at e)⟩
  refine stk x08 fun e es h9 t => ⟨_, _, _, rfl, ?_⟩
  have x9 : Ext h8 h9 := t.ext
  have l7' : l7 ≤ 20 := f7.1
  refine HEnt.use (packs_same a7 l7 c7 e.a e.l e.c (fewPacks ps) es7 es h9 ((t7.grow (x28.trans x9)).packs oks) (t.packs oks) (by omega) (fun d hd => by have := f7.2 d hd; omega)) ?_
  rintro _ h10 ⟨rfl, x10⟩
  exact ⟨true, rfl, br_of (fun _ => works_yes ((x08.trans x9).trans x10) hm) (fun e => by cases e)⟩
end Go.Proofs.YtfknpbgneeefjaaDoor
