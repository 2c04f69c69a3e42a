/- Chapter 16: the law PartTakes, walked. -/
import Derived.Test.YtelddmkdclhpoaaPartT
namespace Go.Proofs.Ytelddmkdclhpoaa
open Go.Vc Go.Sha Go.Trail Go.Packs
set_option linter.unusedVariables false

theorem takeV_kinds (p : PartV) (m : MsgV) : ∀ x ∈ takeV p m, (x.kind = 2 ∧ x.packs = m.packs) ∨ (x.kind ≠ 2 ∧ x.packs = []) := by
  unfold takeV
  split
  · simp
  · split
    · unfold prepV
      split
      · simp
      · split
        · simp [sendV]
        · split
          · simp [sendV]
          · split <;> simp [sendV, doV]
    · split
      · unfold commitV
        split
        · simp [sendV, doV]
        · split
          · simp [sendV, doV]
          · split <;> simp [sendV]
      · split
        · split <;> simp [doV]
        · simp
theorem rdeeds_read {e0 : Hdr} {h0 h : Heap} {v : Value} {ds : List DeedV} {ps : List PackV} {es : List Hdr} (t : RDeeds e0 h0 v h ds) (hp : PacksAt h e0.a e0.l e0.c ps es) (hl : e0.l < 9223372036854775808) (hls : ∀ y ∈ es, y.l < 9223372036854775808) (hk : ∀ x ∈ ds, (x.kind = 2 ∧ x.packs = ps) ∨ (x.kind ≠ 2 ∧ x.packs = [])) : DeedRead h v ds := by
  obtain ⟨a, l, c, rfl, o⟩ := t
  have hlen : l = ds.length := by have := o.len; simpa using this.symm
  subst hlen
  refine ⟨a, c, rfl, fun i x hx => ?_⟩
  have hz : (ds.map (rowOf e0))[i]? = some (rowOf e0 x) := by rw [List.getElem?_map, hx]; rfl
  obtain ⟨q, e, _, hc⟩ := o.rows.get hz
  unfold rowOf at hc
  rcases hk x (List.mem_of_getElem? hx) with ⟨h2, hpk⟩ | ⟨h2, hpk⟩
  · rw [if_pos h2] at hc
    exact ⟨q, e0, es, e, hc, by rw [hpk]; exact hp, hl, hls⟩
  · rw [if_neg h2] at hc
    exact ⟨q, nilH, [], e, hc, by rw [hpk]; exact nilPacks _ _ _, by decide, by simp⟩

theorem takes_ok (p : PartV) (d : Hdr) (m : MsgV) (e : Hdr) (es : List Hdr) (h : Heap) (hn : NumsAt h d.a d.l d.c p.done) (hp : PacksAt h e.a e.l e.c m.packs es) :
    HEnt Try.prog 3 #[.agg (partCells p d).toArray, .agg (msgCells m e).toArray] h fun v h' => v = .bool true ∧ Ext h h' := by
  refine F3_ent _ _ _ _ _ _ _ _ _ _ _ _ _ _ _ ?_
  have oks := few_oks (PacksAt.oks hp)
  unfold F3
  refine (St.start h).new fun b2 h1 s1 _ _ => s1.new fun b3 h2 s2 _ _ => ?_
  refine ⟨p.root, p.staged, d.a, d.l, d.c, s2.cell 1 rfl rfl, s2.cell 1 rfl rfl, s2.cell 1 rfl rfl, rfl, m.kind, m.from_, m.to, m.txn, m.yes, e.a, e.l, e.c, s2.cell 0 rfl rfl, s2.cell 0 rfl rfl, s2.cell 0 rfl rfl, s2.cell 0 rfl rfl, s2.cell 0 rfl rfl, s2.cell 0 rfl rfl, rfl, ?_⟩
  refine HEnt.use (few_ok p d m e es h2 (NumsAt.grow hn s2.ext) (hp.grow s2.ext)) ?_
  rintro _ h3 ⟨d5, e6, es6, rfl, o3, t3, x3⟩
  refine ⟨p.root, p.staged, d5.a, d5.l, d5.c, m.kind, m.from_, m.to, m.txn, m.yes, e6.a, e6.l, e6.c, rfl, ?_⟩
  refine (s2.grow x3).new fun b5 h4 s4 x4 l5 => s4.new fun b6 h5 s5 x5 l6 => ?_
  refine s5.storeAll 1 rfl rfl zeroC24 (vs := (partCells p d5).toArray) (by simp [partCells, one]) fun h6 s6 on6 => ?_
  simp only [List.set_cons_zero, List.set_cons_succ] at s6
  refine s6.storeAll 0 rfl rfl zeroC27 (vs := (msgCells m e6).toArray) (by simp [msgCells, one]) fun h7 s7 on7 => ?_
  simp only [List.set_cons_zero] at s7
  have z4 := x4.size
  have x37 : Ext h3 h7 := ((((x4.trans x5).keep (fun k => k = b5 ∨ k = b6)).trans (on6.keep (.inl rfl))).trans (on7.keep (.inr rfl))).ext (fun k hk hs => by omega)
  refine ⟨p.root, p.staged, d.a, d.l, d.c, s7.cell 3 rfl rfl, s7.cell 3 rfl rfl, s7.cell 3 rfl rfl, rfl, m.kind, m.from_, m.to, m.txn, m.yes, e.a, e.l, e.c, s7.cell 2 rfl rfl, s7.cell 2 rfl rfl, s7.cell 2 rfl rfl, s7.cell 2 rfl rfl, s7.cell 2 rfl rfl, s7.cell 2 rfl rfl, rfl, ?_⟩
  refine HEnt.use (few_ok p d m e es h7 (NumsAt.grow hn s7.ext) (hp.grow s7.ext)) ?_
  rintro _ h8 ⟨d7, e8, es8, rfl, o8, t8, x8⟩
  refine ⟨p.root, p.staged, d7.a, d7.l, d7.c, m.kind, m.from_, m.to, m.txn, m.yes, e8.a, e8.l, e8.c, rfl, ?_⟩
  refine (s7.grow x8).new fun b7 h9 s9 x9 l7 => s9.new fun b8 h10 s10 x10 l8 => ?_
  refine s10.storeAll 1 rfl rfl zeroC24 (vs := (partCells p d7).toArray) (by simp [partCells, one]) fun h11 s11 on11 => ?_
  simp only [List.set_cons_zero, List.set_cons_succ] at s11
  refine s11.storeAll 0 rfl rfl zeroC27 (vs := (msgCells m e8).toArray) (by simp [msgCells, one]) fun h12 s12 on12 => ?_
  simp only [List.set_cons_zero] at s12
  have z9 := x9.size
  have x812 : Ext h8 h12 := ((((x9.trans x10).keep (fun k => k = b7 ∨ k = b8)).trans (on11.keep (.inl rfl))).trans (on12.keep (.inr rfl))).ext (fun k hk hs => by omega)
  have oA := (((o3.since s2.ext).grow x37).grow x8).grow x812
  have tA := (((TwinAt.since t3 s2.ext).grow x37).grow x8).grow x812
  have oB := (o8.since s7.ext).grow x812
  have tB := (TwinAt.since t8 s7.ext).grow x812
  have nA : NumsAt h12 d5.a d5.l d5.c (fewP p).done := oA.rows
  have nB : NumsAt h12 d7.a d7.l d7.c (fewP p).done := oB.rows
  have pA : PacksAt h12 e6.a e6.l e6.c (fewM m).packs es6 := tA.packs oks
  have pB : PacksAt h12 e8.a e8.l e8.c (fewM m).packs es8 := tB.packs oks
  have llA := few_len tA
  have llB := few_len tB
  have lnA := few_nums oA
  have lnB := few_nums oB
  refine ⟨fun a l c h' => Deeds h12 (.slice a l c) h' (takeV (fewP p) (fewM m)) ∧ Ext h12 h', ?_, ?_⟩
  · refine ⟨p.root, p.staged, d5.a, d5.l, d5.c, s12.cell 3 rfl rfl, s12.cell 3 rfl rfl, s12.cell 3 rfl rfl, rfl, m.kind, m.from_, m.to, m.txn, m.yes, e6.a, e6.l, e6.c, s12.cell 2 rfl rfl, s12.cell 2 rfl rfl, s12.cell 2 rfl rfl, s12.cell 2 rfl rfl, s12.cell 2 rfl rfl, s12.cell 2 rfl rfl, rfl, ?_⟩
    refine HEnt.use (take_ok (fewP p) d5 (fewM m) e6 es6 h12 nA (by omega) pA (by omega) (fun x hx => by have := llA.2 x hx; omega)) ?_
    rintro _ h13 ⟨t13, x13⟩
    obtain ⟨a, c, rfl⟩ := deeds_len t13
    exact ⟨a, _, c, rfl, t13, x13⟩
  rintro h13 a9 l9 c9 ⟨t13, x13⟩
  have s13 := s12.grow x13
  have kinds := takeV_kinds (fewP p) (fewM m)
  have lens := takeV_len (fewP p) (fewM m)
  have dok := few_deed_ok (P := fewP p) (PacksAt.oks hp)
  have q24 := fun {h' : Heap} (s : St h h' [⟨b8, (msgCells m e8).toArray, 27⟩, ⟨b7, (partCells p d7).toArray, 24⟩, ⟨b6, (msgCells m e6).toArray, 27⟩, ⟨b5, (partCells p d5).toArray, 24⟩, ⟨b3, (msgCells m e).toArray, 27⟩, ⟨b2, (partCells p d).toArray, 24⟩]) => s.quietAgg (P := Try.prog) 1 rfl Try.underlying24 rfl (by show 3 = Try.prog.cellsOf 24; rw [size24])
  have q24' := fun {h' : Heap} (s : St h h' [⟨b8, (msgCells m e8).toArray, 27⟩, ⟨b7, (partCells p d7).toArray, 24⟩, ⟨b6, (msgCells m e6).toArray, 27⟩, ⟨b5, (partCells p d5).toArray, 24⟩, ⟨b3, (msgCells m e).toArray, 27⟩, ⟨b2, (partCells p d).toArray, 24⟩]) => s.quietAgg (P := Try.prog) 3 rfl Try.underlying24 rfl (by show 3 = Try.prog.cellsOf 24; rw [size24])
  have q27 := fun {h' : Heap} (s : St h h' [⟨b8, (msgCells m e8).toArray, 27⟩, ⟨b7, (partCells p d7).toArray, 24⟩, ⟨b6, (msgCells m e6).toArray, 27⟩, ⟨b5, (partCells p d5).toArray, 24⟩, ⟨b3, (msgCells m e).toArray, 27⟩, ⟨b2, (partCells p d).toArray, 24⟩]) => s.quietAgg (P := Try.prog) 0 rfl Try.underlying27 rfl (by show 6 = Try.prog.cellsOf 27; rw [size27])
  unfold F3_k2
  refine ⟨Ext, Ext.refl, fun _ _ _ x y => x.trans y, p.root, p.staged, d7.a, d7.l, d7.c, q24 s13, m.kind, m.from_, m.to, m.txn, m.yes, e8.a, e8.l, e8.c, q27 s13, ?_⟩
  refine HEnt.use (refTake_ok (fewP p) d7 (fewM m) e8 es8 h13 (NumsAt.grow nB x13) (by omega) (pB.grow x13) (by omega)) ?_
  rintro _ h14 ⟨t14, x14⟩
  have r14 := rdeeds_read t14 ((pB.grow x13).grow x14) (by omega) (fun y hy => by have := llB.2 y hy; omega) kinds
  obtain ⟨a32, l32, c32, rfl, _⟩ := t14
  have r13 := (deeds_read t13 dok).grow x14
  refine ⟨a32, l32, c32, rfl, x14, HEnt.use (deeds_same _ _ _ h14 r13 r14 (by omega)) ?_⟩
  rintro _ h15 ⟨rfl, x15⟩
  have x1315 := x14.trans x15
  have s15 := s13.grow x1315
  refine ⟨true, rfl, x15, br_of (fun _ => ?_) (fun g => by cases g)⟩
  have nA15 := (NumsAt.grow nA x13).grow x1315
  have nB15 := (NumsAt.grow nB x13).grow x1315
  refine ⟨p.root, p.staged, d5.a, d5.l, d5.c, q24' s15, p.root, p.staged, d7.a, d7.l, d7.c, q24 s15, HEnt.use (good_ok (fewP p) d5 h15 nA15 (by omega)) ?_⟩
  rintro _ h16 ⟨rfl, x16⟩
  refine ⟨_, rfl, x16, HEnt.use (refGood_ok (fewP p) d7 h16 (NumsAt.grow nB15 x16) (by omega)) ?_⟩
  rintro _ h17 ⟨rfl, x17⟩
  have x1517 := x16.trans x17
  have s17 := s15.grow x1517
  refine ⟨_, rfl, x17, br_of (fun _ => ?_) (fun g => by simp at g)⟩
  refine ⟨d5.a, d5.l, d5.c, s17.quiet 3 rfl rfl Try.underlying22 rfl, d7.a, d7.l, d7.c, s17.quiet 1 rfl rfl Try.underlying22 rfl, HEnt.use (nums_same d5.a d5.l d5.c d7.a d7.l d7.c (fewP p).done h17 (NumsAt.grow nA15 x1517) (NumsAt.grow nB15 x1517) (by omega)) ?_⟩
  rintro _ h18 ⟨rfl, rfl⟩
  refine ⟨true, rfl, Ext.refl _, br_of (fun _ => ?_) (fun g => by cases g)⟩
  have x1218 := (x13.trans x1315).trans x1517
  refine ⟨e6.a, e6.l, e6.c, s17.quiet 2 rfl rfl Try.underlying25 rfl, e8.a, e8.l, e8.c, s17.quiet 0 rfl rfl Try.underlying25 rfl, HEnt.use (packs_same e6.a e6.l e6.c e8.a e8.l e8.c (fewM m).packs es6 es8 _ (pA.grow x1218) (pB.grow x1218) (by omega) (fun x hx => by have := llA.2 x hx; omega)) ?_⟩
  rintro _ h19 ⟨rfl, x19⟩
  refine ⟨true, rfl, x19, ?_⟩
  have s19 := s17.grow x19
  have x1319 := (x1315.trans x1517).trans x19
  obtain ⟨⟨ya, yl, yc⟩, hs, ey, t13⟩ := t13
  cases ey
  have hyl : yl = (takeV (fewP p) (fewM m)).length := by
    have := t13.rows.len
    rw [List.length_zipWith, t13.len, Nat.min_self] at this
    exact this.symm
  subst hyl
  generalize takeV (fewP p) (fewM m) = ds at *
  have pick : ∀ i : Nat, ∃ es : List Hdr, (∀ (x : DeedV) (dd : Hdr), ds[i]? = some x → hs[i]? = some dd → TwinAt h12 h13 dd x.packs es) ∧ ∀ f ∈ es, f.l < 9223372036854775808 := by
    intro i
    cases hx : ds[i]? with
    | none => exact ⟨[], fun x dd h => (by cases h), by simp⟩
    | some x =>
      cases hd : hs[i]? with
      | none => exact ⟨[], fun x dd _ h => (by cases h), by simp⟩
      | some dd =>
        obtain ⟨es, t⟩ := t13.packs i x dd hx hd
        refine ⟨es, fun x' dd' h h' => by cases h; cases h'; exact t, fun f hf => ?_⟩
        obtain ⟨k, hk⟩ := List.getElem?_of_mem hf
        have hlt := (List.getElem?_eq_some_iff.1 hk).1
        have hp' : x.packs[k]? = some (x.packs[k]'(by rw [← t.len]; exact hlt)) := List.getElem?_eq_getElem _
        have := (t.refs k _ f hp' hk).len
        rw [List.length_map] at this
        rw [← this]
        exact ((dok x (List.mem_of_getElem? hx)).2 _ (List.mem_of_getElem? hp')).2
  obtain ⟨ess, hess⟩ : ∃ ess : Nat → List Hdr, ∀ i : Nat, (∀ (x : DeedV) (dd : Hdr), ds[i]? = some x → hs[i]? = some dd → TwinAt h12 h13 dd x.packs (ess i)) ∧ ∀ f ∈ ess i, f.l < 9223372036854775808 := ⟨fun i => Classical.choose (pick i), fun i => Classical.choose_spec (pick i)⟩
  have hsl : ∀ dd ∈ hs, dd.l < 9223372036854775808 := by
    intro dd hdd
    obtain ⟨i, hi⟩ := List.getElem?_of_mem hdd
    have hlt := (List.getElem?_eq_some_iff.1 hi).1
    have hx : ds[i]? = some (ds[i]'(by rw [← t13.len]; exact hlt)) := List.getElem?_eq_getElem _
    have t := (hess i).1 _ dd hx hi
    have := t.rows.len
    rw [List.length_zipWith, t.len, Nat.min_self] at this
    rw [← this]
    exact (dok _ (List.mem_of_getElem? hx)).1
  have hL : ∀ (i : Nat) (l : Vc.Loc), [(⟨b8, (msgCells m e8).toArray, 27⟩ : Vc.Loc), ⟨b7, (partCells p d7).toArray, 24⟩, ⟨b6, (msgCells m e6).toArray, 27⟩, ⟨b5, (partCells p d5).toArray, 24⟩, ⟨b3, (msgCells m e).toArray, 27⟩, ⟨b2, (partCells p d).toArray, 24⟩][i]? = some l → l.t ≠ 46 := by
    intro i l hl
    match i, hl with
    | 0, hl => simp at hl; subst hl; exact Nat.ne_of_beq_eq_false rfl
    | 1, hl => simp at hl; subst hl; exact Nat.ne_of_beq_eq_false rfl
    | 2, hl => simp at hl; subst hl; exact Nat.ne_of_beq_eq_false rfl
    | 3, hl => simp at hl; subst hl; exact Nat.ne_of_beq_eq_false rfl
    | 4, hl => simp at hl; subst hl; exact Nat.ne_of_beq_eq_false rfl
    | 5, hl => simp at hl; subst hl; exact Nat.ne_of_beq_eq_false rfl
    | i + 6, hl => simp at hl
  refine spoil_ok (hT := h12) (L := _) s12.ext hL t13.len (fun h' s' => s'.cell 2 rfl rfl) (fun h' s' => s'.cell 0 rfl rfl) tA tB oks llA.1 llA.2 lens hsl (fun i => (hess i).2) ⟨(x13.trans x1319).keep _, s19, t13.rows.grow x1319, fun i x dd hx hd => ?_⟩
  have t := (hess i).1 x dd hx hd
  refine ⟨t.len, t.rows.grow x1319, fun f hf => ?_⟩
  obtain ⟨k, hk⟩ := List.getElem?_of_mem hf
  have hlt := (List.getElem?_eq_some_iff.1 hk).1
  have hp' : x.packs[k]? = some (x.packs[k]'(by rw [← t.len]; exact hlt)) := List.getElem?_eq_getElem _
  exact (inner_of (t.refs k _ f hp' hk) ((dok x (List.mem_of_getElem? hx)).2 _ (List.mem_of_getElem? hp')).1.2).grow x1319
end Go.Proofs.Ytelddmkdclhpoaa
