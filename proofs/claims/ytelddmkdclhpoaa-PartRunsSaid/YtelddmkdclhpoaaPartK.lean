/- Chapter 16: the arguments opened; the law PartForeign. -/
import Derived.Test.YtelddmkdclhpoaaPartJ
import Derived.Test.YtelddmkdclhpoaaVcX
namespace Go.Proofs.Ytelddmkdclhpoaa
open Go.Vc Go.Sha Go.Trail Go.Packs Go.ChangeShapes Go.WideShapes Go.ChangeAt Go.RowKit
set_option linter.unusedVariables false
variable {H : Type} {enc : TypeId × Value → H} {W : World} {hd : Bool}

theorem size44 : Try.prog.cellsOf 44 = 32 := by kernel_rfl
theorem size5 : Try.prog.cellsOf 5 = 1 := by kernel_rfl
theorem size4 : Try.prog.cellsOf 4 = 1 := by kernel_rfl
theorem size9 : Try.prog.cellsOf 9 = 1 := by kernel_rfl
theorem size40 : Try.prog.cellsOf 40 = 3 := by kernel_rfl
theorem size38 : Try.prog.cellsOf 38 = 1 := by kernel_rfl
theorem size25 : Try.prog.cellsOf 25 = 1 := by kernel_rfl
theorem size22 : Try.prog.cellsOf 22 = 1 := by kernel_rfl

theorem open_ref {m : Nat} {r : List Value} {y : DataW H × List MemPlace} (h : DataW.trod enc Try.prog W 0 (fun _ => true) hd m 46 r = some y) : ∃ v : RefV, r = v.cells ∧ v.ok := by
  have hl := trod_len Try.underlying46 h
  rw [size46] at hl
  obtain ⟨_, _, h0⟩ := trod_at Try.underlying46 h 0 (t' := 44) (o := 0) rfl size44
  obtain ⟨_, _, h1⟩ := trod_at Try.underlying46 h 1 (t' := 3) (o := 32) rfl size3
  obtain ⟨s, hs, hsl, hsb⟩ := arr_of Try.underlying44 Try.underlying5 size5 size44 (by simpa using h0)
  obtain ⟨z, hz, _⟩ := trod_int Try.underlying3 h1
  refine ⟨⟨s, z⟩, ?_, hsl, hsb⟩
  have h32 : r.drop 32 = [.int .i64 z] := by
    rw [← hz, List.take_of_length_le]
    rw [List.length_drop, hl]; omega
  unfold RefV.cells sumCells
  rw [← hs, ← h32, List.take_append_drop]
theorem open_refs {m : Nat} {r : List Value} {y : DataW H × List MemPlace} (h : DataW.trod enc Try.prog W 0 (fun _ => true) hd m 38 r = some y) : ∃ a l c rs, r = [.slice a l c] ∧ RefsAt W.heap a l c rs := by
  obtain ⟨a, l, c, rows, rfl, t, _, hr⟩ := trod_tab Try.underlying38 size46 (by omega) h
  obtain ⟨rs, rfl, hok⟩ := map_of (f := RefV.cells) (Q := RefV.ok) (fun r hr' => let ⟨_, _, h⟩ := hr r hr'; open_ref h)
  exact ⟨a, l, c, rs, rfl, t, hok⟩
theorem open_pack {m : Nat} {r : List Value} {y : DataW H × List MemPlace} (h : DataW.trod enc Try.prog W 0 (fun _ => true) hd m 42 r = some y) : ∃ (p : PackV) (d : Hdr), r = p.cells d ∧ p.ok ∧ RefsAt W.heap d.a d.l d.c p.refs := by
  have hl := trod_len Try.underlying42 h
  rw [size42] at hl
  match r, hl with
  | [c0, c1, c2, c3], _ =>
    obtain ⟨_, _, h0⟩ := trod_at Try.underlying42 h 0 (t' := 3) (o := 0) rfl size3
    obtain ⟨_, _, h1⟩ := trod_at Try.underlying42 h 1 (t' := 40) (o := 1) rfl size40
    obtain ⟨o, ho, _⟩ := trod_int Try.underlying3 h0
    obtain ⟨_, _, g0⟩ := trod_at Try.underlying40 h1 0 (t' := 9) (o := 0) rfl size9
    obtain ⟨_, _, g1⟩ := trod_at Try.underlying40 h1 1 (t' := 9) (o := 1) rfl size9
    obtain ⟨_, _, g2⟩ := trod_at Try.underlying40 h1 2 (t' := 38) (o := 2) rfl size38
    obtain ⟨nm, hnm, hn⟩ := trod_string_le Try.underlying9 g0
    obtain ⟨vr, hvr, hv⟩ := trod_string_le Try.underlying9 g1
    obtain ⟨a, l, c, rs, hsl, hr⟩ := open_refs g2
    simp at ho hnm hvr hsl
    subst ho; subst hnm; subst hvr; subst hsl
    exact ⟨⟨o, nm, vr, rs⟩, ⟨a, l, c⟩, rfl, ⟨hn, hv⟩, hr⟩
theorem open_packs {m : Nat} {r : List Value} {y : DataW H × List MemPlace} (h : DataW.trod enc Try.prog W 0 (fun _ => true) hd m 25 r = some y) : ∃ (a : Option Addr) (l c : Nat) (ps : List PackV) (ds : List Hdr), r = [.slice a l c] ∧ PacksAt W.heap a l c ps ds := by
  obtain ⟨a, l, c, rows, rfl, t, _, hr⟩ := trod_tab Try.underlying25 size42 (by omega) h
  obtain ⟨ps, ds, rfl, hlen, hok⟩ := zip_of (f := PackV.cells) (Q := fun p d => p.ok ∧ RefsAt W.heap d.a d.l d.c p.refs) (fun r hr' => let ⟨_, _, h⟩ := hr r hr'; open_pack h)
  refine ⟨a, l, c, ps, ds, rfl, hlen, t, fun i p d hp hd => (hok i p d hp hd).2, fun p hp => ?_⟩
  obtain ⟨i, hi⟩ := List.getElem?_of_mem hp
  have hlt := (List.getElem?_eq_some_iff.1 hi).1
  exact (hok i p _ hi (List.getElem?_eq_getElem (show i < ds.length by omega))).1
theorem open_nums {m : Nat} {r : List Value} {y : DataW H × List MemPlace} (h : DataW.trod enc Try.prog W 0 (fun _ => true) hd m 22 r = some y) : ∃ a l c ns, r = [.slice a l c] ∧ NumsAt W.heap a l c ns := by
  obtain ⟨a, l, c, rows, rfl, t, _, hr⟩ := trod_tab Try.underlying22 size3 (by omega) h
  obtain ⟨ns, rfl, _⟩ := map_of (f := fun n : Int => [Value.int .i64 n]) (Q := fun _ => True) (fun r hr' => let ⟨_, _, h⟩ := hr r hr'; let ⟨z, hz, _⟩ := trod_int Try.underlying3 h; ⟨z, hz, trivial⟩)
  exact ⟨a, l, c, ns, rfl, t⟩
theorem open_part {v : Value} {d : DataW H} {ps : List MemPlace} {b0 : Nat} {r : Reach} (hval : Value.okWide Try.prog W r b0 24 v) (h : DataW.Trod enc Try.prog W 0 (fun _ => true) hd 24 v d ps) : ∃ (p : PartV) (e : Hdr), v = .agg (partCells p e).toArray ∧ NumsAt W.heap e.a e.l e.c p.done := by
  obtain ⟨cs, rfl, _⟩ := okWide_struct Try.underlying24 hval
  obtain ⟨fuel, h⟩ := h
  simp only [Value.cells] at h
  have hl := trod_len Try.underlying24 h
  rw [size24] at hl
  obtain ⟨cs⟩ := cs
  simp only [] at h hl
  match cs, hl with
  | [c0, c1, c2], _ =>
    obtain ⟨_, _, h0⟩ := trod_at Try.underlying24 h 0 (t' := 3) (o := 0) rfl size3
    obtain ⟨_, _, h1⟩ := trod_at Try.underlying24 h 1 (t' := 3) (o := 1) rfl size3
    obtain ⟨_, _, h2⟩ := trod_at Try.underlying24 h 2 (t' := 22) (o := 2) rfl size22
    obtain ⟨z0, e0, _⟩ := trod_int Try.underlying3 h0
    obtain ⟨z1, e1, _⟩ := trod_int Try.underlying3 h1
    obtain ⟨a, l, c, ns, e2, hn⟩ := open_nums h2
    simp at e0 e1 e2
    subst e0; subst e1; subst e2
    exact ⟨⟨z0, z1, ns⟩, ⟨a, l, c⟩, rfl, hn⟩
theorem open_msg {v : Value} {d : DataW H} {ps : List MemPlace} {b0 : Nat} {r : Reach} (hval : Value.okWide Try.prog W r b0 27 v) (h : DataW.Trod enc Try.prog W 0 (fun _ => true) hd 27 v d ps) : ∃ (m : MsgV) (e : Hdr) (es : List Hdr), v = .agg (msgCells m e).toArray ∧ PacksAt W.heap e.a e.l e.c m.packs es := by
  obtain ⟨cs, rfl, _⟩ := okWide_struct Try.underlying27 hval
  obtain ⟨fuel, h⟩ := h
  simp only [Value.cells] at h
  have hl := trod_len Try.underlying27 h
  rw [size27] at hl
  obtain ⟨cs⟩ := cs
  simp only [] at h hl
  match cs, hl with
  | [c0, c1, c2, c3, c4, c5], _ =>
    obtain ⟨_, _, h0⟩ := trod_at Try.underlying27 h 0 (t' := 3) (o := 0) rfl size3
    obtain ⟨_, _, h1⟩ := trod_at Try.underlying27 h 1 (t' := 3) (o := 1) rfl size3
    obtain ⟨_, _, h2⟩ := trod_at Try.underlying27 h 2 (t' := 3) (o := 2) rfl size3
    obtain ⟨_, _, h3⟩ := trod_at Try.underlying27 h 3 (t' := 3) (o := 3) rfl size3
    obtain ⟨_, _, h4⟩ := trod_at Try.underlying27 h 4 (t' := 4) (o := 4) rfl size4
    obtain ⟨_, _, h5⟩ := trod_at Try.underlying27 h 5 (t' := 25) (o := 5) rfl size25
    obtain ⟨z0, e0, _⟩ := trod_int Try.underlying3 h0
    obtain ⟨z1, e1, _⟩ := trod_int Try.underlying3 h1
    obtain ⟨z2, e2, _⟩ := trod_int Try.underlying3 h2
    obtain ⟨z3, e3, _⟩ := trod_int Try.underlying3 h3
    obtain ⟨b4, e4⟩ := trod_bool Try.underlying4 h4
    obtain ⟨a, l, c, ps, ds, e5, hp⟩ := open_packs h5
    simp at e0 e1 e2 e3 e4 e5
    subst e0; subst e1; subst e2; subst e3; subst e4; subst e5
    exact ⟨⟨z0, z1, z2, z3, b4, ps⟩, ⟨a, l, c⟩, ds, rfl, hp⟩

/-! ### few, as it is used -/
theorem few_len {h0 h : Heap} {e : Hdr} {m : MsgV} {es : List Hdr} (t : TwinAt h0 h e (fewM m).packs es) : e.l ≤ 20 ∧ ∀ x ∈ es, x.l ≤ 20 := by
  constructor
  · have := t.rows.len
    rw [List.length_zipWith, t.len, Nat.min_self] at this
    rw [← this]
    simp [fewM, fewPacks]; omega
  · intro x hx
    obtain ⟨i, hi⟩ := List.getElem?_of_mem hx
    have hlt := (List.getElem?_eq_some_iff.1 hi).1
    have hp : (fewM m).packs[i]? = some ((fewM m).packs[i]'(by rw [← t.len]; exact hlt)) := List.getElem?_eq_getElem _
    have := (t.refs i _ x hp hi).len
    rw [List.length_map] at this
    rw [← this]
    have hm := List.mem_of_getElem? hp
    obtain ⟨q, _, hq⟩ := List.mem_map.1 hm
    rw [← hq]
    simp [fewPack]; omega
theorem few_nums {h0 h : Heap} {d : Hdr} {p : PartV} (o : OwnR 3 1 h0 h d.a d.l d.c (nums (fewP p).done)) : d.l ≤ 100 := by
  have := o.len
  rw [← this]
  simp [nums, fewP]; omega
theorem few_oks {ps : List PackV} (h : ∀ p ∈ ps, p.ok ∧ ∀ r ∈ p.refs, r.ok) : ∀ p ∈ fewPacks ps, p.ok ∧ ∀ r ∈ p.refs, r.ok := by
  intro p hp
  obtain ⟨q, hq, rfl⟩ := List.mem_map.1 hp
  have := h q (List.mem_of_mem_take hq)
  exact ⟨this.1, fun r hr => this.2 r (List.mem_of_mem_take hr)⟩
theorem deeds_len {h0 h : Heap} {v : Value} {ds : List DeedV} (t : Deeds h0 v h ds) : ∃ a c, v = .slice a ds.length c := by
  obtain ⟨a, c, e, _⟩ := deeds_cells t
  exact ⟨a, c, e⟩

theorem take_foreign {p : PartV} {m : MsgV} (h : m.to ≠ p.root ∨ m.from_ ≠ 0 ∨ m.kind = 2 ∨ m.kind = 5 ∨ m.kind = 6) : takeV p m = [] := by
  unfold takeV
  split
  · rfl
  · rename_i g
    have g : goodP p ∧ msgC m = 0 ∧ m.to = p.root := by
      refine ⟨Classical.not_not.1 fun x => g (.inl x), Classical.not_not.1 fun x => g (.inr (.inl x)), Classical.not_not.1 fun x => g (.inr (.inr x))⟩
    have hg : goesP m.kind m.from_ m.to := by
      have h0 := g.2.1
      unfold msgC at h0
      split at h0
      · cases h0
      · split at h0
        · cases h0
        · rename_i h2
          exact Classical.not_not.1 fun x => h2 (.inl x)
    have hr := g.1.1
    unfold goesP at hg
    by_cases hk : m.kind = 1 ∨ m.kind = 3 ∨ m.kind = 4
    · rw [if_pos hk] at hg
      rcases h with h | h | h
      · exact absurd g.2.2 h
      · exact absurd hg.1 h
      · omega
    · rw [if_neg (fun e => hk (.inl e)), if_neg (fun e => hk (.inr (.inl e))), if_neg (fun e => hk (.inr (.inr e)))]
theorem take_other {p : PartV} {m : MsgV} : takeV p { m with to := IntKind.i64.wrap (p.root.tmod 6 + 1) } = [] := by
  unfold takeV
  split
  · rfl
  · rename_i g
    exfalso
    refine g (.inr (.inr ?_))
    have hr : rootP p.root := (Classical.not_not.1 fun x => g (.inl x) : goodP p).1
    unfold rootP at hr
    show IntKind.i64.wrap (p.root.tmod 6 + 1) ≠ p.root
    have h6 : p.root = 1 ∨ p.root = 2 ∨ p.root = 3 ∨ p.root = 4 ∨ p.root = 5 ∨ p.root = 6 := by omega
    rcases h6 with e | e | e | e | e | e <;> rw [e] <;> decide

theorem foreign_ok (p : PartV) (d : Hdr) (m : MsgV) (e : Hdr) (es : List Hdr) (h : Heap) (hn : NumsAt h d.a d.l d.c p.done) (hp : PacksAt h e.a e.l e.c m.packs es) :
    HEnt Try.prog 8 #[.agg (partCells p d).toArray, .agg (msgCells m e).toArray] h fun v h' => v = .bool true ∧ Ext h h' := by
  refine F8_ent _ _ _ _ _ _ _ _ _ _ _ _ _ _ _ ?_
  unfold F8
  refine (St.start h).new fun b2 h1 s1 _ _ => s1.new fun b3 h2 s2 _ _ => ?_
  refine ⟨p.root, p.staged, d.a, d.l, d.c, s2.cell 1 rfl rfl, s2.cell 1 rfl rfl, s2.cell 1 rfl rfl, rfl, m.kind, m.from_, m.to, m.txn, m.yes, e.a, e.l, e.c, s2.cell 0 rfl rfl, s2.cell 0 rfl rfl, s2.cell 0 rfl rfl, s2.cell 0 rfl rfl, s2.cell 0 rfl rfl, s2.cell 0 rfl rfl, rfl, ?_⟩
  refine HEnt.use (few_ok p d m e es h2 (NumsAt.grow hn s2.ext) (hp.grow s2.ext)) ?_
  rintro _ h3 ⟨d', e', es', rfl, o3, t3, x3⟩
  refine ⟨p.root, p.staged, d'.a, d'.l, d'.c, m.kind, m.from_, m.to, m.txn, m.yes, e'.a, e'.l, e'.c, rfl, ?_⟩
  have s3 := s2.grow x3
  have lo2 := s2.lt (i := 1) rfl
  have lo3 := s2.lt (i := 0) rfl
  simp only at lo2 lo3
  refine s3.storeAll 1 rfl rfl rfl (vs := (partCells p d').toArray) (by simp [partCells, one]) fun h4 s4 on4 => ?_
  simp only [List.set_cons_zero, List.set_cons_succ] at s4
  refine s4.storeAll 0 rfl rfl rfl (vs := (msgCells m e').toArray) (by simp [msgCells, one]) fun h5 s5 on5 => ?_
  simp only [List.set_cons_zero] at s5
  have K5 : Keep (fun k => k < h2.size) h3 h5 := (on4.keep (S := fun k => k < h2.size) lo2).trans (on5.keep (S := fun k => k < h2.size) lo3)
  have o5 : OwnR 3 1 h h5 d'.a d'.l d'.c (nums (fewP p).done) := by
    have : Keep (fun k => k = b2 ∨ k = b3) h3 h5 := (on4.keep (S := fun k => k = b2 ∨ k = b3) (.inl rfl)).trans (on5.keep (S := fun k => k = b2 ∨ k = b3) (.inr rfl))
    have lo := (s2.at_ 1 _ rfl).1
    have lo' := (s2.at_ 0 _ rfl).1
    simp only at lo lo'
    exact (o3.since s2.ext).keep this (fun k hk hs => by omega) (fun k ek hs => by have := (o3.lt k ek).1; omega)
  have t5 : TwinAt h h5 e' (fewM m).packs es' := by
    have : Keep (fun k => k = b2 ∨ k = b3) h3 h5 := (on4.keep (S := fun k => k = b2 ∨ k = b3) (.inl rfl)).trans (on5.keep (S := fun k => k = b2 ∨ k = b3) (.inr rfl))
    have lo := (s2.at_ 1 _ rfl).1
    have lo' := (s2.at_ 0 _ rfl).1
    simp only at lo lo'
    exact (TwinAt.since t3 s2.ext).keep this (fun k hk hs => by omega) (fun k ek hs => by have := (t3.rows.lt k ek).1; omega) (fun i x hx k ek hs => by obtain ⟨_, o⟩ := t3.ref hx; have := (o.lt k ek).1; omega)
  have n5 : NumsAt h5 d'.a d'.l d'.c (fewP p).done := o5.rows
  have p5 : PacksAt h5 e'.a e'.l e'.c (fewM m).packs es' := t5.packs (few_oks (PacksAt.oks hp))
  have ll := few_len t5
  have ln := few_nums o5
  refine ⟨p.root, p.staged, d'.a, d'.l, d'.c, s5.cell 1 rfl rfl, s5.cell 1 rfl rfl, s5.cell 1 rfl rfl, rfl, m.kind, m.from_, m.to, m.txn, m.yes, e'.a, e'.l, e'.c, s5.cell 0 rfl rfl, s5.cell 0 rfl rfl, s5.cell 0 rfl rfl, s5.cell 0 rfl rfl, s5.cell 0 rfl rfl, s5.cell 0 rfl rfl, rfl, ?_⟩
  refine HEnt.use (take_ok (fewP p) d' (fewM m) e' es' h5 n5 (by omega) p5 (by omega) (fun x hx => by have := ll.2 x hx; omega)) ?_
  rintro _ h6 ⟨t6, x6⟩
  obtain ⟨a14, c14, rfl⟩ := deeds_len t6
  have s6 := s5.grow x6
  refine ⟨a14, _, c14, rfl, m.to, s6.cell 0 rfl rfl, p.root, s6.cell 1 rfl rfl, ?_⟩
  have fine : (m.to ≠ p.root ∨ m.from_ ≠ 0 ∨ m.kind = 2 ∨ m.kind = 5 ∨ m.kind = 6) → F8_k1 (at0 b2) (at0 b3) a14 (takeV (fewP p) (fewM m)).length c14 true h6 fun v h' => v = .bool true ∧ Ext h h' := by
    intro g
    rw [take_foreign (p := fewP p) (m := fewM m) g]
    unfold F8_k1
    refine br_of (fun _ => br_of (fun _ => HEnt.use (works_ok h6) ?_) (fun e => by cases e)) (fun e => by cases e)
    rintro _ h7 ⟨rfl, x7⟩
    exact ⟨true, rfl, rfl, s6.ext.trans x7⟩
  have rest : F8_k1 (at0 b2) (at0 b3) a14 (takeV (fewP p) (fewM m)).length c14 false h6 fun v h' => v = .bool true ∧ Ext h h' := by
    unfold F8_k1
    refine br_of (fun e => by cases e) (fun _ => ?_)
    unfold F8_k2
    refine ⟨p.root, s6.cell 1 rfl rfl, by omega, ?_⟩
    refine s6.store 0 rfl (k := 2) (Nat.le_of_ble_eq_true rfl) rfl fun h7 s7 on7 => ?_
    simp only [List.set_cons_zero] at s7
    have lo := (s6.at_ 0 _ rfl).1
    simp only at lo
    have K7 : Keep (· = b3) h6 h7 := on7.keep rfl
    have K67 : Keep (· = b3) h5 h7 := (x6.keep _).trans K7
    have o7 : OwnR 3 1 h h7 d'.a d'.l d'.c (nums (fewP p).done) := o5.keep K67 (fun k hk hs => by omega) (o5.loc_ne s5 (i := 0) rfl (Nat.ne_of_beq_eq_false rfl))
    have t7 : TwinAt h h7 e' (fewM m).packs es' := t5.keep K67 (fun k hk hs => by omega) (t5.rows.loc_ne s5 (i := 0) rfl (Nat.ne_of_beq_eq_false rfl)) (fun i x hx => by obtain ⟨_, o⟩ := t5.ref hx; exact o.loc_ne s5 (i := 0) rfl (Nat.ne_of_beq_eq_false rfl))
    refine ⟨p.root, p.staged, d'.a, d'.l, d'.c, s7.cell 1 rfl rfl, s7.cell 1 rfl rfl, s7.cell 1 rfl rfl, rfl, m.kind, m.from_, IntKind.i64.wrap (p.root.tmod 6 + 1), m.txn, m.yes, e'.a, e'.l, e'.c, s7.cell 0 rfl rfl, s7.cell 0 rfl rfl, s7.cell 0 rfl rfl, s7.cell 0 rfl rfl, s7.cell 0 rfl rfl, s7.cell 0 rfl rfl, rfl, ?_⟩
    have n7 : NumsAt h7 d'.a d'.l d'.c (fewP p).done := o7.rows
    have p7 : PacksAt h7 e'.a e'.l e'.c (fewM m).packs es' := t7.packs (few_oks (PacksAt.oks hp))
    refine HEnt.use (take_ok (fewP p) d' { fewM m with to := IntKind.i64.wrap ((fewP p).root.tmod 6 + 1) } e' es' h7 n7 (by omega) p7 (by omega) (fun x hx => by have := ll.2 x hx; omega)) ?_
    rintro _ h8 ⟨t8, x8⟩
    rw [take_other] at t8
    obtain ⟨a53, c53, rfl⟩ := deeds_len t8
    refine ⟨a53, _, c53, rfl, br_of (fun _ => HEnt.use (works_ok h8) ?_) (fun e => by cases e)⟩
    rintro _ h9 ⟨rfl, x9⟩
    exact ⟨true, rfl, rfl, (s7.ext.trans x8).trans x9⟩
  refine br_of (fun g => fine (.inl (by simpa using g))) (fun g1 => ⟨m.from_, s6.cell 0 rfl rfl, br_of (fun g => fine (.inr (.inl (by simpa using g)))) (fun g2 => ⟨m.kind, s6.cell 0 rfl rfl, br_of (fun g => fine (.inr (.inr (.inl (by simpa using g))))) (fun g3 => ⟨m.kind, s6.cell 0 rfl rfl, br_of (fun g => fine (.inr (.inr (.inr (.inl (by simpa using g)))))) (fun g4 => ⟨m.kind, s6.cell 0 rfl rfl, ?_⟩)⟩)⟩)⟩)
  by_cases g : m.kind = 6
  · rw [show ((m.kind : Int) == 6) = true by simp [g]]; exact fine (.inr (.inr (.inr (.inr g))))
  · rw [show ((m.kind : Int) == 6) = false by simp [g]]; exact rest
end Go.Proofs.Ytelddmkdclhpoaa
