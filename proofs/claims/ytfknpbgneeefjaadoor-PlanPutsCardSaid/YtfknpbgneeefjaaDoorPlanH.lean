import Derived.Test.YtfknpbgneeefjaaDoorPlanL
import Derived.Test.YtfknpbgneeefjaaDoorPlanSpec
import Derived.Test.YtfknpbgneeefjaaDoorVppG
import Derived.Test.YtfknpbgneeefjaaDoorVcU

namespace Go.Proofs.YtfknpbgneeefjaaDoor
open Go.Vc Go.Sha Go.Trail Go.Packs Go.Plan
set_option linter.unusedVariables false
set_option linter.unusedSimpArgs false
set_option maxRecDepth 20000
theorem at_cell {h : Heap} {b i : Nat} {cs : Array Value} {t : TypeId} {fr : Nat × Nat} (hb : h[b]? = some (.cells cs t fr)) : Vc.cell h ((at0 b).add i) = cs[i]? := by rw [add_at0, cell_blk hb]
def opA (o : OpV) (d : Hdr) : Array Value := #[.int .i64 o.kind, .int .i64 o.root, .string o.name, .string o.ver, .slice d.a d.l d.c]
theorem zsize61 : (zeroC Tryd.prog 61).size = 4 := by kernel_rfl
theorem seq_emp (s : ByteArray) : seq s ⟨#[]⟩ = decide (s.size = 0) := by
  rw [seq_lst]
  apply decide_eq_decide.2
  rw [← lst_len s]
  constructor
  · intro e; rw [e]; rfl
  · intro e; exact List.eq_nil_of_length_eq_zero e
theorem lays_ok (owner : Int) (o : OpV) (d : Hdr) (h : Heap) (hr : RefsAt h d.a d.l d.c o.refs) (hl : d.l ≤ 1099511627776) :
    HEnt Tryd.prog 31 #[.int .i64 owner, .agg (opA o d)] h fun v h' => ∃ e : Hdr, e.l = d.l ∧ v = .agg ((layV owner o).cells e).toArray ∧ OwnR 75 33 h h' e.a e.l e.c (o.refs.map RefV.cells) := by
  refine F31_ent _ _ _ _ _ _ _ _ _ _ ?_
  unfold F31
  refine newK_intro fun h1 hb1 x1 z1 => newK_intro fun h2 hb2 x2 z2 => ?_
  have hb1' := x2.blk hb1
  have ld : ∀ {w : World} (i : Nat) (v : Value), (opA o d)[i]? = some v → Keep (· = h1.size) h2 w.heap → Vc.cell w.heap ((at0 h.size).add i) = some v := fun i v hv k => by
    rw [at_cell (k.blk hb1' (by omega))]; exact hv
  refine ⟨Keep (· = h1.size), Keep.refl _, fun _ _ _ => Keep.trans, o.name, fun w k => run_loadCell (ld 2 _ rfl k) Tryd.underlying9 rfl, o.ver, fun w k => run_loadCell (ld 3 _ rfl k) Tryd.underlying9 rfl, d.a, d.l, d.c, fun w k => run_loadCell (ld 4 _ rfl k) Tryd.underlying23 rfl, ?_⟩
  refine HEnt.use (cloneRefs_ok d.a d.l d.c _ h2 ((hr.grow (x1.trans x2)).rows) (fun r hr => by obtain ⟨x, _, rfl⟩ := List.mem_map.1 hr; exact cells_one x) hl) ?_
  rintro _ h3 ⟨a', c', rfl, o3⟩
  have x3 := o3.ext
  refine ⟨a', d.l, c', rfl, x3.keep _, rfl, ?_⟩
  refine storeK_whole (vs := ((layV owner o).cells ⟨a', d.l, c'⟩).toArray) (x3.blk hb2) rfl zsize61 (pack_one (layV owner o) ⟨a', d.l, c'⟩) fun h4 hb4 o4 => ?_
  have k4 : Keep (· = h1.size) h3 h4 := o4.keep rfl
  refine ⟨k4, owner, o.name, o.ver, a', d.l, c', by rw [at_cell hb4]; rfl, by rw [at_cell hb4]; rfl, by rw [at_cell hb4]; rfl, by rw [at_cell hb4]; rfl, rfl, ⟨a', d.l, c'⟩, rfl, rfl, ?_⟩
  have o3' : OwnR 75 33 h h3 a' d.l c' (o.refs.map RefV.cells) := o3.since (x1.trans x2)
  refine o3'.keep k4 (fun k hk e => by omega) (fun k e e2 => ?_)
  rcases o3.own with ⟨e3, _⟩ | ⟨b, cs, e3, g1, g2, _⟩
  · rw [e] at e3; cases e3
  · rw [e] at e3; cases e3; omega
def zRef : RefV := ⟨List.replicate 32 0, 0⟩
theorem zRef_ok : zRef.ok := ⟨rfl, by decide⟩
theorem zRef_cells : mkCells (zeroC Tryd.prog 75) (1 * 33) = ([zRef.cells].flatten).toArray := by kernel_rfl
theorem manC_zero (nm : ByteArray) : manC nm ⟨#[48]⟩ [zRef] = if nameP (lst nm) then 0 else 2 := by
  have h0 : nameP (lst ⟨#[48]⟩) := by decide
  unfold manC
  by_cases h : nameP (lst nm)
  · rw [if_neg (by simp [h, h0]), if_pos h]; rfl
  · rw [if_pos (.inl h), if_neg h]
theorem check_ok (o : OpV) (d : Hdr) (h : Heap) (hr : RefsAt h d.a d.l d.c o.refs) (hn : o.name.size < 9223372036854775808) (hv : o.ver.size < 9223372036854775808) (hl : d.l ≤ 1099511627776) :
    HEnt Tryd.prog 14 #[.agg (opA o d)] h fun v h' => v = .int .i64 (opC o) ∧ Ext h h' := by
  have hrl := hr.len
  refine F14_ent _ _ _ _ _ _ _ _ _ ?_
  unfold F14
  refine newK_intro fun h1 hb1 x1 z1 => ?_
  have c0 : Vc.cell h1 ((at0 h.size).add 0) = some (.int .i64 o.kind) := by rw [at_cell hb1]; rfl
  have c1 : Vc.cell h1 ((at0 h.size).add 1) = some (.int .i64 o.root) := by rw [at_cell hb1]; rfl
  have c2 : Vc.cell h1 ((at0 h.size).add 2) = some (.string o.name) := by rw [at_cell hb1]; rfl
  have c3 : Vc.cell h1 ((at0 h.size).add 3) = some (.string o.ver) := by rw [at_cell hb1]; rfl
  have c4 : Vc.cell h1 ((at0 h.size).add 4) = some (.slice d.a d.l d.c) := by rw [at_cell hb1]; rfl
  have k3 : ¬ (o.kind < 1 ∨ o.kind > 3) → ¬ (o.root < 1 ∨ o.root > 6) → ∀ b, (b = true ↔ o.kind = 3 ∧ (o.ver.size ≠ 0 ∨ o.refs.length ≠ 0)) → F14_k3 (at0 h.size) b h1 fun v h' => v = .int .i64 (opC o) ∧ Ext h h' := by
    intro g1 g2 b hb
    unfold F14_k3
    refine br_of (fun e => ?_) (fun e => ⟨_, c0, br_of (fun g3 => ?_) (fun g3 => ?_)⟩)
    · obtain ⟨e1, e2⟩ := hb.1 e
      exact ⟨by unfold opC; rw [if_neg g1, if_neg g2, if_pos e1, if_pos e2]; rfl, x1⟩
    · have g3' : o.kind = 3 := by simpa using g3
      have hno : ¬ (o.ver.size ≠ 0 ∨ o.refs.length ≠ 0) := fun hh => by rw [hb.2 ⟨g3', hh⟩] at e; cases e
      refine ⟨Ext, Ext.refl, fun _ _ _ => Ext.trans, o.name, fun w x => run_loadCell (by rw [at_cell (x.blk hb1)]; rfl) Tryd.underlying9 rfl, by decide, by decide, by decide, by decide, newK_intro fun h2 n2 x2 _ => ⟨x2, ?_⟩⟩
      rw [zRef_cells] at n2
      have o2 : OwnR 75 33 h1 h2 (some ⟨h1.size, 0, none⟩) 1 1 [zRef.cells] := OwnR.new_ (rows := [zRef.cells]) n2 x2 (Nat.le_refl _) (by intro r hr; simp at hr; subst hr; rfl) rfl
      refine HEnt.use (man_ok o.name ⟨#[48]⟩ _ 1 1 [zRef] h2 ⟨o2.rows, by intro r hr; simp at hr; subst hr; exact zRef_ok⟩ hn (by decide)) ?_
      rintro _ h3 ⟨rfl, x3⟩
      refine ⟨_, rfl, x3, ?_, (x1.trans x2).trans x3⟩
      unfold opC; rw [if_neg g1, if_neg g2, if_pos g3', if_neg hno, manC_zero]
    · have g3' : ¬ o.kind = 3 := by simpa using g3
      unfold F14_k4
      refine ⟨_, _, _, _, _, _, _, c0, c1, c2, c3, c4, rfl, HEnt.use (lays_ok 0 o d h1 (hr.grow x1) hl) ?_⟩
      rintro _ h2 ⟨e2, hel, rfl, o2⟩
      refine ⟨_, _, _, _, _, _, rfl, HEnt.use (man_ok o.name o.ver e2.a e2.l e2.c o.refs h2 ⟨o2.rows, hr.ok⟩ hn hv) ?_⟩
      rintro _ h3 ⟨rfl, x3⟩
      refine ⟨_, rfl, ?_, (x1.trans o2.ext).trans x3⟩
      unfold opC; rw [if_neg g1, if_neg g2, if_neg g3']
  have k2 : ¬ (o.kind < 1 ∨ o.kind > 3) → ∀ b, (b = true ↔ (o.root < 1 ∨ o.root > 6)) → F14_k2 (at0 h.size) b h1 fun v h' => v = .int .i64 (opC o) ∧ Ext h h' := by
    intro g1 b hb
    unfold F14_k2
    refine br_of (fun e => ⟨by unfold opC; rw [if_neg g1, if_pos (hb.1 e)]; rfl, x1⟩) (fun e => ?_)
    have g2 : ¬ (o.root < 1 ∨ o.root > 6) := fun hh => by rw [hb.2 hh] at e; cases e
    refine ⟨_, c0, br_of (fun g3 => ⟨_, c3, ?_⟩) (fun g3 => k3 g1 g2 _ ?_)⟩
    · have g3' : o.kind = 3 := by simpa using g3
      rw [seq_emp]
      refine br_of (fun g4 => k3 g1 g2 _ ?_) (fun g4 => ⟨_, _, _, c4, k3 g1 g2 _ ?_⟩)
      · have g4' : o.ver.size ≠ 0 := by simpa using g4
        exact ⟨fun _ => ⟨g3', .inl g4'⟩, fun _ => rfl⟩
      · have g4' : o.ver.size = 0 := by simpa using g4
        simp only [decide_eq_true_eq]
        constructor
        · intro hh; exact ⟨g3', .inr (by omega)⟩
        · rintro ⟨_, hh | hh⟩
          · exact absurd g4' hh
          · omega
    · have g3' : ¬ o.kind = 3 := by simpa using g3
      exact ⟨fun e => (by cases e), fun e => absurd e.1 g3'⟩
  have k1 : ∀ b, (b = true ↔ (o.kind < 1 ∨ o.kind > 3)) → F14_k1 (at0 h.size) b h1 fun v h' => v = .int .i64 (opC o) ∧ Ext h h' := by
    intro b hb
    unfold F14_k1
    refine br_of (fun e => ⟨by unfold opC; rw [if_pos (hb.1 e)]; rfl, x1⟩) (fun e => ?_)
    have g1 : ¬ (o.kind < 1 ∨ o.kind > 3) := fun hh => by rw [hb.2 hh] at e; cases e
    refine ⟨_, c1, br_of (fun g => k2 g1 _ ?_) (fun g => ⟨_, c1, k2 g1 _ ?_⟩)⟩
    · have g' : o.root < 1 := by simpa using g
      exact ⟨fun _ => .inl g', fun _ => rfl⟩
    · have g' : ¬ o.root < 1 := by simpa using g
      simp only [decide_eq_true_eq]; omega
  refine ⟨_, c0, br_of (fun g => k1 _ ?_) (fun g => ⟨_, c0, k1 _ ?_⟩)⟩
  · have g' : o.kind < 1 := by simpa using g
    exact ⟨fun _ => .inl g', fun _ => rfl⟩
  · have g' : ¬ o.kind < 1 := by simpa using g
    simp only [decide_eq_true_eq]; omega
theorem refCheck_ok (o : OpV) (d : Hdr) (h : Heap) (hr : RefsAt h d.a d.l d.c o.refs) (hn : o.name.size < 9223372036854775808) (hv : o.ver.size < 9223372036854775808) :
    HEnt Tryd.prog 15 #[.agg (opA o d)] h fun v h' => v = .int .i64 (opC o) ∧ Ext h h' := by
  have hrl := hr.len
  refine F15_ent _ _ _ _ _ _ _ _ _ ?_
  unfold F15
  refine newK_intro fun h1 hb1 x1 z1 => ?_
  have c0 : Vc.cell h1 ((at0 h.size).add 0) = some (.int .i64 o.kind) := by rw [at_cell hb1]; rfl
  have c1 : Vc.cell h1 ((at0 h.size).add 1) = some (.int .i64 o.root) := by rw [at_cell hb1]; rfl
  have c2 : Vc.cell h1 ((at0 h.size).add 2) = some (.string o.name) := by rw [at_cell hb1]; rfl
  have c3 : Vc.cell h1 ((at0 h.size).add 3) = some (.string o.ver) := by rw [at_cell hb1]; rfl
  have c4 : Vc.cell h1 ((at0 h.size).add 4) = some (.slice d.a d.l d.c) := by rw [at_cell hb1]; rfl
  have k5 : ¬ (o.kind < 1 ∨ o.kind > 3) → ¬ (o.root < 1 ∨ o.root > 6) → o.kind = 3 → ∀ b, (b = true ↔ (o.ver.size ≠ 0 ∨ o.refs.length ≠ 0)) → F15_k5 (at0 h.size) b h1 fun v h' => v = .int .i64 (opC o) ∧ Ext h h' := by
    intro g1 g2 g3 b hb
    unfold F15_k5
    refine br_of (fun e => ⟨by unfold opC; rw [if_neg g1, if_neg g2, if_pos g3, if_pos (hb.1 e)]; rfl, x1⟩) (fun e => ?_)
    have hno : ¬ (o.ver.size ≠ 0 ∨ o.refs.length ≠ 0) := fun hh => by rw [hb.2 hh] at e; cases e
    unfold F15_k6
    refine ⟨_, c2, HEnt.use (refName_ok o.name hn h1) ?_⟩
    rintro _ h2 ⟨rfl, e2⟩
    subst e2
    refine ⟨_, rfl, br_of (fun g => ?_) (fun g => ?_)⟩
    · have g' : ¬ nameP (lst o.name) := by simpa using g
      exact ⟨by unfold opC; rw [if_neg g1, if_neg g2, if_pos g3, if_neg hno, if_neg g']; rfl, x1⟩
    · have g' : nameP (lst o.name) := by simpa using g
      unfold F15_k7
      exact ⟨by unfold opC; rw [if_neg g1, if_neg g2, if_pos g3, if_neg hno, if_pos g']; rfl, x1⟩
  have k3 : ¬ (o.kind < 1 ∨ o.kind > 3) → ∀ b, (b = true ↔ (o.root < 1 ∨ o.root > 6)) → F15_k3 (at0 h.size) b h1 fun v h' => v = .int .i64 (opC o) ∧ Ext h h' := by
    intro g1 b hb
    unfold F15_k3
    refine br_of (fun e => ⟨by unfold opC; rw [if_neg g1, if_pos (hb.1 e)]; rfl, x1⟩) (fun e => ?_)
    have g2 : ¬ (o.root < 1 ∨ o.root > 6) := fun hh => by rw [hb.2 hh] at e; cases e
    unfold F15_k4
    refine ⟨_, c0, br_of (fun g3 => ⟨_, c3, ?_⟩) (fun g3 => ?_)⟩
    · have g3' : o.kind = 3 := by simpa using g3
      rw [seq_emp]
      refine br_of (fun g4 => k5 g1 g2 g3' _ ?_) (fun g4 => ⟨_, _, _, c4, k5 g1 g2 g3' _ ?_⟩)
      · have g4' : o.ver.size ≠ 0 := by simpa using g4
        exact ⟨fun _ => .inl g4', fun _ => rfl⟩
      · have g4' : o.ver.size = 0 := by simpa using g4
        simp only [decide_eq_true_eq]
        constructor
        · intro hh; exact .inr (by omega)
        · rintro (hh | hh)
          · exact absurd g4' hh
          · omega
    · have g3' : ¬ o.kind = 3 := by simpa using g3
      unfold F15_k8
      refine ⟨_, c2, _, c3, _, _, _, c4, HEnt.use (refMan_ok o.name o.ver d.a d.l d.c o.refs h1 (hr.grow x1) hn hv) ?_⟩
      rintro _ h2 ⟨rfl, x2⟩
      refine ⟨_, rfl, ?_, x1.trans x2⟩
      unfold opC; rw [if_neg g1, if_neg g2, if_neg g3']
  have k1 : ∀ b, (b = true ↔ (o.kind < 1 ∨ o.kind > 3)) → F15_k1 (at0 h.size) b h1 fun v h' => v = .int .i64 (opC o) ∧ Ext h h' := by
    intro b hb
    unfold F15_k1
    refine br_of (fun e => ⟨by unfold opC; rw [if_pos (hb.1 e)]; rfl, x1⟩) (fun e => ?_)
    have g1 : ¬ (o.kind < 1 ∨ o.kind > 3) := fun hh => by rw [hb.2 hh] at e; cases e
    unfold F15_k2
    refine ⟨_, c1, br_of (fun g => k3 g1 _ ?_) (fun g => ⟨_, c1, k3 g1 _ ?_⟩)⟩
    · have g' : o.root < 1 := by simpa using g
      exact ⟨fun _ => .inl g', fun _ => rfl⟩
    · have g' : ¬ o.root < 1 := by simpa using g
      simp only [decide_eq_true_eq]; omega
  refine ⟨_, c0, br_of (fun g => k1 _ ?_) (fun g => ⟨_, c0, k1 _ ?_⟩)⟩
  · have g' : o.kind < 1 := by simpa using g
    exact ⟨fun _ => .inl g', fun _ => rfl⟩
  · have g' : ¬ o.kind < 1 := by simpa using g
    simp only [decide_eq_true_eq]; omega
end Go.Proofs.YtfknpbgneeefjaaDoor

namespace Go.Proofs.YtfknpbgneeefjaaDoor
open Go.Vc Go.Sha Go.Trail Go.Packs Go.Plan
set_option linter.unusedVariables false
set_option linter.unusedSimpArgs false
set_option maxRecDepth 20000
theorem tab_drop {n : Nat} {h : Heap} {a : Option Addr} {l c : Nat} {rows : List (List Value)} (w : Tab n h a l c rows) (k : Nat) (hk : k ≤ l) : Tab n h (cutAt c k n a) (l - k) (c - k) (rows.drop k) := by
  have hlen := w.len
  have hcap := w.cap
  refine ⟨by rw [List.length_drop, hlen], by omega, fun r hr => w.row r (List.mem_of_mem_drop hr), fun hne => ?_, fun e => ?_⟩
  · have hlt : k < rows.length := by
      refine Nat.lt_of_not_le fun hle => hne (List.drop_eq_nil_of_le hle)
    obtain ⟨b, o, e, hb, hc⟩ := w.at_ (fun e => by rw [e] at hlt; simp at hlt)
    refine ⟨b, o + k * n, ?_, hb, fun i r hi j v hj => ?_⟩
    · unfold cutAt; rw [if_neg (by omega), e]; simp [add_mk]
    · rw [List.getElem?_drop] at hi
      have := hc (k + i) r hi j v hj
      rw [Nat.add_mul] at this
      rw [← this]; congr 2; omega
  · unfold cutAt at e
    split at e
    · rw [w.nil e]; simp
    · rw [w.nil (by cases a <;> simp_all)]; simp
theorem atN_at : ∀ {ps : List PackV} {nm : List Nat} {j k : Nat} {p : PackV}, (∀ q ∈ ps.take j, lst q.name ≠ nm) → ps[j]? = some p → lst p.name = nm → atN nm ps k = some (k + j, p)
  | [], _, _, _, _, _, h, _ => by simp at h
  | q :: t, nm, 0, k, p, _, h, e => by
    simp at h; subst h
    unfold atN; rw [if_pos e]; rfl
  | q :: t, nm, j + 1, k, p, h0, h, e => by
    unfold atN
    rw [if_neg (h0 q (by simp)), atN_at (j := j) (k := k + 1) (fun r hr => h0 r (by simp [hr])) (by simpa using h) e]
    congr 2; omega
theorem atN_no : ∀ {ps : List PackV} {nm : List Nat} {k : Nat}, (∀ q ∈ ps, lst q.name ≠ nm) → atN nm ps k = none
  | [], _, _, _ => rfl
  | q :: t, nm, k, h => by
    unfold atN
    rw [if_neg (h q (by simp))]
    exact atN_no fun r hr => h r (by simp [hr])
def idxV (nm : List Nat) (ps : List PackV) : Int := match atN nm ps 0 with
  | some (k, _) => k
  | none => -1
theorem named_ok (p : PackV) (d : Hdr) (q : Addr) (nm : ByteArray) (h : Heap) (hq : Vc.cell h (q.add 2) = some (.string nm)) :
    HEnt Tryd.prog 29 #[.agg #[.int .i64 p.owner, .string p.name, .string p.ver, .slice d.a d.l d.c], .pointer (some q)] h fun v h' => v = .bool (decide (lst p.name = lst nm)) ∧ Ext h h' := by
  refine F29_ent _ _ _ _ _ _ _ _ _ ?_
  unfold F29
  refine (St.start h).new fun b h1 s1 x1 _ => ⟨_, s1.cell2 0 rfl rfl, _, x1.some hq, ?_, x1⟩
  rw [seq_names]
theorem index_ok (a : Option Addr) (l c : Nat) (ps : List PackV) (ds : List Hdr) (q : Addr) (nm : ByteArray) (h : Heap) (hp : PacksAt h a l c ps ds) (hl : l < 9223372036854775808) (hq : Vc.cell h (q.add 2) = some (.string nm)) :
    HEnt Tryd.prog 50 #[.slice a l c, .func (.func 29) #[] #[.pointer (some q)]] h fun v h' => v = .int .i64 (idxV (lst nm) ps) ∧ Ext h h' := by
  refine Two.F50_ent _ _ _ _ _ _ ?_
  have hlen := hp.length
  unfold Two.F50
  refine ⟨fun y h' => ∃ k : Nat, y = k ∧ k ≤ l ∧ (∀ q ∈ ps.take k, lst q.name ≠ lst nm) ∧ Ext h h', fun y _ => (l - y).toNat, ⟨0, rfl, by omega, by simp, Ext.refl h⟩, ?_⟩
  rintro h1 _ ⟨k, rfl, hk, hno, x1⟩
  unfold Two.F50_b1
  refine br_of (fun ht => ?_) (fun hf => ?_)
  · have hk' : k < l := by
      have : (k : Int) < (l : Int) := by simpa using ht
      omega
    obtain ⟨b, o, p, d, hpi, hdi, rfl, pok, _, hc⟩ := (hp.grow x1).at_ hk'
    unfold Two.F50_k2
    refine ⟨_, rfl, by omega, by omega, p.owner, p.name, p.ver, d.a, d.l, d.c, by rw [Int.toNat_natCast, add_mk, add_mk]; exact hc 0 _ rfl, by rw [Int.toNat_natCast, add_mk, add_mk]; exact hc 1 _ rfl, by rw [Int.toNat_natCast, add_mk, add_mk]; exact hc 2 _ rfl, by rw [Int.toNat_natCast, add_mk, add_mk]; exact hc 3 _ rfl, rfl, ?_⟩
    refine HEnt.use (named_ok p d q nm h1 (x1.some hq)) ?_
    rintro _ h2 ⟨rfl, x2⟩
    refine ⟨_, rfl, br_of (fun he => ?_) (fun he => ?_)⟩
    · have he' := of_decide_eq_true he
      refine ⟨?_, x1.trans x2⟩
      unfold idxV
      rw [atN_at (k := 0) hno hpi he', Nat.zero_add]
    · have he' := of_decide_eq_false he
      unfold Two.F50_k3
      rw [wrap_succ k _ hk' hl]
      refine ⟨⟨k + 1, rfl, by omega, fun r hr => ?_, x1.trans x2⟩, less_succ _ _ hk'⟩
      rw [takeR_succ hpi] at hr
      rcases List.mem_append.1 hr with hr | hr
      · exact hno r hr
      · simp at hr; subst hr; exact he'
  · have hk' : k = l := by
      have : ¬ (k : Int) < (l : Int) := by simpa using hf
      omega
    rw [List.take_of_length_le (by omega)] at hno
    unfold Two.F50_k4
    refine ⟨?_, x1⟩
    unfold idxV
    rw [atN_no hno]
theorem place_ok (a : Option Addr) (l c : Nat) (ps : List PackV) (ds : List Hdr) (q : Addr) (nm : ByteArray) (h : Heap) (hp : PacksAt h a l c ps ds) (hl : l < 9223372036854775808) (hq : Vc.cell h (q.add 2) = some (.string nm)) :
    HEnt Tryd.prog 28 #[.slice a l c, .func (.func 29) #[] #[.pointer (some q)]] h fun v h' => v = .int .i64 (idxV (lst nm) ps) ∧ Ext h h' := by
  refine F28_ent _ _ _ _ _ _ ?_
  unfold F28
  refine HEnt.use (index_ok a l c ps ds q nm h hp hl hq) ?_
  rintro _ h1 ⟨rfl, x1⟩
  exact ⟨_, rfl, rfl, x1⟩
theorem zero61 : (Tryd.prog.info? 61).bind (·.zero) = some (.agg #[.int .i64 0, .string ByteArray.empty, .string ByteArray.empty, .slice none 0 0]) := by kernel_rfl
theorem zcells61 : Builtin.zeroCells (Value.agg #[.int .i64 0, .string ByteArray.empty, .string ByteArray.empty, .slice none 0 0]).cells 1 = #[.int .i64 0, .string ByteArray.empty, .string ByteArray.empty, .slice none 0 0] := by kernel_rfl
theorem delete_ok (a : Option Addr) (l c k : Nat) (rows : List (List Value)) (h0 h : Heap) (o : OwnR 61 4 h0 h a l c rows) (h1 : ∀ r ∈ rows, ∀ u ∈ r, one u = true) (hk : k < l) (hl : l < 9223372036854775807) :
    HEnt Tryd.prog 32 #[.slice a l c, .int .i64 k, .int .i64 (IntKind.i64.wrap ((k : Int) + 1))] h fun v h' => v = .slice a (l - 1) c ∧ OwnR 61 4 h0 h' a (l - 1) c (rows.eraseIdx k) ∧ Keep (fun j => a = some ⟨j, 0, none⟩) h h' := by
  have hcap := o.cap
  have hlen := o.len
  refine F32_ent _ _ _ _ _ _ _ ?_
  unfold F32
  rw [wrap_succ k l hk (by omega)]
  refine ⟨by omega, by omega, by omega, by omega, br_of (fun e => ?_) (fun _ => ?_)⟩
  · have : (k : Int) = ((k + 1 : Nat) : Int) := by simpa using e
    omega
  unfold F32_k1
  refine ⟨by omega, by omega, by omega, by omega, by omega, fun h1' cl => ?_⟩
  obtain rfl := cl.eq
  rcases o.own with ⟨e, e2⟩ | ⟨b, cs, rfl, g1, g2, g3, g4⟩
  · subst e2; omega
  have src := (tab_drop o.rows (k + 1) (by omega)).src
  rw [Int.toNat_natCast, Int.toNat_natCast]
  have hc0 : cutAt c 0 4 (some ⟨b, 0, none⟩) = some ⟨b, 0, none⟩ := by
    unfold cutAt; split
    · rfl
    · simp [add_mk]
  rw [hc0]
  have hfl : ((rows.drop (k + 1)).flatten).length = (l - (k + 1)) * 4 := by rw [flat_len (fun r hr => o.row r (List.mem_of_mem_drop hr)), List.length_drop, hlen]
  refine appK_in (rows := []) (oo := 0) (l := k - 0) (c := c - 0) (new := rows.drop (k + 1)) size61 g2 (by omega) src (by rw [List.length_drop, hlen]) (fun r hr => o.row r (List.mem_of_mem_drop hr)) (fun r hr => h1 r (List.mem_of_mem_drop hr)) (by omega) fun h2 hb2 o2 => ?_
  have hl2 : k - 0 + (l - (k + 1)) = l - 1 := by omega
  rw [hl2]
  refine ⟨by omega, by omega, by omega, ?_⟩
  rw [Int.toNat_natCast, Int.toNat_natCast, show l - (l - 1) = 1 by omega]
  have hcut : cutAt (c - 0) (l - 1) 4 (some ⟨b, 0, none⟩) = some ⟨b, (l - 1) * 4, none⟩ := by
    unfold cutAt; rw [if_neg (by omega)]; simp [add_mk]
  rw [hcut]
  have hsz : ((cs.toList.take (0 + (k - 0) * 4) ++ (rows.drop (k + 1)).flatten ++ cs.toList.drop (0 + (k - 0) * 4 + (l - (k + 1)) * 4)).toArray).size = cs.size := by
    simp only [List.size_toArray, List.length_append, List.length_take, List.length_drop, hfl, Array.length_toList]
    omega
  refine semK_clear (el := 61) Tryd.underlying22 zero61 (by decide) hb2 (by rw [zcells61, hsz]; show (l - 1) * 4 + 4 ≤ _; omega) (by rw [zcells61]; intro u hu; simp at hu; rcases hu with rfl | rfl | rfl | rfl <;> rfl) fun h3 hb3 o3 => ?_
  rw [zcells61] at hb3
  have kk : Keep (fun j => (some ⟨b, 0, none⟩ : Option Addr) = some ⟨j, 0, none⟩) h1' h3 := (o2.keep (S := fun j => (some ⟨b, 0, none⟩ : Option Addr) = some ⟨j, 0, none⟩) rfl).trans (o3.keep rfl)
  refine ⟨rfl, ⟨by rw [List.length_eraseIdx, if_pos (by omega), hlen], by omega, fun r hr => o.row r (List.mem_of_mem_eraseIdx hr), .inr ⟨b, _, rfl, g1, hb3, ?_, ?_⟩, ?_⟩, kk⟩
  · simp only [List.size_toArray, List.length_append, List.length_take, List.length_drop, hfl, Array.length_toList, List.length_cons, List.length_nil, List.toList_toArray]
    omega
  · have e1 : cs.toList.take (k * 4) = (rows.take k).flatten := by
      have : cs.toList.take (k * 4) = (cs.toList.take (l * 4)).take (k * 4) := by rw [List.take_take, Nat.min_eq_left (by omega)]
      rw [this, g4]
      conv => lhs; rw [← List.take_append_drop k rows, List.flatten_append]
      have : ((rows.take k).flatten).length = k * 4 := by rw [flat_len (fun r hr => o.row r (List.mem_of_mem_take hr)), List.length_take, hlen, Nat.min_eq_left (by omega)]
      rw [List.take_append_of_le_length (by omega), List.take_of_length_le (by omega)]
    have e2 : ((rows.take k).flatten).length = k * 4 := by rw [flat_len (fun r hr => o.row r (List.mem_of_mem_take hr)), List.length_take, hlen, Nat.min_eq_left (by omega)]
    simp only [List.toList_toArray, Nat.zero_add, Nat.sub_zero, e1]
    rw [List.append_assoc, List.append_assoc, List.take_append_of_le_length (by simp only [List.length_take, List.length_append, e2, hfl, List.length_drop, Array.length_toList]; omega)]
    rw [List.take_take, Nat.min_self, List.take_append, e2, List.take_of_length_le (l := (rows.take k).flatten) (by omega), List.take_append_of_le_length (by rw [hfl]; omega), List.take_of_length_le (l := (rows.drop (k + 1)).flatten) (by rw [hfl]; omega), List.eraseIdx_eq_take_drop_succ, List.flatten_append]
  · exact Keep.since o.ext kk fun j hj e => by cases e; omega
end Go.Proofs.YtfknpbgneeefjaaDoor

namespace Go.Vc
set_option linter.unusedVariables false
theorem OwnR.keepT {S : Nat → Prop} {el : TypeId} {n : Nat} {h0 h h' : Heap} {a : Option Addr} {l c : Nat} {rows : List (List Value)} (o : OwnR el n h0 h a l c rows) (x : Keep S h h') (h1 : ∀ k, k < h0.size → ¬ S k) (h2 : ∀ k cs, h[k]? = some (.cells cs el (0, 0)) → ¬ S k) : OwnR el n h0 h' a l c rows := by
  refine o.keep x h1 fun k e => ?_
  rcases o.own with ⟨e2, _⟩ | ⟨b, cs, e2, _, g2, _⟩
  · rw [e] at e2; cases e2
  · rw [e] at e2; cases e2; exact h2 _ _ g2
theorem flat_setRow {n : Nat} : ∀ {rows : List (List Value)} {i : Nat} {r : List Value}, (∀ q ∈ rows, q.length = n) → i < rows.length → (rows.set i r).flatten = rows.flatten.take (i * n) ++ r ++ rows.flatten.drop (i * n + n)
  | [], i, r, _, h => by simp at h
  | q :: rs, 0, r, hq, _ => by
    have := hq q (by simp)
    rw [List.set_cons_zero, List.flatten_cons, List.flatten_cons, Nat.zero_mul, List.take_zero, List.nil_append, Nat.zero_add, List.drop_append, List.drop_of_length_le (by omega), List.nil_append, show n - q.length = 0 by omega, List.drop_zero]
  | q :: rs, i + 1, r, hq, h => by
    have h0 := hq q (by simp)
    have ih := flat_setRow (rows := rs) (i := i) (r := r) (fun p hp => hq p (by simp [hp])) (by simpa using h)
    have e : (i + 1) * n = q.length + i * n := by rw [Nat.succ_mul, h0]; omega
    rw [List.set_cons_succ, List.flatten_cons, List.flatten_cons, ih, e, List.take_append, List.take_of_length_le (l := q) (by omega), show q.length + i * n - q.length = i * n by omega, Nat.add_assoc, List.drop_append, List.drop_of_length_le (l := q) (by omega), List.nil_append, show q.length + (i * n + n) - q.length = i * n + n by omega]
    simp only [List.append_assoc]
theorem OwnR.storeRow {el : TypeId} {n : Nat} {h0 h : Heap} {a : Option Addr} {l c : Nat} {rows : List (List Value)} {i : Nat} {r : List Value} {q : Addr} {K : Heap → Prop} (o : OwnR el n h0 h a l c rows) (hi : i < l) (hr : r.length = n) (h1 : ∀ u ∈ r, one u = true) (hq : a = some q)
    (hK : ∀ h', OwnR el n h0 h' a l c (rows.set i r) → (∀ b, a = some ⟨b, 0, none⟩ → Only b h h') → K h') : storeK n h (q.add (i * n)) (.agg r.toArray) K := by
  have hlen := o.len
  rcases o.own with ⟨e, _⟩ | ⟨b, cs, e, g1, g2, g3, g4⟩
  · rw [e] at hq; cases hq
  · rw [e] at hq; cases hq
    have hmul : (i + 1) * n ≤ l * n := Nat.mul_le_mul_right n (by omega)
    have hcap : l * n ≤ c * n := Nat.mul_le_mul_right n o.cap
    rw [Nat.succ_mul] at hmul
    rw [add_mk, Nat.zero_add]
    have hsz : (cs.toList.take (i * n) ++ r ++ cs.toList.drop (i * n + n)).length = cs.size := by
      simp only [List.length_append, List.length_take, List.length_drop, Array.length_toList, hr]; omega
    refine storeK_row (vs := r.toArray) g2 (by simp [hr]) (by omega) (fun i _ _ => .inr (Nat.zero_le _)) (by simpa using h1) fun h' hb ho => hK h' ⟨by rw [List.length_set]; exact o.len, o.cap, fun q hq => ?_, .inr ⟨b, _, e, g1, hb, Nat.le_trans g3 (Nat.le_of_eq hsz.symm), ?_⟩, ?_⟩ (fun b' e' => by rw [e] at e'; cases e'; exact ho)
    · rcases List.mem_or_eq_of_mem_set hq with hq | rfl
      · exact o.row q hq
      · exact hr
    · rw [flat_setRow o.row (by omega), ← g4]
      have e1 : (cs.toList.take (l * n)).take (i * n) = cs.toList.take (i * n) := by rw [List.take_take, Nat.min_eq_left (by omega)]
      rw [e1, List.append_assoc, List.append_assoc, List.take_append, List.length_take, Array.length_toList, Nat.min_eq_left (by omega), List.take_of_length_le (by rw [List.length_take, Array.length_toList]; omega), List.take_append, List.take_of_length_le (l := r) (by omega), List.drop_take, hr]
      congr 2
      congr 1
      omega
    · exact ⟨Nat.le_trans o.ext.size (Nat.le_of_eq ho.size.symm), fun k hk => (ho.block k (by omega)).trans (o.ext.block k hk)⟩
end Go.Vc
namespace Go.Proofs.YtfknpbgneeefjaaDoor
open Go.Vc Go.Sha Go.Trail Go.Packs Go.Plan
set_option linter.unusedVariables false
set_option linter.unusedSimpArgs false
set_option maxRecDepth 20000
theorem TwinAt.nil {h0 h : Heap} (x : Ext h0 h) : TwinAt h0 h ⟨none, 0, 0⟩ [] [] := ⟨rfl, OwnR.nil _ _ x, fun i p d hp _ => by simp at hp⟩
theorem TwinAt.since {h0 h1 h : Heap} {e : Hdr} {ps : List PackV} {es : List Hdr} (t : TwinAt h1 h e ps es) (x : Ext h0 h1) : TwinAt h0 h e ps es :=
  ⟨t.len, t.rows.since x, fun i p d hp hd => (t.refs i p d hp hd).since x⟩
theorem TwinAt.ext {h0 h : Heap} {e : Hdr} {ps : List PackV} {es : List Hdr} (t : TwinAt h0 h e ps es) : Ext h0 h := t.rows.ext
theorem TwinAt.length {h0 h : Heap} {e : Hdr} {ps : List PackV} {es : List Hdr} (t : TwinAt h0 h e ps es) : ps.length = e.l := by
  have := t.rows.len
  rw [List.length_zipWith, t.len, Nat.min_self] at this; exact this
theorem TwinAt.keepT {S : Nat → Prop} {h0 h h' : Heap} {e : Hdr} {ps : List PackV} {es : List Hdr} (t : TwinAt h0 h e ps es) (x : Keep S h h') (h1 : ∀ k, k < h0.size → ¬ S k) (h2 : ∀ k cs el, h[k]? = some (.cells cs el (0, 0)) → (el = 61 ∨ el = 75) → ¬ S k) : TwinAt h0 h' e ps es :=
  ⟨t.len, t.rows.keepT x h1 fun k cs g => h2 k cs 61 g (.inl rfl), fun i p d hp hd => (t.refs i p d hp hd).keepT x h1 fun k cs g => h2 k cs 75 g (.inr rfl)⟩
/-- the rows lie in a block of their type -/
theorem own_type {el : TypeId} {n : Nat} {h0 h : Heap} {a : Option Addr} {l c : Nat} {rows : List (List Value)} (o : OwnR el n h0 h a l c rows) {k : Nat} (e : a = some ⟨k, 0, none⟩) : h0.size ≤ k ∧ k < h.size ∧ ∀ cs el', h[k]? = some (.cells cs el' (0, 0)) → el' = el := by
  rcases o.own with ⟨e2, _⟩ | ⟨b, cs, e2, g1, g2, _⟩
  · rw [e] at e2; cases e2
  · rw [e] at e2; cases e2
    refine ⟨g1, blk_lt g2, fun cs' el' g => ?_⟩
    rw [g2] at g
    injection g with g; injection g with _ g; exact g.symm
theorem TwinAt.app {h0 h : Heap} {e d : Hdr} {ps : List PackV} {es : List Hdr} {p : PackV} {b : Nat} {K : Option Addr → Nat → Nat → Heap → Prop} (t : TwinAt h0 h e ps es) (hd : OwnR 75 33 h0 h d.a d.l d.c (p.refs.map RefV.cells)) (hb : h[b]? = some (.cells (p.cells d).toArray 61 (0, 0))) (room : e.l < 1099511627776)
    (hK : ∀ e' h', e'.l = e.l + 1 → TwinAt h0 h' e' (ps ++ [p]) (es ++ [d]) → K e'.a e'.l e'.c h') : appK Tryd.prog 61 h e.a e.l e.c (.slice (some (at0 b)) 1 1) K := by
  refine appK_R (new := [p.cells d]) (m := 1) size61 t.rows (srcK_slice rfl (fun ad e => by cases e; exact cells_blk0 hb) (by rintro ⟨⟩)) rfl (by intro r hr; simp at hr; subst hr; rfl) (by intro r hr; simp at hr; subst hr; exact pack_one p d) (by rw [bytes61]; omega) z61 fun a' c' h' o' k' _ => hK ⟨a', e.l + 1, c'⟩ h' rfl ⟨by simp [t.len], ?_, fun i q x hq hx => ?_⟩
  · have : List.zipWith PackV.cells (ps ++ [p]) (es ++ [d]) = List.zipWith PackV.cells ps es ++ [p.cells d] := by
      rw [List.zipWith_append t.len.symm]; rfl
    rw [this]; exact o'
  · have keepR : ∀ {a : Option Addr} {l c : Nat} {rows : List (List Value)}, OwnR 75 33 h0 h a l c rows → OwnR 75 33 h0 h' a l c rows := fun o => by
      refine o.keepT k' (fun k hk e => ?_) (fun k cs g e => ?_)
      · rcases e with e | e
        · have := (own_type t.rows e).1; omega
        · have := t.rows.ext.size; omega
      · rcases e with e | e
        · exact absurd ((own_type t.rows e).2.2 _ _ g) (by decide)
        · have := blk_lt g; omega
    have hlen := t.len
    by_cases hi : i < ps.length
    · rw [List.getElem?_append_left (by omega)] at hq hx
      exact keepR (t.refs i q x hq hx)
    · have hi2 := (List.getElem?_eq_some_iff.1 hq).1
      simp at hi2
      rw [List.getElem?_append_right (by omega), show i - ps.length = 0 by omega] at hq
      rw [List.getElem?_append_right (by omega), show i - es.length = 0 by omega] at hx
      simp at hq hx
      subst hq; subst hx
      exact keepR hd
theorem TwinAt.put {h0 h : Heap} {e d : Hdr} {ps : List PackV} {es : List Hdr} {p : PackV} {k : Nat} {q : Addr} {K : Heap → Prop} (t : TwinAt h0 h e ps es) (hk : k < e.l) (hd : OwnR 75 33 h0 h d.a d.l d.c (p.refs.map RefV.cells)) (hq : e.a = some q)
    (hK : ∀ h', TwinAt h0 h' e (ps.set k p) (es.set k d) → K h') : storeK 4 h (q.add (k * 4)) (.agg (p.cells d).toArray) K := by
  have hlen := t.len
  have hpl := t.length
  refine t.rows.storeRow hk rfl (pack_one p d) hq fun h' o' on => hK h' ⟨by simp [hlen], ?_, fun i r x hr hx => ?_⟩
  · have : List.zipWith PackV.cells (ps.set k p) (es.set k d) = (List.zipWith PackV.cells ps es).set k (p.cells d) := by
      apply List.ext_getElem?
      intro i
      rw [List.getElem?_zipWith, List.getElem?_set, List.getElem?_set, List.getElem?_set, List.getElem?_zipWith, List.length_zipWith]
      by_cases hki : k = i
      · subst hki
        rw [if_pos rfl, if_pos rfl, if_pos rfl, if_pos (by omega), if_pos (by omega), if_pos (by omega)]
      · rw [if_neg hki, if_neg hki, if_neg hki]
    rw [this]; exact o'
  · have keepR : ∀ {a : Option Addr} {l c : Nat} {rows : List (List Value)}, OwnR 75 33 h0 h a l c rows → OwnR 75 33 h0 h' a l c rows := fun {a l c rows} o => by
      rcases t.rows.own with ⟨e2, _⟩ | ⟨b, cs, e2, g1, g2, _⟩
      · rw [e2] at hq; cases hq
      · refine o.keepT ((on b e2).keep (S := (· = b)) rfl) (fun k hk e => by omega) (fun k cs g e => ?_)
        subst e
        exact absurd ((own_type t.rows e2).2.2 _ _ g) (by decide)
    rw [List.getElem?_set] at hr hx
    by_cases hki : k = i
    · subst hki
      rw [if_pos rfl, if_pos (by omega)] at hr hx
      cases hr; cases hx
      exact keepR hd
    · rw [if_neg hki] at hr hx
      exact keepR (t.refs i r x hr hx)
theorem TwinAt.erase {h0 h h' : Heap} {e : Hdr} {ps : List PackV} {es : List Hdr} {k : Nat} (t : TwinAt h0 h e ps es) (hk : k < e.l) (o : OwnR 61 4 h0 h' e.a (e.l - 1) e.c ((List.zipWith PackV.cells ps es).eraseIdx k)) (kk : Keep (fun j => e.a = some ⟨j, 0, none⟩) h h') : TwinAt h0 h' ⟨e.a, e.l - 1, e.c⟩ (ps.eraseIdx k) (es.eraseIdx k) := by
  have hlen := t.len
  have hpl := t.length
  refine ⟨by rw [List.length_eraseIdx, List.length_eraseIdx, if_pos (by omega), if_pos (by omega), hlen], ?_, fun i r x hr hx => ?_⟩
  · have : List.zipWith PackV.cells (ps.eraseIdx k) (es.eraseIdx k) = (List.zipWith PackV.cells ps es).eraseIdx k := by
      apply List.ext_getElem?
      intro i
      rw [List.getElem?_zipWith, List.getElem?_eraseIdx, List.getElem?_eraseIdx, List.getElem?_eraseIdx]
      by_cases hik : i < k
      · rw [if_pos hik, if_pos hik, if_pos hik, List.getElem?_zipWith]
      · rw [if_neg hik, if_neg hik, if_neg hik, List.getElem?_zipWith]
    rw [this]; exact o
  · have keepR : ∀ {a : Option Addr} {l c : Nat} {rows : List (List Value)}, OwnR 75 33 h0 h a l c rows → OwnR 75 33 h0 h' a l c rows := fun {a l c rows} o => by
      refine o.keepT kk (fun k hk e => ?_) (fun k cs g e => ?_)
      · have := (own_type t.rows e).1; omega
      · exact absurd ((own_type t.rows e).2.2 _ _ g) (by decide)
    rw [List.getElem?_eraseIdx] at hr hx
    split at hr
    · rename_i hlt
      rw [if_pos hlt] at hx
      exact keepR (t.refs _ r x hr hx)
    · rename_i hlt
      rw [if_neg hlt] at hx
      exact keepR (t.refs _ r x hr hx)
end Go.Proofs.YtfknpbgneeefjaaDoor
