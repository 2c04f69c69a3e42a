import Derived.Test.YtfknpbgneeefjaaDoorPlanT
import Derived.Test.YtfknpbgneeefjaaDoorVppJ

namespace Go.Plan
open Go.Vc Go.Sha Go.Trail Go.Packs Go.Man
set_option linter.unusedVariables false
theorem doC_err {ps : List PackV} {owner : Int} {o : OpV} (h : (doC ps owner o).2 ≠ 0) : (doC ps owner o).1 = [] := by
  have chk : ∀ l, (chkC l).2 ≠ 0 → (chkC l).1 = [] := fun l h => by
    unfold chkC at h ⊢
    split at h
    · exact absurd rfl h
    · rename_i e; rw [if_neg e]
  unfold doC at h ⊢
  split
  · rfl
  rename_i h1
  rw [if_neg h1] at h
  split
  · rfl
  rename_i h2
  rw [if_neg h2] at h
  split
  · rfl
  rename_i h3
  rw [if_neg h3] at h
  cases ha : atN (lst o.name) ps 0 with
  | none =>
    rw [ha] at h
    simp only at h ⊢
    split
    · rename_i h4
      rw [if_pos h4] at h
      exact chk _ h
    · rfl
  | some kp =>
    obtain ⟨k, p⟩ := kp
    rw [ha] at h
    simp only at h ⊢
    split
    · rfl
    rename_i h4
    rw [if_neg h4] at h
    split
    · rfl
    rename_i h5
    rw [if_neg h5] at h
    split
    · rename_i h6
      rw [if_pos h6] at h
      exact absurd rfl h
    rename_i h6
    rw [if_neg h6] at h
    split
    · rfl
    rename_i h7
    rw [if_neg h7] at h
    exact chk _ h
theorem inst_good {ps : List PackV} {owner : Int} {o : OpV} (hk : o.kind = 1) (h : (doC ps owner o).2 = 0) :
    opC o = 0 ∧ packsC [] 0 ps = 0 ∧ (1 ≤ owner ∧ owner ≤ 8) ∧ atN (lst o.name) ps 0 = none ∧ (doC ps owner o).1 = ps ++ [layV owner o] ∧ packsC [] 0 (ps ++ [layV owner o]) = 0 := by
  unfold doC at h ⊢
  split at h
  · rename_i h1; exact absurd h h1
  rename_i h1
  split at h
  · rename_i h2; exact absurd h h2
  rename_i h2
  split at h
  · cases h
  rename_i h3
  rw [if_neg h1, if_neg h2, if_neg h3]
  cases ha : atN (lst o.name) ps 0 with
  | some kp =>
    rw [ha] at h
    simp only at h
    cases h
  | none =>
    rw [ha] at h
    simp only at h ⊢
    rw [if_pos hk]
    unfold chkC at h ⊢
    split at h
    · rename_i h4
      rw [if_pos h4]
      exact ⟨by omega, by omega, by omega, trivial, rfl, h4⟩
    · rename_i h4; exact absurd h h4
theorem atN_last {ps : List PackV} {p : PackV} {nm : List Nat} (h : atN nm ps 0 = none) (e : lst p.name = nm) : atN nm (ps ++ [p]) 0 = some (ps.length, p) := by
  have hn := atN_none h
  have : ∀ (l : List PackV) (k : Nat), (∀ q ∈ l, lst q.name ≠ nm) → atN nm (l ++ [p]) k = some (k + l.length, p) := by
    intro l
    induction l with
    | nil => intro k _; simp [atN, e]
    | cons q t ih =>
      intro k hq
      simp only [List.cons_append, atN]
      rw [if_neg (hq q (by simp)), ih (k + 1) fun r hr => hq r (by simp [hr])]
      simp only [List.length_cons, Option.some.injEq, Prod.mk.injEq, and_true]
      omega
  have := this ps 0 hn
  rwa [Nat.zero_add] at this
def rmOp (o : OpV) : OpV := ⟨3, o.root, o.name, ByteArray.empty, []⟩
theorem opC_rm {o : OpV} (h : opC o = 0) (hk : o.kind = 1) : opC (rmOp o) = 0 := by
  have hman : manC o.name o.ver o.refs = 0 ∧ ¬ (o.root < 1 ∨ o.root > 6) := by
    unfold opC at h
    split at h
    · cases h
    split at h
    · cases h
    rename_i h1 h2
    rw [if_neg (by omega)] at h
    exact ⟨h, h2⟩
  have hn : nameP (lst o.name) := by
    have h := hman.1
    unfold manC at h
    split at h
    · cases h
    · rename_i h1; exact Classical.byContradiction fun e => h1 (.inl e)
  unfold opC rmOp
  simp only
  rw [if_neg (by omega), if_neg hman.2, if_pos trivial, if_neg (by decide), if_pos hn]
theorem back_again {ps : List PackV} {owner : Int} {o : OpV} (hk : o.kind = 1) (h : (doC ps owner o).2 = 0) : doC (ps ++ [layV owner o]) owner o = ([], 8) := by
  obtain ⟨h1, h2, h3, h4, _, h6⟩ := inst_good hk h
  unfold doC
  rw [if_neg (by omega), if_neg (by omega), if_neg (by omega), atN_last h4 rfl]
  simp only
  rw [if_pos hk]
theorem back_gone {ps : List PackV} {owner : Int} {o : OpV} (hk : o.kind = 1) (h : (doC ps owner o).2 = 0) : doC (ps ++ [layV owner o]) owner (rmOp o) = (ps, 0) := by
  obtain ⟨h1, h2, h3, h4, _, h6⟩ := inst_good hk h
  have h7 := opC_rm h1 hk
  unfold doC
  rw [if_neg (by omega), if_neg (by omega), if_neg (by omega)]
  show (match atN (lst o.name) (ps ++ [layV owner o]) 0 with | none => _ | some (k, p) => _) = _
  rw [atN_last h4 rfl]
  simp only
  rw [if_neg (by show ¬ (3 : Int) = 1; decide), if_neg (by show ¬ (owner ≠ owner); simp), if_pos (show (rmOp o).kind = 3 from rfl)]
  rw [List.eraseIdx_append_of_length_le (Nat.le_refl _), Nat.sub_self]
  simp
theorem back_denied {ps : List PackV} {owner : Int} {o : OpV} (hk : o.kind = 1) (h : (doC ps owner o).2 = 0) : doC (ps ++ [layV owner o]) (owner.tmod 8 + 1) (rmOp o) = ([], 16) := by
  obtain ⟨h1, h2, h3, h4, _, h6⟩ := inst_good hk h
  have h7 := opC_rm h1 hk
  have e : owner.tmod 8 = owner % 8 := Int.tmod_eq_emod_of_nonneg (by omega)
  unfold doC
  rw [if_neg (by omega), if_neg (by omega), if_neg (by omega)]
  show (match atN (lst o.name) (ps ++ [layV owner o]) 0 with | none => _ | some (k, p) => _) = _
  rw [atN_last h4 rfl]
  simp only
  rw [if_neg (by show ¬ (3 : Int) = 1; decide), if_pos (by show owner ≠ owner.tmod 8 + 1; omega)]
end Go.Plan
namespace Go.Proofs.YtfknpbgneeefjaaDoor
open Go.Vc Go.Sha Go.Trail Go.Packs Go.Plan Go.Man
set_option linter.unusedVariables false
set_option linter.unusedSimpArgs false
set_option maxRecDepth 20000
theorem opAt_one {h h' : Heap} {b : Nat} {o : OpV} {dd : Hdr} (hb : h'[b]? = some (.cells (opA o dd) 25 (0, 0))) (x : Ext h h') (hsz : h.size ≤ b) (hr : RefsAt h' dd.a dd.l dd.c o.refs) (ho : OpV.ok o) : OpsAt h' (some (at0 b)) 1 1 [o] [dd] := by
  have own : OwnR 25 5 h h' (some ⟨b, 0, none⟩) 1 1 [OpV.cells o dd] := OwnR.new_ (rows := [OpV.cells o dd]) hb x hsz (by intro r hr; simp at hr; subst hr; rfl) rfl
  refine ⟨rfl, own.rows, fun i o' d' h1 h2 => ?_, by intro x hx; simp at hx; subst hx; exact ho⟩
  match i, h1, h2 with
  | 0, h1, h2 => cases h1; cases h2; exact hr
theorem opTwin_one {h0 h' : Heap} {e : Hdr} {es : List Hdr} {o : OpV} (t : OpTwin h0 h' e [o] es) (ho : OpV.ok o) : ∃ q d, e.a = some q ∧ e.l = 1 ∧ es = [d] ∧ OwnR 75 33 h0 h' d.a d.l d.c (o.refs.map RefV.cells) ∧ ∀ j v, (OpV.cells o d)[j]? = some v → Vc.cell h' ((q.add (0 * 5)).add j) = some v := by
  have hl := t.length
  have hlen := t.len
  match es, hlen with
  | [d], _ =>
    obtain ⟨q, e1, _, hc⟩ := t.rows.rows.get (i := 0) (r := OpV.cells o d) rfl
    exact ⟨q, d, e1, by simp at hl; omega, rfl, t.refs 0 o d rfl rfl, hc⟩
theorem back_ok (a : Option Addr) (l c : Nat) (ps : List PackV) (ds : List Hdr) (owner : Int) (o : OpV) (dd : Hdr) (h : Heap) (hp : PacksAt h a l c ps ds) (hr : RefsAt h dd.a dd.l dd.c o.refs) (ho : OpV.ok o) (hl : l < 9223372036854775808) (hm : Ord.MaxAt h) :
    HEnt Tryd.prog 5 #[.slice a l c, .int .i64 owner, .agg (opA o dd)] h (yes h) := by
  have oks := few_oks (PacksAt.oks hp)
  have hrok : ∀ r ∈ (fewOp o).refs, r.ok := fun r hr' => hr.ok r (List.mem_of_mem_take hr')
  refine F5_ent _ _ _ _ _ _ _ _ _ _ _ _ _ ?_
  unfold F5
  refine newK_intro fun h1 hb1 x1 z1 => HEnt.use (packsOf_ok a l c ps ds h1 (hp.grow x1) hl) ?_
  rintro _ h2 ⟨e, es, rfl, t2⟩
  have x2 : Ext h1 h2 := t2.ext
  have hb2 := x2.blk hb1
  have f2 := few_hdr t2
  refine ⟨_, _, _, rfl, _, _, _, _, _, _, _, by rw [at_cell hb2]; rfl, by rw [at_cell hb2]; rfl, by rw [at_cell hb2]; rfl, by rw [at_cell hb2]; rfl, by rw [at_cell hb2]; rfl, rfl, rfl, by decide, newK_intro fun h3 hb3 x3 z3 => ?_⟩
  have x03 := (x1.trans x2).trans x3
  refine HEnt.use (opsOf_ok _ 1 1 [o] [dd] h3 (opAt_one hb3 x03 (x1.trans x2).size (hr.grow x03) ho) (by decide)) ?_
  rintro _ h4 ⟨e4, es4, rfl, t4⟩
  have x4 : Ext h3 h4 := t4.rows.ext
  obtain ⟨q, d, hq, hl4, _, ow4, hc⟩ := opTwin_one t4 ho
  have ow4l := ow4.len
  have hd20 : d.l ≤ 20 := by
    rw [List.length_map] at ow4l
    have : (fewOp o).refs.length ≤ 20 := by unfold fewOp; simp only [List.length_take]; omega
    omega
  refine ⟨_, _, _, rfl, q, hq, by decide, by omega, _, _, _, _, _, _, _, hc 0 _ rfl, hc 1 _ rfl, hc 2 _ rfl, hc 3 _ rfl, hc 4 _ rfl, rfl, ?_⟩
  have hb4 := (x3.trans x4).blk hb2
  refine storeK_whole (vs := (OpV.cells (fewOp o) d).toArray) hb4 rfl rfl (op_one (fewOp o) d) fun h5 hb5 o5 => ?_
  rw [add_at0]
  refine storeK_one hb5 (by simp [OpV.cells]) (.inr (Nat.zero_le _)) rfl fun h6 hb6 o6 => ?_
  obtain ⟨o1, ho1⟩ : ∃ o1 : OpV, o1 = ⟨1, o.root, o.name, o.ver, o.refs.take 20⟩ := ⟨_, rfl⟩
  have hb6 : h6[h.size]? = some (.cells (opA o1 d) 25 (0, 0)) := by rw [ho1]; exact hb6
  have hk1 : o1.kind = 1 := by rw [ho1]
  have ok1 : OpV.ok o1 := by rw [ho1]; exact ho
  have k46 : Keep (· = h.size) h4 h6 := (o5.keep (S := (· = h.size)) rfl).trans (o6.keep rfl)
  have r6 : RefsAt h6 d.a d.l d.c o1.refs := by
    have o6' := (ow4.since x03).keepT k46 (fun k hk e => by omega) (fun k cs g e => by
      subst e
      rw [hb4] at g
      injection g with g; injection g with _ g; exact absurd g (by decide))
    rw [ho1]
    exact ⟨o6'.rows, hrok⟩
  have t6 : TwinAt h h6 e (fewPacks ps) es := ((t2.since x1).grow (x3.trans x4)).keepT k46 (fun k hk e => by omega) (fun k cs el g hel e => by
    subst e
    rw [hb4] at g
    injection g with g; injection g with _ g
    rcases hel with rfl | rfl <;> exact absurd g (by decide))
  have x06 : Ext h h6 := t6.ext
  have cl : ∀ {h' : Heap} (i : Nat) (v : Value), (opA o1 d)[i]? = some v → Ext h6 h' → Vc.cell h' ((at0 h.size).add i) = some v := fun i v hv x => by rw [at_cell (x.blk hb6)]; exact hv
  have c0 := cl 0 _ rfl (Ext.refl h6)
  refine ⟨o1.kind, o1.root, o1.name, o1.ver, d.a, d.l, d.c, by first | exact c0 | (rw [add_at0] at c0; exact c0), cl 1 _ rfl (Ext.refl _), cl 2 _ rfl (Ext.refl _), cl 3 _ rfl (Ext.refl _), cl 4 _ rfl (Ext.refl _), rfl, HEnt.use (do_ok e.a e.l e.c (fewPacks ps) es owner o1 d h6 (t6.packs oks) r6 ok1.1 ok1.2 (by omega) (fun x hx => by have := f2.2 x hx; omega) (by omega) (hm.ext x06)) ?_⟩
  rintro _ h7 ⟨ex, esx, rfl, tx⟩
  have x7 : Ext h6 h7 := tx.ext
  have x07 := x06.trans x7
  have hxl := tx.length
  refine ⟨_, _, _, _, rfl, br_of (fun g => ?_) (fun g => ?_)⟩
  · have g' : (doC (fewPacks ps) owner o1).2 ≠ 0 := by simp at g; omega
    rw [doC_err g'] at hxl
    simp at hxl
    refine br_of (fun _ => works_yes x07 hm) (fun e => by simp at e; omega)
  have g' : (doC (fewPacks ps) owner o1).2 = 0 := by simp at g; omega
  obtain ⟨i1, i2, i3, i4, i5, i6⟩ := inst_good hk1 g'
  have again := back_again hk1 g'
  have gone := back_gone hk1 g'
  have denied := back_denied hk1 g'
  rw [i5] at tx hxl
  have hxo : ∀ p ∈ fewPacks ps ++ [layV owner o1], p.ok ∧ ∀ r ∈ p.refs, r.ok := fun p hp' => by
    rcases List.mem_append.1 hp' with hp' | hp'
    · exact oks p hp'
    · simp at hp'; subst hp'; exact lay_ok ok1.1 ok1.2 r6.ok
  have sx := twin_small tx i6
  have hel := t6.length
  rw [List.length_append] at hxl
  simp at hxl
  unfold F5_k1
  refine HEnt.use (packs_ok ex.a ex.l ex.c _ esx h7 (tx.packs hxo) (by omega)) ?_
  rintro _ h8 ⟨rfl, x8⟩
  rw [i6]
  refine ⟨_, rfl, br_of (fun e => by simp at e) (fun _ => br_of (fun e => ?_) (fun _ => ?_))⟩
  · rw [i64_lt _ (by omega) (by omega)] at e
    simp at e; omega
  refine ⟨by decide, by omega, by have := tx.rows.cap; omega, ?_⟩
  rw [Int.toNat_natCast, cutAt0, Nat.sub_zero, Nat.sub_zero]
  have px8 := ((tx.grow x8).packs hxo).take e.l (by omega)
  rw [List.take_append_of_le_length (by omega), List.take_of_length_le (by omega)] at px8
  refine HEnt.use (packs_same ex.a e.l ex.c e.a e.l e.c (fewPacks ps) (esx.take e.l) es h8 px8 ((t6.grow (x7.trans x8)).packs oks) (by omega) (fun d' hd' => by have := sx.2 d' (List.mem_of_mem_take hd'); omega)) ?_
  rintro _ h9 ⟨rfl, x9⟩
  refine ⟨true, rfl, ?_⟩
  unfold F5_k2
  refine br_of (fun e => by cases e) (fun _ => ?_)
  have x69 := (x7.trans x8).trans x9
  have bnd : ∀ x ∈ esx, x.l ≤ 1099511627776 := fun x hx => by have := sx.2 x hx; omega
  unfold F5_k3
  refine ⟨_, _, _, _, _, _, _, cl 0 _ rfl x69, cl 1 _ rfl x69, cl 2 _ rfl x69, cl 3 _ rfl x69, cl 4 _ rfl x69, rfl, HEnt.use (do_ok ex.a ex.l ex.c _ esx owner o1 d h9 ((tx.grow (x8.trans x9)).packs hxo) (r6.grow x69) ok1.1 ok1.2 (by omega) bnd (by omega) (hm.ext (x06.trans x69))) ?_⟩
  rintro _ h10 ⟨e10, es10, rfl, t10⟩
  have x10 : Ext h9 h10 := t10.ext
  have x6_10 := x69.trans x10
  have rnil : ∀ {h' : Heap}, RefsAt h' none 0 0 (rmOp o1).refs := ⟨Tab.empty _ _ _ _, by intro r hr; simp [rmOp] at hr⟩
  refine ⟨_, _, _, _, rfl, _, cl 1 _ rfl x6_10, _, cl 2 _ rfl x6_10, HEnt.use (do_ok ex.a ex.l ex.c _ esx owner (rmOp o1) ⟨none, 0, 0⟩ h10 ((tx.grow ((x8.trans x9).trans x10)).packs hxo) rnil ok1.1 (show (0 : Nat) < _ by decide) (by omega) bnd (by decide) (hm.ext (x06.trans x6_10))) ?_⟩
  rintro _ h11 ⟨e11, es11, rfl, t11⟩
  have x11 : Ext h10 h11 := t11.ext
  have x6_11 := x6_10.trans x11
  have etm : owner.tmod 8 = owner % 8 := Int.tmod_eq_emod_of_nonneg (by omega)
  refine ⟨_, _, _, _, rfl, by decide, _, cl 1 _ rfl x6_11, _, cl 2 _ rfl x6_11, ?_⟩
  rw [i64_lt (owner.tmod 8 + 1) (by omega) (by omega)]
  refine HEnt.use (do_ok ex.a ex.l ex.c _ esx (owner.tmod 8 + 1) (rmOp o1) ⟨none, 0, 0⟩ h11 ((tx.grow (((x8.trans x9).trans x10).trans x11)).packs hxo) rnil ok1.1 (show (0 : Nat) < _ by decide) (by omega) bnd (by decide) (hm.ext (x06.trans x6_11))) ?_
  rintro _ h12 ⟨e12, es12, rfl, t12⟩
  have x12 : Ext h11 h12 := t12.ext
  rw [again, gone, denied]
  rw [gone] at t11
  refine ⟨_, _, _, _, rfl, br_of (fun _ => br_of (fun _ => br_of (fun _ => ?_) (fun e => by simp at e)) (fun e => by simp at e)) (fun e => by simp at e)⟩
  have s11 := twin_small t11 i2
  refine HEnt.use (packs_same e11.a e11.l e11.c e.a e.l e.c (fewPacks ps) es11 es h12 ((t11.grow x12).packs oks) ((t6.grow (x6_11.trans x12)).packs oks) (by omega) (fun d' hd' => by have := s11.2 d' hd'; omega)) ?_
  rintro _ h13 ⟨rfl, x13⟩
  exact ⟨true, rfl, br_of (fun _ => works_yes ((x06.trans (x6_11.trans x12)).trans x13) hm) (fun e => by cases e)⟩
end Go.Proofs.YtfknpbgneeefjaaDoor
