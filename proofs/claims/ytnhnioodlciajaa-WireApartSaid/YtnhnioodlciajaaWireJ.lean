/- Chapter 14: New, Send, there, Double. -/
import Derived.Test.YtnhnioodlciajaaWireI
namespace Go.Wire
open Go.Vc Go.Packs
def doubleN (M : NetM) (f t at_ : Int) : Int × NetM := if thereN M f t at_ ≠ 0 then (9, M) else match (M (.link f t))[at_.toNat]? with
  | some m => putN M f t m
  | none => (9, M)
theorem thereN_ok {M : NetM} {f t at_ : Int} (h : thereN M f t at_ = 0) : 0 ≤ at_ ∧ ∃ m, (M (.link f t))[at_.toNat]? = some m := by
  unfold thereN at h
  split at h
  · cases h
  · rename_i g
    have h1 : 0 ≤ at_ := by
      have := fun x => g (.inr (.inl x)); omega
    have h2 : at_ < ((M (.link f t)).length : Int) := by
      have := fun x => g (.inr (.inr x)); omega
    exact ⟨h1, _, List.getElem?_eq_getElem (show at_.toNat < (M (.link f t)).length by omega)⟩
theorem thereN_val (M : NetM) (f t at_ : Int) : thereN M f t at_ = 0 ∨ thereN M f t at_ = 9 := by unfold thereN; split; exact .inr rfl; exact .inl rfl
end Go.Wire
namespace Go.Proofs.Ytnhnioodlciajaa
open Go.Vc Go.Sha Go.Trail Go.Packs Go.Wire
set_option linter.unusedVariables false

theorem zeroC71 : (zeroC Try.prog 71).size = 2 := by kernel_rfl
theorem eqg71 : Try.prog.eqGuardType Try.prog.depth 71 = false := by kernel_rfl
theorem run_ends (p q : Int × Int) (w : World) : (Op.equal 71 (pairV p) (pairV q)).run Try.prog w = .ok (decide (p = q)) w := run_equal_pair Try.underlying71 (by kernel_rfl) (by kernel_rfl) (by kernel_rfl) rfl rfl rfl rfl Try.underlying3 p q w
theorem row_load {h : Heap} {a : Option Addr} {l c : Nat} {rows : List (List Value)} (t : Tab 6 h a l c rows) {i : Nat} {m : MsgV} {d : Hdr} (hi : rows[i]? = some (msgCells m d)) : ∃ q, a = some q ∧ i < l ∧ (∀ j v, (msgCells m d)[j]? = some v → Vc.cell h ((q.add (i * 6)).add j) = some v) ∧ ∀ w : World, Ext h w.heap → (loadVar 24 (q.add (i * 6))).run Try.prog w = .ok (.agg (msgCells m d).toArray) w := by
  obtain ⟨q, e, hl, hc⟩ := t.get hi
  refine ⟨q, e, hl, hc, fun w x => ?_⟩
  have hcw : CellsAt w.heap (q.add (i * 6)) (msgCells m d) := fun j v hv => x.some (hc j v hv)
  have hr := run_cells (P := Try.prog) hcw
  have h6 : (msgCells m d).length = Try.prog.cellsOf 24 := by show 6 = _; rw [size24]
  rw [h6] at hr
  unfold loadVar
  simp [Sem.run_bind, run_isAgg_true Try.underlying24 rfl, run_size Try.underlying24, hr]

theorem new_ok (h : Heap) : HEnt Try.prog 11 #[] h fun v h' => ∃ q F, v = .pointer (some (at0 q)) ∧ NetAt F h' q (fun _ => []) ∧ Ext h h' ∧ ∀ k, F k → h.size ≤ k := by
  refine F11_ent _ _ ?_
  unfold F11
  refine newK_intro fun h1 n1 x1 e1 => newK_intro fun h2 n2 x2 e2 => newK_intro fun h3 n3 x3 e3 => ?_
  refine ⟨h2.size, fun k => h.size ≤ k ∧ k < h3.size, rfl, ⟨h.size, h1.size, [], [], ⟨n3, ⟨by omega, by omega⟩, ⟨by omega, by omega⟩, ⟨by omega, by omega⟩, by omega, MapAt.new ((x2.trans x3).blk n1), MapAt.new (x3.blk n2), fun k => ⟨none, 0, 0, by cases k <;> rfl, SlotAt.nil _ _⟩, fun k k' a l c a' l' c' _ e => (by cases k <;> cases e), fun k hk => hk.2⟩⟩, (x1.trans x2).trans x3, fun k hk => hk.1⟩

theorem there_ok {F : Nat → Prop} {h : Heap} {q : Nat} {M : NetM} (N : NetAt F h q M) (f t at_ : Int) :
    HEnt Try.prog 36 #[.pointer (some (at0 q)), .agg #[.int .i64 f, .int .i64 t], .int .i64 at_] h fun v h' => v = .int .i64 (thereN M f t at_) ∧ Ext h h' := by
  refine F36_ent _ _ _ _ _ _ ?_
  obtain ⟨b1, b2, kl, kb, N⟩ := N
  obtain ⟨a0, l0, c0, e0, sl⟩ := N.slot (.link f t)
  have hlen := sl.len
  unfold F36
  refine (St.start h).new fun b4 h1 s1 _ _ => ?_
  have x1 := s1.ext
  have N1 : NetAt F h1 q M := NetAt.grow ⟨b1, b2, kl, kb, N⟩ x1
  refine HEnt.use (none_ok N1) ?_
  rintro _ h1 ⟨rfl, rfl⟩
  have nine : ∀ h3, Cls false h1 h3 → thereN M f t at_ = 9 → F36_k1 true h3 fun v h' => v = .int .i64 (thereN M f t at_) ∧ Ext h h' := by
    intro h3 hc e
    obtain rfl := Cls.eq hc
    unfold F36_k1
    exact br_of (fun _ => ⟨by rw [e], x1⟩) (fun g => by cases g)
  refine ⟨false, rfl, br_of (fun g => by cases g) (fun _ => ⟨f, t, s1.cell 0 rfl rfl, s1.cell 0 rfl rfl, rfl, decide ((f, t) = (0, 0)), fun w => run_ends (f, t) (0, 0) w, eqg71, br_of (fun g h3 hc => nine h3 hc ?_) (fun g => br_of (fun g2 h3 hc => nine h3 hc ?_) (fun g2 => ?_))⟩)⟩
  · have g : (f, t) = (0, 0) := by simpa using g
    unfold thereN
    rw [if_pos (.inl (by cases g; exact ⟨rfl, rfl⟩))]
  · have g2 : at_ < 0 := by simpa using g2
    unfold thereN
    rw [if_pos (.inr (.inl g2))]
  · have g : ¬ (f = 0 ∧ t = 0) := fun e => by simp [e.1, e.2] at g
    have g2 : ¬ at_ < 0 := by simpa using g2
    have e0' : (lookA kl (f, t)).getD nilS = .slice a0 l0 c0 := e0
    refine ⟨at0 q, rfl, some b1, (cell_net (x1.blk N.net)).1, f, t, s1.cell 0 rfl rfl, s1.cell 0 rfl rfl, rfl, a0, l0, c0, fun w hw => ?_, fun h3 hc => ?_⟩
    · have hw := Cls.eq hw
      have := quiet_lookup keyed71 Try.underlying59 zero29 (N.m1.grow x1) (a := (f, t)) trivial w (by rw [hw])
      rw [e0'] at this; exact this
    · obtain rfl := Cls.eq hc
      unfold F36_k1
      refine br_of (fun g3 => ⟨?_, x1⟩) (fun g3 => ?_)
      · have g3 : at_ ≥ (l0 : Int) := by simpa using g3
        unfold thereN
        rw [if_pos (.inr (.inr (by omega)))]
      · have g3 : ¬ at_ ≥ (l0 : Int) := by simpa using g3
        unfold F36_k2 thereN
        rw [if_neg (fun e => e.elim g fun e => e.elim g2 fun e => g3 (by omega))]
        exact ⟨rfl, x1⟩

theorem Fx_grow {F : Nat → Prop} {h h1 h' : Heap} (x : h.size ≤ h1.size) : ∀ k, Fx F h1 h' k → Fx F h h' k := fun k hk => hk.imp id fun hk => ⟨by omega, hk.2⟩
theorem Fx_bound {F : Nat → Prop} {h h' : Heap} {q : Nat} {M : NetM} (N : NetAt F h q M) (x : h.size ≤ h'.size) : ∀ k, Fx F h h' k → k < h'.size := fun k hk => hk.elim (fun hk => Nat.lt_of_lt_of_le (N.bound k hk) x) (fun hk => hk.2)
theorem Keep.after {S : Nat → Prop} {h h1 h' : Heap} (x : Ext h h1) (k : Keep S h1 h') : Keep S h h' := (x.keep S).trans k

theorem send_ok {F : Nat → Prop} {h : Heap} {q : Nat} {M : NetM} (N : NetAt F h q M) (m : MsgV) (d : Hdr) (es : List Hdr) (hp : PacksAt h d.a d.l d.c m.packs es) (hl : d.l ≤ 20) (hls : ∀ x ∈ es, x.l ≤ 20) :
    HEnt Try.prog 12 #[.pointer (some (at0 q)), .agg (msgCells m d).toArray] h fun v h' => v = .int .i64 (sendN M m).1 ∧ NetAt (Fx F h h') h' q (sendN M m).2 ∧ Keep F h h' := by
  refine F12_ent _ _ _ _ _ _ _ _ _ _ _ ?_
  unfold F12
  refine (St.start h).new fun b3 h1 s1 _ _ => ?_
  refine HEnt.use (none_ok (N.grow s1.ext)) ?_
  rintro _ h1 ⟨rfl, rfl⟩
  refine ⟨false, rfl, br_of (fun g => by cases g) (fun _ => ?_)⟩
  unfold F12_k1
  refine ⟨m.kind, m.from_, m.to, m.txn, m.yes, d.a, d.l, d.c, s1.cell 0 rfl rfl, s1.cell 0 rfl rfl, s1.cell 0 rfl rfl, s1.cell 0 rfl rfl, s1.cell 0 rfl rfl, s1.cell 0 rfl rfl, rfl, HEnt.use (check_ok m d es h1 (hp.grow s1.ext) (by omega)) ?_⟩
  rintro _ h2 ⟨rfl, x2⟩
  have s2 := s1.grow x2
  have N2 := N.grow s2.ext
  refine ⟨_, rfl, br_of (fun g => ?_) (fun g => ?_)⟩
  · have g : msgC m ≠ 0 := fun e => by rw [e] at g; simp at g
    unfold sendN
    rw [if_pos g]
    exact ⟨rfl, N.growx s2.ext, s2.ext.keep _⟩
  · have g : ¬ msgC m ≠ 0 := fun e => e (by simpa using g)
    unfold F12_k2
    refine ⟨m.from_, s2.cell 0 rfl rfl, m.to, s2.cell 0 rfl rfl, m.kind, m.from_, m.to, m.txn, m.yes, d.a, d.l, d.c, s2.cell 0 rfl rfl, s2.cell 0 rfl rfl, s2.cell 0 rfl rfl, s2.cell 0 rfl rfl, s2.cell 0 rfl rfl, s2.cell 0 rfl rfl, rfl, HEnt.use (put_ok N2 m.from_ m.to m d es (hp.grow s2.ext) hl hls) ?_⟩
    rintro _ h3 ⟨rfl, N3, k3⟩
    unfold sendN
    rw [if_neg g]
    have := k3.size; have := s2.ext.size
    exact ⟨_, rfl, rfl, N3.mono (Fx_grow s2.ext.size) (Fx_bound N (by omega)), Keep.after s2.ext k3⟩

theorem double_ok {F : Nat → Prop} {h : Heap} {q : Nat} {M : NetM} (N : NetAt F h q M) (f t at_ : Int) :
    HEnt Try.prog 14 #[.pointer (some (at0 q)), .int .i64 f, .int .i64 t, .int .i64 at_] h fun v h' => v = .int .i64 (doubleN M f t at_).1 ∧ NetAt (Fx F h h') h' q (doubleN M f t at_).2 ∧ Keep F h h' := by
  refine F14_ent _ _ _ _ _ _ ?_
  unfold F14
  refine (St.start h).new fun b9 h1 s1 _ _ => s1.storeAll 0 rfl rfl zeroC71 (vs := #[.int .i64 f, .int .i64 t]) (by simp [one]) fun h2 s2 on2 => ?_
  simp only [List.set_cons_zero] at s2
  refine ⟨f, t, s2.cell 0 rfl rfl, s2.cell 0 rfl rfl, rfl, HEnt.use (there_ok (N.grow s2.ext) f t at_) ?_⟩
  rintro _ h3 ⟨rfl, x3⟩
  have s3 := s2.grow x3
  have x03 := s3.ext
  refine ⟨_, rfl, br_of (fun g => ?_) (fun g => ?_)⟩
  · have g : thereN M f t at_ ≠ 0 := by simpa using g
    unfold doubleN
    rw [if_pos g]
    exact ⟨by rw [(thereN_val M f t at_).resolve_left g], N.growx x03, x03.keep _⟩
  have g : thereN M f t at_ = 0 := by simpa using g
  obtain ⟨h0, m, hm⟩ := thereN_ok g
  unfold doubleN
  rw [if_neg (fun e => e g), hm]
  have N3 := N.grow x03
  obtain ⟨b1, b2, kl, kb, NI⟩ := N3
  obtain ⟨a0, l0, c0, e0, sl⟩ := NI.slot (.link f t)
  have e0' : (lookA kl (f, t)).getD nilS = .slice a0 l0 c0 := e0
  obtain ⟨ds, os, hds, hms⟩ := sl.ex
  have hd : ds[at_.toNat]? = some (ds[at_.toNat]'(by rw [hds]; exact (List.getElem?_eq_some_iff.1 hm).1)) := List.getElem?_eq_getElem _
  generalize ds[at_.toNat]'(by rw [hds]; exact (List.getElem?_eq_some_iff.1 hm).1) = d at hd
  obtain ⟨es, tm⟩ := hms _ m d hm hd
  obtain ⟨qa, ea, hlt, _, hload⟩ := row_load os.rows (i := at_.toNat) (m := m) (d := d) (by rw [List.getElem?_zipWith, hm, hd])
  unfold F14_k1
  have r71 := s3.quietAgg (P := Try.prog) 0 rfl Try.underlying71 rfl (by show 2 = Try.prog.cellsOf 71; rw [size71])
  refine ⟨Ext, Ext.refl, fun _ _ _ x y => x.trans y, f, t, r71, at0 q, rfl, some b1, fun w hw => run_loadCell (cell_net (hw.blk NI.net)).1 Try.underlying59 rfl, f, t, r71, a0, l0, c0, fun w hw => ?_, qa, ea, h0, by omega, m.kind, m.from_, m.to, m.txn, m.yes, d.a, d.l, d.c, hload, ?_⟩
  · have := quiet_lookup keyed71 Try.underlying59 zero29 NI.m1 (a := (f, t)) trivial w (hw.block _ NI.m1.lt)
    rw [e0'] at this; exact this
  refine HEnt.use (put_ok ⟨b1, b2, kl, kb, NI⟩ f t m d es tm.packs tm.l1 tm.l2) ?_
  rintro _ h4 ⟨rfl, N4, k4⟩
  have := k4.size; have := x03.size
  exact ⟨_, rfl, trivial, rfl, N4.mono (Fx_grow x03.size) (Fx_bound N (by omega)), Keep.after x03 k4⟩
end Go.Proofs.Ytnhnioodlciajaa
