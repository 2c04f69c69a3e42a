import Derived.Test.YtnhnioodlciajaaWireS
import Derived.Test.YtnhnioodlciajaaVwpD

namespace Go.Proofs.Ytnhnioodlciajaa
open Go.Vc Go.Sha Go.Trail Go.Packs Go.Wire
set_option linter.unusedVariables false

/-- a net that New did not make -/
def NoNet (h : Heap) (p : Option Addr) : Prop := p = none ∨ ∃ q, p = some (at0 q) ∧ h[q]? = some (.cells #[.map none, .map none] 62 (0, 0))
theorem NoNet.grow {h h' : Heap} {p : Option Addr} (n : NoNet h p) (x : Ext h h') : NoNet h' p := n.imp id fun ⟨q, e, hb⟩ => ⟨q, e, x.blk hb⟩
theorem none_no {h : Heap} {p : Option Addr} (n : NoNet h p) : HEnt Try.prog 33 #[.pointer p] h fun v h' => v = .bool true ∧ h' = h := by
  refine F33_ent _ _ _ ?_
  unfold F33
  rcases n with rfl | ⟨q, rfl, hb⟩
  · exact br_of (fun _ => ⟨rfl, rfl⟩) (fun g => by cases g)
  · exact br_of (fun g => by cases g) (fun _ => ⟨at0 q, rfl, none, by rw [add_at0, cell_blk hb]; rfl, rfl, rfl⟩)
theorem there_no {h : Heap} {p : Option Addr} (n : NoNet h p) (f t at_ : Int) : HEnt Try.prog 36 #[.pointer p, .agg #[.int .i64 f, .int .i64 t], .int .i64 at_] h fun v h' => v = .int .i64 1 ∧ Ext h h' := by
  refine F36_ent _ _ _ _ _ _ ?_
  unfold F36
  refine (St.start h).new fun b4 h1 s1 x1 _ => HEnt.use (none_no (n.grow x1)) ?_
  rintro _ h1 ⟨rfl, rfl⟩
  exact ⟨true, rfl, br_of (fun _ => ⟨rfl, x1⟩) (fun g => by cases g)⟩
theorem send_no {h : Heap} {p : Option Addr} (n : NoNet h p) (m : MsgV) (d : Hdr) : HEnt Try.prog 12 #[.pointer p, .agg (msgCells m d).toArray] h fun v h' => v = .int .i64 1 ∧ Ext h h' := by
  refine F12_ent _ _ _ _ _ _ _ _ _ _ _ ?_
  unfold F12
  refine (St.start h).new fun b4 h1 s1 x1 _ => HEnt.use (none_no (n.grow x1)) ?_
  rintro _ h1 ⟨rfl, rfl⟩
  exact ⟨true, rfl, br_of (fun _ => ⟨rfl, x1⟩) (fun g => by cases g)⟩
theorem deliver_no {h : Heap} {p : Option Addr} (n : NoNet h p) (f t at_ : Int) : HEnt Try.prog 16 #[.pointer p, .int .i64 f, .int .i64 t, .int .i64 at_] h fun v h' => v = .int .i64 1 ∧ Ext h h' := by
  refine F16_ent _ _ _ _ _ _ ?_
  unfold F16
  refine (St.start h).new fun b9 h1 s1 _ _ => s1.storeAll 0 rfl rfl zeroC71 (vs := #[.int .i64 f, .int .i64 t]) (by simp [one]) fun h2 s2 on2 => ?_
  simp only [List.set_cons_zero] at s2
  refine ⟨f, t, s2.cell 0 rfl rfl, s2.cell 0 rfl rfl, rfl, HEnt.use (there_no (n.grow s2.ext) f t at_) ?_⟩
  rintro _ h3 ⟨rfl, x3⟩
  exact ⟨1, rfl, br_of (fun _ => ⟨rfl, s2.ext.trans x3⟩) (fun g => by cases g)⟩
theorem drop_no {h : Heap} {p : Option Addr} (n : NoNet h p) (f t at_ : Int) : HEnt Try.prog 26 #[.pointer p, .int .i64 f, .int .i64 t, .int .i64 at_] h fun v h' => v = .int .i64 1 ∧ Ext h h' := by
  refine F26_ent _ _ _ _ _ _ ?_
  unfold F26
  refine (St.start h).new fun b9 h1 s1 _ _ => s1.storeAll 0 rfl rfl zeroC71 (vs := #[.int .i64 f, .int .i64 t]) (by simp [one]) fun h2 s2 on2 => ?_
  simp only [List.set_cons_zero] at s2
  refine ⟨f, t, s2.cell 0 rfl rfl, s2.cell 0 rfl rfl, rfl, HEnt.use (there_no (n.grow s2.ext) f t at_) ?_⟩
  rintro _ h3 ⟨rfl, x3⟩
  exact ⟨1, rfl, br_of (fun _ => ⟨rfl, s2.ext.trans x3⟩) (fun g => by cases g)⟩
theorem double_no {h : Heap} {p : Option Addr} (n : NoNet h p) (f t at_ : Int) : HEnt Try.prog 14 #[.pointer p, .int .i64 f, .int .i64 t, .int .i64 at_] h fun v h' => v = .int .i64 1 ∧ Ext h h' := by
  refine F14_ent _ _ _ _ _ _ ?_
  unfold F14
  refine (St.start h).new fun b9 h1 s1 _ _ => s1.storeAll 0 rfl rfl zeroC71 (vs := #[.int .i64 f, .int .i64 t]) (by simp [one]) fun h2 s2 on2 => ?_
  simp only [List.set_cons_zero] at s2
  refine ⟨f, t, s2.cell 0 rfl rfl, s2.cell 0 rfl rfl, rfl, HEnt.use (there_no (n.grow s2.ext) f t at_) ?_⟩
  rintro _ h3 ⟨rfl, x3⟩
  exact ⟨1, rfl, br_of (fun _ => ⟨rfl, s2.ext.trans x3⟩) (fun g => by cases g)⟩
theorem take_no {h : Heap} {p : Option Addr} (n : NoNet h p) (k : Int) : HEnt Try.prog 22 #[.pointer p, .int .i64 k] h fun v h' => v = .tuple #[.agg (msgCells zeroM nilH).toArray, .bool false] ∧ Ext h h' := by
  refine F22_ent _ _ _ _ ?_
  unfold F22
  refine (St.start h).new fun b4 h1 s1 x1 _ => HEnt.use (none_no (n.grow x1)) ?_
  rintro _ h1 ⟨rfl, rfl⟩
  refine ⟨true, rfl, br_of (fun _ => ?_) (fun g => by cases g)⟩
  unfold F22_k1
  refine br_of (fun _ => ?_) (fun g => by cases g)
  refine s1.storeAll 0 rfl rfl zeroC24 (vs := (msgCells zeroM nilH).toArray) (by simp [msgCells, one]) fun h2 s2 on2 => ?_
  simp only [List.set_cons_zero] at s2
  exact ⟨0, 0, 0, 0, false, none, 0, 0, s2.cell 0 rfl rfl, s2.cell 0 rfl rfl, s2.cell 0 rfl rfl, s2.cell 0 rfl rfl, s2.cell 0 rfl rfl, s2.cell 0 rfl rfl, rfl, rfl, s2.ext⟩
theorem clear_no {h : Heap} {p : Option Addr} (n : NoNet h p) (k : Int) : HEnt Try.prog 28 #[.pointer p, .int .i64 k] h fun v h' => v = .int .i64 0 ∧ h' = h := by
  refine F28_ent _ _ _ _ ?_
  unfold F28
  refine HEnt.use (none_no n) ?_
  rintro _ h ⟨rfl, rfl⟩
  exact ⟨true, rfl, br_of (fun _ => ⟨rfl, rfl⟩) (fun g => by cases g)⟩
theorem link_no {h : Heap} {p : Option Addr} (n : NoNet h p) (f t : Int) : HEnt Try.prog 24 #[.pointer p, .int .i64 f, .int .i64 t] h fun v h' => v = .slice none 0 0 ∧ h' = h := by
  refine F24_ent _ _ _ _ _ ?_
  unfold F24
  refine HEnt.use (none_no n) ?_
  rintro _ h ⟨rfl, rfl⟩
  exact ⟨true, rfl, br_of (fun _ => ⟨rfl, rfl⟩) (fun g => by cases g)⟩
theorem box_no {h : Heap} {p : Option Addr} (n : NoNet h p) (k : Int) : HEnt Try.prog 27 #[.pointer p, .int .i64 k] h fun v h' => v = .slice none 0 0 ∧ h' = h := by
  refine F27_ent _ _ _ _ ?_
  unfold F27
  refine HEnt.use (none_no n) ?_
  rintro _ h ⟨rfl, rfl⟩
  exact ⟨true, rfl, br_of (fun _ => ⟨rfl, rfl⟩) (fun g => by cases g)⟩
theorem copy_no {h : Heap} {p : Option Addr} (n : NoNet h p) : HEnt Try.prog 31 #[.pointer p] h fun v h' => v = .pointer none ∧ h' = h := by
  refine F31_ent _ _ _ ?_
  unfold F31
  refine HEnt.use (none_no n) ?_
  rintro _ h ⟨rfl, rfl⟩
  exact ⟨true, rfl, br_of (fun _ => ⟨rfl, rfl⟩) (fun g => by cases g)⟩

def actCells (k f t a : Int) (m : MsgV) (d : Hdr) : List Value := [.int .i64 k, .int .i64 f, .int .i64 t, .int .i64 a, .int .i64 m.kind, .int .i64 m.from_, .int .i64 m.to, .int .i64 m.txn, .bool m.yes, .slice d.a d.l d.c]
theorem nobody_ok (k f t at_ : Int) (m : MsgV) (d : Hdr) (h : Heap) : HEnt Try.prog 9 #[.agg (actCells k f t at_ m d).toArray] h fun v h' => v = .bool true ∧ Ext h h' := by
  refine F9_ent _ _ _ _ _ _ _ _ _ _ _ _ _ _ ?_
  unfold F9
  refine (St.start h).new fun b1 h1 s1 _ _ => s1.new fun b8 h2 s2 _ _ => ⟨by omega, s2.new fun b9 h3 s3 _ _ => ?_⟩
  refine ⟨fun i h' => ∃ k : Nat, i = k ∧ k ≤ 2 ∧ Ext h3 h', fun i _ => (((2 : Nat) : Int) - i).toNat, ⟨0, rfl, by omega, Ext.refl _⟩, ?_⟩
  rintro h4 _ ⟨j, rfl, hj, x4⟩
  have s4 := s3.grow x4
  unfold F9_b1
  refine br_of (fun g => ?_) (fun _ => ?_)
  case refine_2 =>
    unfold F9_k5
    refine HEnt.use (works_ok h4) ?_
    rintro _ h5 ⟨rfl, x5⟩
    exact ⟨true, rfl, rfl, s4.ext.trans x5⟩
  have hj' : j < 2 := by
    have : (j : Int) < 2 := by simpa using g
    omega
  have hp : ∃ p, Vc.cell h4 ((at0 b9).add (j * 1)) = some (.pointer p) ∧ NoNet h4 p := by
    have : j = 0 ∨ j = 1 := by omega
    rcases this with rfl | rfl
    · exact ⟨none, s4.cell 0 rfl rfl, .inl rfl⟩
    · exact ⟨some (at0 b8), s4.cell 0 rfl rfl, .inr ⟨b8, rfl, (s4.at_ 1 _ rfl).2⟩⟩
  obtain ⟨p, hc, n4⟩ := hp
  unfold F9_k2
  refine ⟨at0 b9, rfl, by omega, by omega, p, by rw [Int.toNat_natCast]; exact hc, t, s4.cell 2 rfl rfl, HEnt.use (take_no n4 t) ?_⟩
  rintro _ h5 ⟨rfl, x5⟩
  have s5 := s4.grow x5
  refine ⟨0, 0, 0, 0, false, none, 0, 0, false, rfl, s5.new fun b5 h6 s6 x6 hb5 => ?_⟩
  refine s6.storeAll 0 rfl rfl zeroC24 (vs := (msgCells zeroM nilH).toArray) (by simp [msgCells, one]) fun h7 s7 on7 => ?_
  simp only [List.set_cons_zero] at s7
  have x57 : Ext h5 h7 := ⟨by have := x6.size; have := on7.size; omega, fun k hk => (on7.block k (by show k ≠ b5; omega)).trans (x6.block k hk)⟩
  have n7 := (n4.grow x5).grow x57
  refine ⟨m.kind, m.from_, m.to, m.txn, m.yes, d.a, d.l, d.c, s7.cell2 3 rfl rfl, s7.cell2 3 rfl rfl, s7.cell2 3 rfl rfl, s7.cell2 3 rfl rfl, s7.cell2 3 rfl rfl, s7.cell2 3 rfl rfl, rfl, HEnt.use (send_no n7 m d) ?_⟩
  rintro _ h8 ⟨rfl, x8⟩
  have s8 := s7.grow x8
  have n8 := n7.grow x8
  refine ⟨1, rfl, br_of (fun g => by cases g) (fun _ => ⟨f, s8.cell 3 rfl rfl, t, s8.cell 3 rfl rfl, at_, s8.cell 3 rfl rfl, HEnt.use (deliver_no n8 f t at_) ?_⟩)⟩
  rintro _ h9 ⟨rfl, x9⟩
  have s9 := s8.grow x9
  have n9 := n8.grow x9
  refine ⟨1, rfl, br_of (fun g => by cases g) (fun _ => ⟨f, s9.cell 3 rfl rfl, t, s9.cell 3 rfl rfl, at_, s9.cell 3 rfl rfl, HEnt.use (drop_no n9 f t at_) ?_⟩)⟩
  rintro _ h10 ⟨rfl, x10⟩
  have s10 := s9.grow x10
  have n10 := n9.grow x10
  refine ⟨1, rfl, br_of (fun g => by cases g) (fun _ => ⟨f, s10.cell 3 rfl rfl, t, s10.cell 3 rfl rfl, at_, s10.cell 3 rfl rfl, HEnt.use (double_no n10 f t at_) ?_⟩)⟩
  rintro _ h11 ⟨rfl, x11⟩
  have s11 := s10.grow x11
  have n11 := n10.grow x11
  refine ⟨1, rfl, br_of (fun g => by cases g) (fun _ => br_of (fun g => by cases g) (fun _ => ?_))⟩
  refine ⟨0, 0, 0, 0, false, none, 0, 0, s11.cell 0 rfl rfl, s11.cell 0 rfl rfl, s11.cell 0 rfl rfl, s11.cell 0 rfl rfl, s11.cell 0 rfl rfl, s11.cell 0 rfl rfl, rfl, HEnt.use (msg_same zeroM nilH nilH [] [] h11 (nilPacks _ _ _) (nilPacks _ _ _) (by decide) (by simp)) ?_⟩
  rintro _ h12 ⟨rfl, x12⟩
  have s12 := s11.grow x12
  have n12 := n11.grow x12
  refine ⟨true, rfl, br_of (fun g => by cases g) (fun _ => ⟨t, s12.cell 3 rfl rfl, HEnt.use (clear_no n12 t) ?_⟩)⟩
  rintro _ h13 ⟨rfl, rfl⟩
  refine ⟨0, rfl, br_of (fun g => by cases g) (fun _ => ⟨f, s12.cell 3 rfl rfl, t, s12.cell 3 rfl rfl, HEnt.use (link_no n12 f t) ?_⟩)⟩
  rintro _ h14 ⟨rfl, rfl⟩
  refine ⟨none, 0, 0, rfl, br_of (fun g => by cases g) (fun _ => ⟨t, s12.cell 3 rfl rfl, HEnt.use (box_no n12 t) ?_⟩)⟩
  rintro _ h15 ⟨rfl, rfl⟩
  refine ⟨none, 0, 0, rfl, br_of (fun g => by cases g) (fun _ => HEnt.use (copy_no n12) ?_)⟩
  rintro _ h16 ⟨rfl, rfl⟩
  refine ⟨none, rfl, ?_⟩
  unfold F9_k3
  refine br_of (fun g => by cases g) (fun _ => ?_)
  unfold F9_k4
  rw [wrap_succ j 2 hj' (by omega)]
  have hm := less_succ j 2 hj'
  have xx := ((((((x4.trans x5).trans x57).trans x8).trans x9).trans x10).trans x11).trans x12
  exact ⟨⟨j + 1, rfl, by omega, xx⟩, hm⟩
end Go.Proofs.Ytnhnioodlciajaa
namespace Go.Proofs.Ytnhnioodlciajaa
open Go.Vc Go.Sha Go.Trail Go.Packs Go.Wire Go.ChangeShapes Go.WideShapes Go.ChangeAt Go.RowKit
variable {H : Type} {enc : TypeId × Value → H} {W : World} {hd : Bool}
theorem size50 : Try.prog.cellsOf 50 = 10 := by kernel_rfl
theorem open_actcells {m : Nat} {r : List Value} {y : DataW H × List MemPlace} (h : DataW.trod enc Try.prog W 0 (fun _ => true) hd m 50 r = some y) : ∃ (k f t a : Int) (m : MsgV) (e : Hdr) (es : List Hdr), r = actCells k f t a m e ∧ PacksAt W.heap e.a e.l e.c m.packs es := by
  have hl := trod_len Try.underlying50 h
  rw [size50] at hl
  match r, hl with
  | [c0, c1, c2, c3, c4, c5, c6, c7, c8, c9], _ =>
    obtain ⟨_, _, h0⟩ := trod_at Try.underlying50 h 0 (t' := 3) (o := 0) rfl size3
    obtain ⟨_, _, h1⟩ := trod_at Try.underlying50 h 1 (t' := 3) (o := 1) rfl size3
    obtain ⟨_, _, h2⟩ := trod_at Try.underlying50 h 2 (t' := 3) (o := 2) rfl size3
    obtain ⟨_, _, h3⟩ := trod_at Try.underlying50 h 3 (t' := 3) (o := 3) rfl size3
    obtain ⟨_, _, h4⟩ := trod_at Try.underlying50 h 4 (t' := 24) (o := 4) rfl size24
    obtain ⟨z0, e0, _⟩ := trod_int Try.underlying3 h0
    obtain ⟨z1, e1, _⟩ := trod_int Try.underlying3 h1
    obtain ⟨z2, e2, _⟩ := trod_int Try.underlying3 h2
    obtain ⟨z3, e3, _⟩ := trod_int Try.underlying3 h3
    obtain ⟨m, e, es, e4, hp⟩ := open_msgcells h4
    simp at e0 e1 e2 e3
    subst e0; subst e1; subst e2; subst e3
    simp only [List.drop_succ_cons, List.drop_zero, List.take_succ_cons, List.take_zero] at e4
    unfold msgCells at e4
    simp at e4
    obtain ⟨rfl, rfl, rfl, rfl, rfl, rfl⟩ := e4
    exact ⟨z0, z1, z2, z3, m, e, es, rfl, hp⟩
theorem open_act {v : Value} {d : DataW H} {ps : List MemPlace} {b0 : Nat} {r : Reach} (hval : Value.okWide Try.prog W r b0 50 v) (h : DataW.Trod enc Try.prog W 0 (fun _ => true) hd 50 v d ps) : ∃ (k f t a : Int) (m : MsgV) (e : Hdr) (es : List Hdr), v = .agg (actCells k f t a m e).toArray ∧ PacksAt W.heap e.a e.l e.c m.packs es := by
  obtain ⟨cs, rfl, _⟩ := okWide_struct Try.underlying50 hval
  obtain ⟨fuel, h⟩ := h
  simp only [Value.cells] at h
  obtain ⟨k, f, t, a, m, e, es, e1, hp⟩ := open_actcells h
  refine ⟨k, f, t, a, m, e, es, ?_, hp⟩
  rw [← e1]
end Go.Proofs.Ytnhnioodlciajaa
