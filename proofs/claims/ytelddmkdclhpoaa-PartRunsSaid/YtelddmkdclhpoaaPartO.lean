/- Chapter 16: the law PartAgain, walked. -/
import Derived.Test.YtelddmkdclhpoaaPartN
namespace Go.Proofs.Ytelddmkdclhpoaa
open Go.Vc Go.Sha Go.Trail Go.Packs
set_option linter.unusedVariables false

theorem zero27 : zeroC Try.prog 27 = (msgCells (msgOf zeroD) nilH).toArray := by kernel_rfl
theorem few_deed_ok {P : PartV} {m : MsgV} (h : ∀ p ∈ m.packs, p.ok ∧ ∀ r ∈ p.refs, r.ok) : ∀ x ∈ takeV P (fewM m), x.packs.length < 9223372036854775808 ∧ ∀ p ∈ x.packs, (p.ok ∧ ∀ r ∈ p.refs, r.ok) ∧ p.refs.length < 9223372036854775808 := by
  intro x hx
  rcases takeV_packs P (fewM m) x hx with e | e
  · rw [e]; simp
  · rw [e]
    refine ⟨by simp [fewM, fewPacks]; omega, fun p hp => ⟨few_oks h p hp, ?_⟩⟩
    obtain ⟨q, _, rfl⟩ := List.mem_map.1 hp
    simp [fewPack]; omega

theorem again_tail (a5 : Option Addr) (c5 : Nat) (a7 : Option Addr) (c7 : Nat) (ds1 ds2 : List DeedV) (h0 h : Heap) (x0 : Ext h0 h) (t1 : DeedRead h (.slice a5 ds1.length c5) ds1) (t2 : DeedRead h (.slice a7 ds2.length c7) ds2) (hl1 : ds1.length ≤ 3) (hl2 : ds2.length ≤ 3)
    (e1 : (sendOf ds1).mq = (sendOf ds2).mq) (e2 : (sendOf ds1).my = (sendOf ds2).my) (e3 : (sendOf ds1).mx = (sendOf ds2).mx) : F6_k3 a5 ds1.length c5 a7 ds2.length c7 h fun v h' => v = .bool true ∧ Ext h0 h' := by
  obtain ⟨_, _, ee, t1⟩ := t1
  cases ee
  obtain ⟨_, _, ee, t2⟩ := t2
  cases ee
  unfold F6_k3
  rw [zero27]
  refine (St.start h).new fun b9 h1 s1 _ _ => s1.new fun b10 h2 s2 _ _ => ?_
  refine ⟨fun i h' => ∃ k : Nat, i = k ∧ k ≤ ds1.length ∧ St h h' [⟨b10, (msgCells (msgOf zeroD) nilH).toArray, 27⟩, ⟨b9, (msgCells (msgOf (sendOf (ds1.take k))) nilH).toArray, 27⟩], fun i _ => (ds1.length - i).toNat, ⟨0, rfl, by omega, s2⟩, ?_⟩
  rintro h3 _ ⟨k, rfl, hk, s3⟩
  unfold F6_b4
  refine br_of (fun hlt => ?_) (fun hf => ?_)
  · have hk' : k < ds1.length := by
      have : (k : Int) < (ds1.length : Int) := by simpa using hlt
      omega
    have hx : ds1[k]? = some ds1[k] := List.getElem?_eq_getElem hk'
    generalize ds1[k] = x at hx
    obtain ⟨q, dd, es, eq, hc, _, _, _⟩ := t1 k x hx
    have hc7 : ∀ j u, (deedCells x dd)[j]? = some u → Vc.cell h3 ((q.add (Int.toNat (k : Int) * 9)).add j) = some u := fun j u hu => by rw [Int.toNat_natCast]; exact s3.ext.some (hc j u hu)
    have hnext : sendOf (ds1.take (k + 1)) = if x.kind = 5 then x else sendOf (ds1.take k) := by rw [takeR_succ hx, sendOf_snoc]
    have next : ∀ (h' : Heap) (cc : Array Value) (b7 : Nat), St h h' [⟨b7, cc, 37⟩, ⟨b10, (msgCells (msgOf zeroD) nilH).toArray, 27⟩, ⟨b9, (msgCells (msgOf (sendOf (ds1.take (k + 1)))) nilH).toArray, 27⟩] →
        F6_k6 (fun i h' => ∃ k : Nat, i = k ∧ k ≤ ds1.length ∧ St h h' [⟨b10, (msgCells (msgOf zeroD) nilH).toArray, 27⟩, ⟨b9, (msgCells (msgOf (sendOf (ds1.take k))) nilH).toArray, 27⟩]) (fun i _ => (ds1.length - i).toNat) (((ds1.length : Int) - (k : Int)).toNat) a7 ds2.length c7 (at0 b9) (at0 b10) a5 ds1.length c5 (ds1.length : Int) (k : Int) h' fun v h' => v = .bool true ∧ Ext h0 h' := by
      intro h' cc b7 s'
      unfold F6_k6
      rw [wrap_succ k _ hk' (by omega)]
      exact ⟨⟨k + 1, rfl, by omega, s'.ext, fun i l hl => s'.at_ (i + 1) l hl, fun i j l m hi hj he => by have := s'.apart (i + 1) (j + 1) l m hi hj he; omega⟩, less_succ _ _ hk'⟩
    unfold F6_k5
    refine ⟨q, eq, by omega, by omega, x.kind, x.txn, dd.a, dd.l, dd.c, x.mq, x.mf, x.mt, x.mx, x.my, none, 0, 0, hc7 0 _ rfl, hc7 1 _ rfl, hc7 2 _ rfl, hc7 3 _ rfl, hc7 4 _ rfl, hc7 5 _ rfl, hc7 6 _ rfl, hc7 7 _ rfl, hc7 8 _ rfl, rfl, ?_⟩
    refine s3.new fun b7 h8 s8 x8 hb7 => ?_
    refine s8.storeAll 0 rfl rfl zeroC37 (vs := (deedCells x dd).toArray) (by simpa using deed_one x dd) fun h9 s9 on9 => ?_
    simp only [List.set_cons_zero] at s9
    refine ⟨x.kind, s9.cell 0 rfl rfl, br_of (fun g => ?_) (fun g => ?_)⟩
    · have g : x.kind = 5 := by simpa using g
      refine ⟨x.mq, x.mf, x.mt, x.mx, x.my, none, 0, 0, s9.cell2 0 rfl rfl, s9.cell2 0 rfl rfl, s9.cell2 0 rfl rfl, s9.cell2 0 rfl rfl, s9.cell2 0 rfl rfl, s9.cell2 0 rfl rfl, rfl, ?_⟩
      refine s9.storeAll 2 rfl rfl rfl (vs := (msgCells (msgOf x) nilH).toArray) (by simp [msgCells, one]) fun h10 s10 on10 => ?_
      simp only [List.set_cons_zero, List.set_cons_succ] at s10
      refine next h10 (deedCells x dd).toArray b7 ?_
      rw [hnext, if_pos g]; exact s10
    · have g : ¬ x.kind = 5 := by simpa using g
      refine next h9 (deedCells x dd).toArray b7 ?_
      rw [hnext, if_neg g]; exact s9
  have hkl : k = ds1.length := by
    have : ¬ (k : Int) < (ds1.length : Int) := by simpa using hf
    omega
  rw [hkl, List.take_length] at s3
  unfold F6_k7
  refine ⟨fun i h' => ∃ k : Nat, i = k ∧ k ≤ ds2.length ∧ St h h' [⟨b10, (msgCells (msgOf (sendOf (ds2.take k))) nilH).toArray, 27⟩, ⟨b9, (msgCells (msgOf (sendOf ds1)) nilH).toArray, 27⟩], fun i _ => (ds2.length - i).toNat, ⟨0, rfl, by omega, s3⟩, ?_⟩
  rintro h4 _ ⟨k, rfl, hk, s4⟩
  unfold F6_b8
  refine br_of (fun hlt => ?_) (fun hf => ?_)
  · have hk' : k < ds2.length := by
      have : (k : Int) < (ds2.length : Int) := by simpa using hlt
      omega
    have hx : ds2[k]? = some ds2[k] := List.getElem?_eq_getElem hk'
    generalize ds2[k] = x at hx
    obtain ⟨q, dd, es, eq, hc, _, _, _⟩ := t2 k x hx
    have hc7 : ∀ j u, (deedCells x dd)[j]? = some u → Vc.cell h4 ((q.add (Int.toNat (k : Int) * 9)).add j) = some u := fun j u hu => by rw [Int.toNat_natCast]; exact s4.ext.some (hc j u hu)
    have hnext : sendOf (ds2.take (k + 1)) = if x.kind = 5 then x else sendOf (ds2.take k) := by rw [takeR_succ hx, sendOf_snoc]
    have next : ∀ (h' : Heap) (cc : Array Value) (b7 : Nat), St h h' [⟨b7, cc, 37⟩, ⟨b10, (msgCells (msgOf (sendOf (ds2.take (k + 1)))) nilH).toArray, 27⟩, ⟨b9, (msgCells (msgOf (sendOf ds1)) nilH).toArray, 27⟩] →
        F6_k10 (fun i h' => ∃ k : Nat, i = k ∧ k ≤ ds2.length ∧ St h h' [⟨b10, (msgCells (msgOf (sendOf (ds2.take k))) nilH).toArray, 27⟩, ⟨b9, (msgCells (msgOf (sendOf ds1)) nilH).toArray, 27⟩]) (fun i _ => (ds2.length - i).toNat) (((ds2.length : Int) - (k : Int)).toNat) (at0 b9) (at0 b10) a7 ds2.length c7 (ds2.length : Int) (k : Int) h' fun v h' => v = .bool true ∧ Ext h0 h' := by
      intro h' cc b7 s'
      unfold F6_k10
      rw [wrap_succ k _ hk' (by omega)]
      exact ⟨⟨k + 1, rfl, by omega, s'.ext, fun i l hl => s'.at_ (i + 1) l hl, fun i j l m hi hj he => by have := s'.apart (i + 1) (j + 1) l m hi hj he; omega⟩, less_succ _ _ hk'⟩
    unfold F6_k9
    refine ⟨q, eq, by omega, by omega, x.kind, x.txn, dd.a, dd.l, dd.c, x.mq, x.mf, x.mt, x.mx, x.my, none, 0, 0, hc7 0 _ rfl, hc7 1 _ rfl, hc7 2 _ rfl, hc7 3 _ rfl, hc7 4 _ rfl, hc7 5 _ rfl, hc7 6 _ rfl, hc7 7 _ rfl, hc7 8 _ rfl, rfl, ?_⟩
    refine s4.new fun b7 h8 s8 x8 hb7 => ?_
    refine s8.storeAll 0 rfl rfl zeroC37 (vs := (deedCells x dd).toArray) (by simpa using deed_one x dd) fun h9 s9 on9 => ?_
    simp only [List.set_cons_zero] at s9
    refine ⟨x.kind, s9.cell 0 rfl rfl, br_of (fun g => ?_) (fun g => ?_)⟩
    · have g : x.kind = 5 := by simpa using g
      refine ⟨x.mq, x.mf, x.mt, x.mx, x.my, none, 0, 0, s9.cell2 0 rfl rfl, s9.cell2 0 rfl rfl, s9.cell2 0 rfl rfl, s9.cell2 0 rfl rfl, s9.cell2 0 rfl rfl, s9.cell2 0 rfl rfl, rfl, ?_⟩
      refine s9.storeAll 1 rfl rfl rfl (vs := (msgCells (msgOf x) nilH).toArray) (by simp [msgCells, one]) fun h10 s10 on10 => ?_
      simp only [List.set_cons_zero, List.set_cons_succ] at s10
      refine next h10 (deedCells x dd).toArray b7 ?_
      rw [hnext, if_pos g]; exact s10
    · have g : ¬ x.kind = 5 := by simpa using g
      refine next h9 (deedCells x dd).toArray b7 ?_
      rw [hnext, if_neg g]; exact s9
  have hkl : k = ds2.length := by
    have : ¬ (k : Int) < (ds2.length : Int) := by simpa using hf
    omega
  rw [hkl, List.take_length] at s4
  unfold F6_k11
  refine ⟨(sendOf ds1).mq, s4.cell 1 rfl rfl, (sendOf ds2).mq, s4.cell 0 rfl rfl, br_of (fun _ => ?_) (fun g => by rw [e1] at g; simp at g)⟩
  refine ⟨(sendOf ds1).my, s4.cell 1 rfl rfl, (sendOf ds2).my, s4.cell 0 rfl rfl, br_of (fun _ => ?_) (fun g => by rw [e2] at g; simp at g)⟩
  refine ⟨(sendOf ds1).mx, s4.cell 1 rfl rfl, (sendOf ds2).mx, s4.cell 0 rfl rfl, br_of (fun _ => HEnt.use (works_ok h4) ?_) (fun g => by rw [e3] at g; simp at g)⟩
  rintro _ h5 ⟨rfl, x5⟩
  exact ⟨true, rfl, rfl, x0.trans (s4.ext.trans x5)⟩

theorem again_ok (p : PartV) (d : Hdr) (m : MsgV) (e : Hdr) (es : List Hdr) (h : Heap) (hn : NumsAt h d.a d.l d.c p.done) (hp : PacksAt h e.a e.l e.c m.packs es) :
    HEnt Try.prog 6 #[.agg (partCells p d).toArray, .agg (msgCells m e).toArray] h fun v h' => v = .bool true ∧ Ext h h' := by
  refine F6_ent _ _ _ _ _ _ _ _ _ _ _ _ _ _ _ ?_
  unfold F6
  refine (St.start h).new fun b2 h1 s1 _ _ => s1.new fun b3 h2 s2 _ _ => ?_
  refine ⟨p.root, p.staged, d.a, d.l, d.c, s2.cell 1 rfl rfl, s2.cell 1 rfl rfl, s2.cell 1 rfl rfl, rfl, m.kind, m.from_, m.to, m.txn, m.yes, e.a, e.l, e.c, s2.cell 0 rfl rfl, s2.cell 0 rfl rfl, s2.cell 0 rfl rfl, s2.cell 0 rfl rfl, s2.cell 0 rfl rfl, s2.cell 0 rfl rfl, rfl, ?_⟩
  refine HEnt.use (few_ok p d m e es h2 (NumsAt.grow hn s2.ext) (hp.grow s2.ext)) ?_
  rintro _ h3 ⟨d', e', es', rfl, o3, t3, x3⟩
  refine ⟨p.root, p.staged, d'.a, d'.l, d'.c, m.kind, m.from_, m.to, m.txn, m.yes, e'.a, e'.l, e'.c, rfl, ?_⟩
  have s3 := s2.grow x3
  have lo2 := s2.lt (i := 1) rfl
  have lo3 := s2.lt (i := 0) rfl
  have lo := (s2.at_ 1 _ rfl).1
  have lo' := (s2.at_ 0 _ rfl).1
  simp only at lo2 lo3 lo lo'
  refine s3.storeAll 1 rfl rfl rfl (vs := (partCells p d').toArray) (by simp [partCells, one]) fun h4 s4 on4 => ?_
  simp only [List.set_cons_zero, List.set_cons_succ] at s4
  refine s4.storeAll 0 rfl rfl rfl (vs := (msgCells m e').toArray) (by simp [msgCells, one]) fun h5 s5 on5 => ?_
  simp only [List.set_cons_zero] at s5
  have K5 : Keep (fun k => k = b2 ∨ k = b3) h3 h5 := (on4.keep (S := fun k => k = b2 ∨ k = b3) (.inl rfl)).trans (on5.keep (S := fun k => k = b2 ∨ k = b3) (.inr rfl))
  have o5 : OwnR 3 1 h h5 d'.a d'.l d'.c (nums (fewP p).done) := (o3.since s2.ext).keep K5 (fun k hk hs => by omega) (fun k ek hs => by have := (o3.lt k ek).1; omega)
  have t5 : TwinAt h h5 e' (fewM m).packs es' := (TwinAt.since t3 s2.ext).keep K5 (fun k hk hs => by omega) (fun k ek hs => by have := (t3.rows.lt k ek).1; omega) (fun i x hx k ek hs => by obtain ⟨_, o⟩ := t3.ref hx; have := (o.lt k ek).1; omega)
  have n5 : NumsAt h5 d'.a d'.l d'.c (fewP p).done := o5.rows
  have p5 : PacksAt h5 e'.a e'.l e'.c (fewM m).packs es' := t5.packs (few_oks (PacksAt.oks hp))
  have ll := few_len t5
  have ln := few_nums o5
  have lls : ∀ x ∈ es', x.l ≤ 1099511627776 := fun x hx => by have := ll.2 x hx; omega
  have lp : (fewP p).done.length ≤ 100 := by simp [fewP]; omega
  refine ⟨p.root, p.staged, d'.a, d'.l, d'.c, s5.cell 1 rfl rfl, s5.cell 1 rfl rfl, s5.cell 1 rfl rfl, rfl, m.kind, m.from_, m.to, m.txn, m.yes, e'.a, e'.l, e'.c, s5.cell 0 rfl rfl, s5.cell 0 rfl rfl, s5.cell 0 rfl rfl, s5.cell 0 rfl rfl, s5.cell 0 rfl rfl, s5.cell 0 rfl rfl, rfl, ?_⟩
  refine HEnt.use (take_ok (fewP p) d' (fewM m) e' es' h5 n5 (by omega) p5 (by omega) lls) ?_
  rintro _ h6 ⟨t6, x6⟩
  have r6 := deeds_read t6 (few_deed_ok (PacksAt.oks hp))
  have tl := takeV_len (fewP p) (fewM m)
  obtain ⟨a23, c23, rfl⟩ := deeds_len t6
  have s6 := s5.grow x6
  refine ⟨a23, _, c23, rfl, p.root, p.staged, d'.a, d'.l, d'.c, s6.cell 1 rfl rfl, s6.cell 1 rfl rfl, s6.cell 1 rfl rfl, rfl, ?_⟩
  refine HEnt.use (play_ok (fewP p) d' _ (takeV (fewP p) (fewM m)) h6 (NumsAt.grow n5 x6) r6 (by omega) (by omega)) ?_
  rintro _ h7 ⟨f, rfl, o7, x7⟩
  have s7 := s6.grow x7
  have pl := playV_len (takeV (fewP p) (fewM m)) (fewP p)
  have ag := again (fewP p) (fewM m)
  have tl2 := takeV_len (playV (fewP p) (takeV (fewP p) (fewM m))) (fewM m)
  unfold Again at ag
  generalize hq : playV (fewP p) (takeV (fewP p) (fewM m)) = q at *
  refine ⟨q.root, q.staged, f.a, f.l, f.c, rfl, s7.new fun b6 h8 s8 x8 hb6 => ?_⟩
  refine s8.storeAll 0 rfl rfl zeroC24 (vs := (partCells q f).toArray) (by simp [partCells, one]) fun h9 s9 on9 => ?_
  simp only [List.set_cons_zero] at s9
  have x79 : Ext h7 h9 := ⟨by have := x8.size; have := on9.size; omega, fun k hk => (on9.block k (by show k ≠ b6; omega)).trans (x8.block k hk)⟩
  have nq : NumsAt h9 f.a f.l f.c q.done := NumsAt.grow o7.rows x79
  have lq : f.l = q.done.length := by have := o7.len; simpa [nums] using this.symm
  have n9 := (NumsAt.grow (NumsAt.grow n5 x6) x7).grow x79
  have p9 := ((p5.grow x6).grow x7).grow x79
  refine ⟨q.root, q.staged, f.a, f.l, f.c, s9.cell 0 rfl rfl, s9.cell 0 rfl rfl, s9.cell 0 rfl rfl, rfl, m.kind, m.from_, m.to, m.txn, m.yes, e'.a, e'.l, e'.c, s9.cell 1 rfl rfl, s9.cell 1 rfl rfl, s9.cell 1 rfl rfl, s9.cell 1 rfl rfl, s9.cell 1 rfl rfl, s9.cell 1 rfl rfl, rfl, ?_⟩
  refine HEnt.use (take_ok q f (fewM m) e' es' h9 nq (by omega) p9 (by omega) lls) ?_
  rintro _ h10 ⟨t10, x10⟩
  have r10 := deeds_read t10 (few_deed_ok (PacksAt.oks hp))
  obtain ⟨a29, c29, rfl⟩ := deeds_len t10
  have s10 := s9.grow x10
  refine ⟨a29, _, c29, rfl, q.root, q.staged, f.a, f.l, f.c, s10.cell 0 rfl rfl, s10.cell 0 rfl rfl, s10.cell 0 rfl rfl, rfl, ?_⟩
  refine HEnt.use (play_ok q f _ (takeV q (fewM m)) h10 (NumsAt.grow nq x10) r10 (by omega) (by omega)) ?_
  rintro _ h11 ⟨g, rfl, o11, x11⟩
  have s11 := s10.grow x11
  generalize hr : playV q (takeV q (fewM m)) = r at *
  refine ⟨r.root, r.staged, g.a, g.l, g.c, rfl, s11.new fun b8 h12 s12 x12 hb8 => ?_⟩
  refine s12.storeAll 0 rfl rfl zeroC24 (vs := (partCells r g).toArray) (by simp [partCells, one]) fun h13 s13 on13 => ?_
  simp only [List.set_cons_zero] at s13
  have x1113 : Ext h11 h13 := ⟨by have := x12.size; have := on13.size; omega, fun k hk => (on13.block k (by show k ≠ b8; omega)).trans (x12.block k hk)⟩
  have nr : NumsAt h13 g.a g.l g.c r.done := NumsAt.grow o11.rows x1113
  have x613 : Ext h6 h13 := ((x7.trans x79).trans x10).trans (x11.trans x1113)
  have n13 := (NumsAt.grow n5 x6).grow x613
  refine ⟨p.root, p.staged, d'.a, d'.l, d'.c, s13.cell 3 rfl rfl, s13.cell 3 rfl rfl, s13.cell 3 rfl rfl, rfl, ?_⟩
  refine HEnt.use (good_ok (fewP p) d' h13 n13 (by omega)) ?_
  rintro _ h14 ⟨rfl, x14⟩
  have s14 := s13.grow x14
  refine ⟨_, rfl, br_of (fun gg => ?_) (fun gg => ?_)⟩
  · have gg : ¬ goodP (fewP p) := by simpa using gg
    have : takeV (fewP p) (fewM m) = [] := by unfold takeV; rw [if_pos (.inl gg)]
    rw [this]
    refine br_of (fun _ => HEnt.use (works_ok h14) ?_) (fun e => by cases e)
    rintro _ h15 ⟨rfl, x15⟩
    exact ⟨true, rfl, rfl, s14.ext.trans x15⟩
  have gg : goodP (fewP p) := by simpa using gg
  obtain ⟨gq, rq, e1, e2, e3⟩ := ag gg
  subst rq
  have nq14 := (((NumsAt.grow nq x10).grow x11).grow x1113).grow x14
  unfold F6_k1
  refine ⟨r.root, r.staged, f.a, f.l, f.c, s14.cell 1 rfl rfl, s14.cell 1 rfl rfl, s14.cell 1 rfl rfl, rfl, ?_⟩
  refine HEnt.use (good_ok r f h14 nq14 (by omega)) ?_
  rintro _ h15 ⟨rfl, x15⟩
  have s15 := s14.grow x15
  refine ⟨_, rfl, br_of (fun g1 => by rw [decide_eq_true gq] at g1; cases g1) (fun _ => ?_)⟩
  refine ⟨r.root, r.staged, f.a, f.l, f.c, s15.cell 1 rfl rfl, s15.cell 1 rfl rfl, s15.cell 1 rfl rfl, rfl, r.root, r.staged, g.a, g.l, g.c, s15.cell 0 rfl rfl, s15.cell 0 rfl rfl, s15.cell 0 rfl rfl, rfl, ?_⟩
  refine HEnt.use (same_ok r f g h15 (nq14.grow x15) ((nr.grow x14).grow x15) (by omega)) ?_
  rintro _ h16 ⟨rfl, x16⟩
  have s16 := s15.grow x16
  refine ⟨true, rfl, ?_⟩
  unfold F6_k2
  refine br_of (fun e => by cases e) (fun _ => ?_)
  have x1416 : Ext h13 h16 := (x14.trans x15).trans x16
  exact again_tail a23 c23 a29 c29 _ _ h h16 s16.ext (r6.grow (x613.trans x1416)) (r10.grow ((x11.trans x1113).trans x1416)) tl tl2 e1 e2 e3
end Go.Proofs.Ytelddmkdclhpoaa
