/- Chapter 16: play, same. -/
import Derived.Test.YtelddmkdclhpoaaPartL
namespace Go.Vc
set_option linter.unusedVariables false
theorem run_loadCell {P : Program} {w : World} {ad : Addr} {v : Value} {t : TypeId} {d : TypeDesc} (hc : cell w.heap ad = some v) (hd : P.underlying t = some d) (hp : plainD d = true) : (loadVar t ad).run P w = .ok v w := by
  have hc' : w.cell? ad = some v := hc
  unfold loadVar
  simp [Sem.run_bind, run_isAgg_false hd hp, hc']
/-- what is read in memory of which the blocks below B stay -/
theorem Keep.cell {B : Nat} {h h' : Heap} (x : Keep (B ≤ ·) h h') {ad : Addr} {v : Value} (hc : Vc.cell h ad = some v) (hb : ad.block < B) : Vc.cell h' ad = some v := by
  have := x.block ad.block (lt_of_cell hc) (by omega)
  rw [← hc]; simp only [Vc.cell, this]
end Go.Vc
namespace Go.Packs
def play1 (p : PartV) (x : DeedV) : PartV := if x.kind = 2 then { p with staged := x.txn } else if x.kind = 3 then { p with staged := 0, done := p.done ++ [x.txn] } else if x.kind = 4 then { p with staged := 0 } else p
def playV (p : PartV) (l : List DeedV) : PartV := l.foldl play1 p
theorem play1_len (p : PartV) (x : DeedV) : (play1 p x).done.length ≤ p.done.length + 1 := by
  unfold play1; split
  · simp
  · split
    · simp
    · split <;> simp
theorem playV_len (l : List DeedV) : ∀ p, (playV p l).done.length ≤ p.done.length + l.length := by
  induction l with
  | nil => intro p; simp [playV]
  | cons x l ih =>
    intro p
    have := ih (play1 p x)
    have := play1_len p x
    show (playV (play1 p x) l).done.length ≤ _
    simp only [List.length_cons]; omega
theorem playV_snoc (p : PartV) (l : List DeedV) (x : DeedV) : playV p (l ++ [x]) = play1 (playV p l) x := by unfold playV; rw [List.foldl_append]; rfl
end Go.Packs
namespace Go.Proofs.Ytelddmkdclhpoaa
open Go.Vc Go.Sha Go.Trail Go.Packs
set_option linter.unusedVariables false

theorem same_ok (p : PartV) (d d' : Hdr) (h : Heap) (hn : NumsAt h d.a d.l d.c p.done) (hn' : NumsAt h d'.a d'.l d'.c p.done) (hl : d.l < 9223372036854775808) :
    HEnt Try.prog 22 #[.agg (partCells p d).toArray, .agg (partCells p d').toArray] h fun v h' => v = .bool true ∧ Ext h h' := by
  refine F22_ent _ _ _ _ _ _ _ _ _ _ _ _ ?_
  unfold F22
  refine (St.start h).new fun b2 h1 s1 _ _ => s1.new fun b3 h2 s2 _ _ => ?_
  refine ⟨p.root, s2.cell 1 rfl rfl, p.root, s2.cell 0 rfl rfl, br_of (fun _ => ?_) (fun g => by simp at g)⟩
  refine ⟨p.staged, s2.cell 1 rfl rfl, p.staged, s2.cell 0 rfl rfl, br_of (fun _ => ?_) (fun g => by simp at g)⟩
  refine ⟨d.a, d.l, d.c, s2.cell 1 rfl rfl, d'.a, d'.l, d'.c, s2.cell 0 rfl rfl, HEnt.use (nums_same d.a d.l d.c d'.a d'.l d'.c p.done h2 (NumsAt.grow hn s2.ext) (NumsAt.grow hn' s2.ext) hl) ?_⟩
  rintro _ _ ⟨rfl, rfl⟩
  exact ⟨true, rfl, rfl, s2.ext⟩

theorem num1 (x : Int) (h : Heap) (b : Nat) (hb : h[b]? = some (.cells #[Value.int .i64 x] 3 (0, 0))) : srcK h 1 (.slice (some (at0 b)) 1 1) 1 [[Value.int .i64 x]].flatten := by
  have : OwnR 3 1 (#[] : Heap) h (some ⟨b, 0, none⟩) 1 1 [[Value.int .i64 x]] := OwnR.new_ (by simpa using hb) (Ext.none h) (Nat.zero_le _) (by simp) rfl
  exact this.rows.src

theorem play_ok (p : PartV) (d : Hdr) (v : Value) (ds : List DeedV) (h : Heap) (hn : NumsAt h d.a d.l d.c p.done) (ht : DeedRead h v ds) (hpl : p.done.length ≤ 1000) (hdl : ds.length ≤ 1000) :
    HEnt Try.prog 21 #[.agg (partCells p d).toArray, v] h fun v h' => ∃ e : Hdr, v = .agg (partCells (playV p ds) e).toArray ∧ OwnR 3 1 h h' e.a e.l e.c (nums (playV p ds).done) ∧ Ext h h' := by
  obtain ⟨av, cv, rfl, ht⟩ := ht
  have hlen := hn.len
  refine F21_ent _ _ _ _ _ _ _ _ _ _ ?_
  unfold F21
  refine (St.start h).new fun b2 h1 s1 _ _ => s1.new fun b4 h2 s2 _ _ => ?_
  have n2 := NumsAt.grow hn s2.ext
  have lo2 := s2.lt (i := 1) rfl
  simp only at lo2
  have c0 := s2.cell 1 rfl (k := 0) (v := .int .i64 p.root) rfl
  have c1 := s2.cell 1 rfl (k := 1) (v := .int .i64 p.staged) rfl
  have c2 := s2.cell 1 rfl (k := 2) (v := .slice d.a d.l d.c) rfl
  have bl : ∀ k, ((at0 b2).add k).block < h2.size := fun k => by rw [add_at0]; exact lo2
  -- behind the region
  have fin : ∀ (b5 : Nat) (e : Hdr) (h6 : Heap), St h h6 [⟨b5, (partCells p e).toArray, 24⟩, ⟨b4, zeroC Try.prog 24, 24⟩, ⟨b2, (partCells p d).toArray, 24⟩] → OwnR 3 1 h h6 e.a e.l e.c (nums p.done) → F21_k1 av ds.length cv (at0 b4) (at0 b5) h6 fun v h' => ∃ e : Hdr, v = .agg (partCells (playV p ds) e).toArray ∧ OwnR 3 1 h h' e.a e.l e.c (nums (playV p ds).done) ∧ Ext h h' := by
    intro b5 e h6 s6 o6
    unfold F21_k1
    refine ⟨fun i h' => ∃ (k : Nat) (e : Hdr), i = k ∧ k ≤ ds.length ∧ St h h' [⟨b5, (partCells (playV p (ds.take k)) e).toArray, 24⟩, ⟨b4, zeroC Try.prog 24, 24⟩, ⟨b2, (partCells p d).toArray, 24⟩] ∧ OwnR 3 1 h h' e.a e.l e.c (nums (playV p (ds.take k)).done), fun i _ => (ds.length - i).toNat, ⟨0, e, rfl, by omega, s6, o6⟩, ?_⟩
    rintro h7 _ ⟨k, e, rfl, hk, s7, o7⟩
    unfold F21_b2
    refine br_of (fun hlt => ?_) (fun hf => ?_)
    · have hk' : k < ds.length := by
        have : (k : Int) < (ds.length : Int) := by simpa using hlt
        omega
      have hx : ds[k]? = some ds[k] := List.getElem?_eq_getElem hk'
      generalize ds[k] = x at hx
      obtain ⟨q, dd, es, eq, hc, _, _, _⟩ := ht k x hx
      have hc7 : ∀ j u, (deedCells x dd)[j]? = some u → Vc.cell h7 ((q.add (Int.toNat (k : Int) * 9)).add j) = some u := fun j u hu => by rw [Int.toNat_natCast]; exact s7.ext.some (hc j u hu)
      have hlenk : (playV p (ds.take k)).done.length ≤ 2000 := by
        have := playV_len (ds.take k) p
        rw [List.length_take] at this; omega
      generalize hP : playV p (ds.take k) = P at *
      have hnext : playV p (ds.take (k + 1)) = play1 P x := by rw [takeR_succ hx, playV_snoc, hP]
      have next : ∀ (e' : Hdr) (h' : Heap) (c7 : Array Value) (b7 : Nat), St h h' [⟨b7, c7, 37⟩, ⟨b5, (partCells (play1 P x) e').toArray, 24⟩, ⟨b4, zeroC Try.prog 24, 24⟩, ⟨b2, (partCells p d).toArray, 24⟩] → OwnR 3 1 h h' e'.a e'.l e'.c (nums (play1 P x).done) →
          F21_k4 (fun i h' => ∃ (k : Nat) (e : Hdr), i = k ∧ k ≤ ds.length ∧ St h h' [⟨b5, (partCells (playV p (ds.take k)) e).toArray, 24⟩, ⟨b4, zeroC Try.prog 24, 24⟩, ⟨b2, (partCells p d).toArray, 24⟩] ∧ OwnR 3 1 h h' e.a e.l e.c (nums (playV p (ds.take k)).done)) (fun i _ => (ds.length - i).toNat) (((ds.length : Int) - (k : Int)).toNat) (at0 b4) (at0 b5) av ds.length cv (ds.length : Int) (k : Int) h' fun v h' => ∃ e : Hdr, v = .agg (partCells (playV p ds) e).toArray ∧ OwnR 3 1 h h' e.a e.l e.c (nums (playV p ds).done) ∧ Ext h h' := by
        intro e' h' c7 b7 s' o'
        unfold F21_k4
        rw [wrap_succ k _ hk' (by omega)]
        refine ⟨⟨k + 1, e', rfl, by omega, ?_, ?_⟩, less_succ _ _ hk'⟩
        · rw [hnext]
          exact ⟨s'.ext, fun i l hl => s'.at_ (i + 1) l hl, fun i j l m hi hj he => by have := s'.apart (i + 1) (j + 1) l m hi hj he; omega⟩
        · rw [hnext]; exact o'
      unfold F21_k3
      refine ⟨q, eq, by omega, by omega, x.kind, x.txn, dd.a, dd.l, dd.c, x.mq, x.mf, x.mt, x.mx, x.my, none, 0, 0, hc7 0 _ rfl, hc7 1 _ rfl, hc7 2 _ rfl, hc7 3 _ rfl, hc7 4 _ rfl, hc7 5 _ rfl, hc7 6 _ rfl, hc7 7 _ rfl, hc7 8 _ rfl, rfl, ?_⟩
      refine s7.new fun b7 h8 s8 x8 hb7 => ?_
      refine s8.storeAll 0 rfl rfl zeroC37 (vs := (deedCells x dd).toArray) (by simpa using deed_one x dd) fun h9 s9 on9 => ?_
      simp only [List.set_cons_zero] at s9
      have lo7 := (s9.at_ 0 _ rfl).1
      have lo5 := (s9.at_ 1 _ rfl).1
      simp only at lo7 lo5
      have o9 : OwnR 3 1 h h9 e.a e.l e.c (nums P.done) := (o7.grow x8).keep (S := (· = b7)) (on9.keep rfl) (fun k hk hs => by omega) ((o7.grow x8).loc_ne s8 (i := 0) rfl (Nat.ne_of_beq_eq_false rfl))
      have el : e.l = P.done.length := by have := o9.len; simpa [nums] using this.symm
      refine ⟨x.kind, s9.cell 0 rfl rfl, br_of (fun g => ?_) (fun g2 => br_of (fun g => ?_) (fun g3 => br_of (fun g => ?_) (fun g4 => ?_)))⟩
      · have g : x.kind = 2 := by simpa using g
        have hp1 : play1 P x = { P with staged := x.txn } := by unfold play1; rw [if_pos g]
        refine ⟨x.txn, s9.cell 0 rfl rfl, s9.store 1 rfl (k := 1) (Nat.le_of_ble_eq_true rfl) rfl fun h10 s10 on10 => ?_⟩
        simp only [List.set_cons_zero, List.set_cons_succ] at s10
        refine next e h10 _ b7 (by rw [hp1]; exact s10) ?_
        rw [hp1]
        exact o9.keep (S := (· = b5)) (on10.keep rfl) (fun k hk hs => by omega) (o9.loc_ne s9 (i := 1) rfl (Nat.ne_of_beq_eq_false rfl))
      · have n2 : ¬ x.kind = 2 := by simpa using g2
        have g : x.kind = 3 := by simpa using g
        have hp1 : play1 P x = { P with staged := 0, done := P.done ++ [x.txn] } := by unfold play1; rw [if_neg n2, if_pos g]
        refine s9.store 1 rfl (k := 1) (Nat.le_of_ble_eq_true rfl) rfl fun h10 s10 on10 => ?_
        simp only [List.set_cons_zero, List.set_cons_succ] at s10
        have o10 : OwnR 3 1 h h10 e.a e.l e.c (nums P.done) := o9.keep (S := (· = b5)) (on10.keep rfl) (fun k hk hs => by omega) (o9.loc_ne s9 (i := 1) rfl (Nat.ne_of_beq_eq_false rfl))
        refine ⟨e.a, e.l, e.c, s10.cell 1 rfl rfl, x.txn, s10.cell 0 rfl rfl, by omega, newK_intro fun h11 n11 x11 _ => ?_⟩
        have s11 := s10.grow x11
        refine appK_R (new := [[Value.int .i64 x.txn]]) size3 (o10.grow x11) (num1 x.txn h11 _ n11) rfl (by simp) (by simp [one]) (by rw [bytes3, el]; omega) z3 fun a12 c12 h12 o12 k12 _ => ?_
        have S12 : ∀ k, k < h.size → ¬ (e.a = some ⟨k, 0, none⟩ ∨ h11.size ≤ k) := by
          intro k hk hs
          rcases hs with hs | hs
          · have := (o10.lt k hs).1; omega
          · have := s11.ext.size; omega
        have s12 := s11.keep k12 S12 (fun i l hl hs => by
          rcases hs with hs | hs
          · have : l.t ≠ 3 := by
              match i, hl with
              | 0, hl => simp at hl; subst hl; exact Nat.ne_of_beq_eq_false rfl
              | 1, hl => simp at hl; subst hl; exact Nat.ne_of_beq_eq_false rfl
              | 2, hl => simp at hl; subst hl; exact Nat.ne_of_beq_eq_false rfl
              | 3, hl => simp at hl; subst hl; exact Nat.ne_of_beq_eq_false rfl
              | i + 4, hl => simp at hl
            exact (o10.grow x11).loc_ne s11 hl this _ hs rfl
          · have := s11.lt hl; omega)
        refine s12.store 1 rfl (k := 2) (Nat.le_of_ble_eq_true rfl) rfl fun h13 s13 on13 => ?_
        simp only [List.set_cons_zero, List.set_cons_succ] at s13
        refine next ⟨a12, e.l + 1, c12⟩ h13 _ b7 (by rw [hp1]; exact s13) ?_
        rw [hp1]
        have o13 : OwnR 3 1 h h13 a12 (e.l + 1) c12 (nums P.done ++ [[Value.int .i64 x.txn]]) := o12.keep (S := (· = b5)) (on13.keep rfl) (fun k hk hs => by omega) (o12.loc_ne s12 (i := 1) rfl (Nat.ne_of_beq_eq_false rfl))
        show OwnR 3 1 h h13 a12 (e.l + 1) c12 (nums (P.done ++ [x.txn]))
        unfold nums at o13 ⊢
        rw [List.map_append]; exact o13
      · have n2 : ¬ x.kind = 2 := by simpa using g2
        have n3 : ¬ x.kind = 3 := by simpa using g3
        have g : x.kind = 4 := by simpa using g
        have hp1 : play1 P x = { P with staged := 0 } := by unfold play1; rw [if_neg n2, if_neg n3, if_pos g]
        refine s9.store 1 rfl (k := 1) (Nat.le_of_ble_eq_true rfl) rfl fun h10 s10 on10 => ?_
        simp only [List.set_cons_zero, List.set_cons_succ] at s10
        refine next e h10 _ b7 (by rw [hp1]; exact s10) ?_
        rw [hp1]
        exact o9.keep (S := (· = b5)) (on10.keep rfl) (fun k hk hs => by omega) (o9.loc_ne s9 (i := 1) rfl (Nat.ne_of_beq_eq_false rfl))
      · have n2 : ¬ x.kind = 2 := by simpa using g2
        have n3 : ¬ x.kind = 3 := by simpa using g3
        have n4 : ¬ x.kind = 4 := by simpa using g4
        have hp1 : play1 P x = P := by unfold play1; rw [if_neg n2, if_neg n3, if_neg n4]
        exact next e h9 _ b7 (by rw [hp1]; exact s9) (by rw [hp1]; exact o9)
    · have hk' : k = ds.length := by
        have : ¬ (k : Int) < (ds.length : Int) := by simpa using hf
        omega
      rw [hk', List.take_length] at s7 o7
      unfold F21_k5
      refine ⟨(playV p ds).root, (playV p ds).staged, e.a, e.l, e.c, s7.cell 0 rfl rfl, s7.cell 0 rfl rfl, s7.cell 0 rfl rfl, rfl, ?_⟩
      refine s7.storeAll 1 rfl rfl zeroC24 (vs := (partCells (playV p ds) e).toArray) (by simp [partCells, one]) fun h8 s8 on8 => ?_
      simp only [List.set_cons_zero, List.set_cons_succ] at s8
      have lo4 := (s8.at_ 1 _ rfl).1
      simp only at lo4
      refine ⟨(playV p ds).root, (playV p ds).staged, e.a, e.l, e.c, s8.cell 1 rfl rfl, s8.cell 1 rfl rfl, s8.cell 1 rfl rfl, rfl, e, rfl, ?_, s8.ext⟩
      exact o7.keep (S := (· = b4)) (on8.keep rfl) (fun k hk hs => by omega) (o7.loc_ne s7 (i := 1) rfl (Nat.ne_of_beq_eq_false rfl))
  have base : ∀ {h' : Heap}, Ext h2 h' → Keep (h2.size ≤ ·) h2 h' := fun x => x.keep _
  refine ⟨Keep (h2.size ≤ ·), fun h => Keep.refl _ h, fun _ _ _ x y => x.trans y, p.root, fun w hw => run_loadCell (hw.cell c0 (bl 0)) Try.underlying3 rfl, p.staged, fun w hw => run_loadCell (hw.cell c1 (bl 1)) Try.underlying3 rfl, d.a, d.l, d.c, fun w hw => run_loadCell (hw.cell c2 (bl 2)) Try.underlying22 rfl, ?_, ?_⟩
  · refine ⟨by omega, newK_intro fun h3 n3 x3 _ => ⟨x3.keep _, ?_, ?_⟩⟩
    · have lt3 := blk_lt n3
      refine appK_R (h0 := h) (rows := []) (new := nums p.done) size3 (OwnR.new_ n3 (s2.ext.trans x3) s2.ext.size (by simp) rfl) (NumsAt.grow n2 x3).src hn.1 hn.row (numRows_one _) (by rw [bytes3]; omega) z3 fun a4 c4 h4 o4 k4 i4 => ?_
      rw [Nat.zero_add] at o4 ⊢
      rw [List.nil_append] at o4
      have S4 : ∀ k, k < h2.size → ¬ (some (at0 h2.size) = some ⟨k, 0, none⟩ ∨ h3.size ≤ k) := by
        intro k hk hs
        rcases hs with hs | hs
        · simp [at0] at hs; try omega
        · omega
      have s4 := (s2.grow x3).keep k4 (fun k hk => S4 k (Nat.lt_of_lt_of_le hk s2.ext.size)) (fun i l hl => S4 _ (s2.lt hl))
      have z4 := k4.size
      refine ⟨k4.mono (fun k _ hs => Nat.le_of_not_lt fun hk => S4 k hk hs), ?_⟩
      refine s4.new fun b5 h5 s5 x5 hb5 => ⟨x5.keep _, ?_⟩
      refine s5.storeAll 0 rfl rfl zeroC24 (vs := (partCells p ⟨a4, d.l, c4⟩).toArray) (by simp [partCells, one]) fun h6 s6 on6 => ⟨on6.keep (by show h2.size ≤ b5; omega), ?_⟩
      simp only [List.set_cons_zero] at s6
      have lo5 := (s5.at_ 0 _ rfl).1
      simp only at lo5
      exact fin b5 ⟨a4, d.l, c4⟩ h6 s6 ((o4.grow x5).keep (S := (· = b5)) (on6.keep rfl) (fun k hk hs => by omega) ((o4.grow x5).loc_ne s5 (i := 0) rfl (Nat.ne_of_beq_eq_false rfl)))
    · have lt3 := blk_lt n3
      refine (s2.grow x3).new fun b5 h4 s4 x4 hb5 => ⟨x4.keep _, ?_⟩
      have lo5 := (s4.at_ 0 _ rfl).1
      simp only at lo5
      have z4 := x4.size
      refine appK_R (h0 := h) (rows := []) (new := nums p.done) size3 (OwnR.new_ (x4.blk n3) s4.ext s2.ext.size (by simp) rfl) ((NumsAt.grow n2 x3).grow x4).src hn.1 hn.row (numRows_one _) (by rw [bytes3]; omega) z3 fun a5 c5 h5 o5 k5 i5 => ?_
      rw [Nat.zero_add] at o5 ⊢
      rw [List.nil_append] at o5
      have S5 : ∀ k, k < h4.size → k ≠ h2.size → ¬ (some (at0 h2.size) = some ⟨k, 0, none⟩ ∨ h4.size ≤ k) := by
        intro k hk hne hs
        rcases hs with hs | hs
        · simp [at0] at hs; try exact hne hs.symm
        · omega
      have lt5 := s4.lt (i := 0) rfl
      simp only at lt5
      have s5 := s4.keep k5 (fun k hk => S5 k (by have := s4.ext.size; omega) (by have := s2.ext.size; omega)) (fun i l hl => by
        match i, hl with
        | 0, hl => simp at hl; subst hl; exact S5 b5 lt5 (by omega)
        | i + 1, hl =>
          have hl' : [(⟨b4, zeroC Try.prog 24, 24⟩ : Vc.Loc), ⟨b2, (partCells p d).toArray, 24⟩][i]? = some l := hl
          have := s2.lt hl'
          exact S5 l.b (by omega) (by omega))
      refine ⟨k5.mono (fun k hk hs => Nat.le_of_not_lt fun hk2 => S5 k hk (by omega) hs), ?_⟩
      refine s5.storeAll 0 rfl rfl zeroC24 (vs := (partCells p ⟨a5, d.l, c5⟩).toArray) (by simp [partCells, one]) fun h6 s6 on6 => ⟨on6.keep (by show h2.size ≤ b5; omega), ?_⟩
      simp only [List.set_cons_zero] at s6
      exact fin b5 ⟨a5, d.l, c5⟩ h6 s6 (o5.keep (S := (· = b5)) (on6.keep rfl) (fun k hk hs => by omega) (o5.loc_ne s5 (i := 0) rfl (Nat.ne_of_beq_eq_false rfl)))
  · refine s2.new fun b5 h3 s3 x3 hb5 => ⟨x3.keep _, by omega, newK_intro fun h4 n4 x4 _ => ⟨x4.keep _, ?_⟩⟩
    have lt4 := blk_lt n4
    have lo5 := (s3.at_ 0 _ rfl).1
    have lt5 := s3.lt (i := 0) rfl
    simp only at lo5 lt5
    have z3' := x3.size
    refine appK_R (h0 := h) (rows := []) (new := nums p.done) size3 (OwnR.new_ n4 (s3.ext.trans x4) s3.ext.size (by simp) rfl) ((NumsAt.grow n2 x3).grow x4).src hn.1 hn.row (numRows_one _) (by rw [bytes3]; omega) z3 fun a5 c5 h5 o5 k5 i5 => ?_
    rw [Nat.zero_add] at o5 ⊢
    rw [List.nil_append] at o5
    have S5 : ∀ k, k < h3.size → ¬ (some (at0 h3.size) = some ⟨k, 0, none⟩ ∨ h4.size ≤ k) := by
      intro k hk hs
      rcases hs with hs | hs
      · simp [at0] at hs; try omega
      · omega
    have s5 := (s3.grow x4).keep k5 (fun k hk => S5 k (Nat.lt_of_lt_of_le hk s3.ext.size)) (fun i l hl => S5 _ (s3.lt hl))
    refine ⟨k5.mono (fun k hk hs => Nat.le_of_not_lt fun hk2 => S5 k (by omega) hs), ?_⟩
    refine s5.storeAll 0 rfl rfl zeroC24 (vs := (partCells p ⟨a5, d.l, c5⟩).toArray) (by simp [partCells, one]) fun h6 s6 on6 => ⟨on6.keep (by show h2.size ≤ b5; omega), ?_⟩
    simp only [List.set_cons_zero] at s6
    exact fin b5 ⟨a5, d.l, c5⟩ h6 s6 (o5.keep (S := (· = b5)) (on6.keep rfl) (fun k hk hs => by omega) (o5.loc_ne s5 (i := 0) rfl (Nat.ne_of_beq_eq_false rfl)))
end Go.Proofs.Ytelddmkdclhpoaa
