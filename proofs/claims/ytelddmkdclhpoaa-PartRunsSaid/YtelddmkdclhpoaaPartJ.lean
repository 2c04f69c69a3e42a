/- Chapter 16: few. -/
import Derived.Test.YtelddmkdclhpoaaPartI
namespace Go.Vc
set_option linter.unusedVariables false
theorem run_loadAgg {P : Program} {w : World} {b : Nat} {cs : Array Value} {t t' : TypeId} {d : TypeDesc} (hb : w.heap[b]? = some (.cells cs t' (0, 0))) (hd : P.underlying t = some d) (hp : plainD d = false) (hn : cs.size = P.cellsOf t) : (loadVar t (at0 b)).run P w = .ok (.agg cs) w := by
  have hc : CellsAt w.heap (at0 b) cs.toList := cells_blk0 hb
  have hr := run_cells (P := P) hc
  simp only [Array.length_toList] at hr
  unfold loadVar
  simp [Sem.run_bind, run_isAgg_true hd hp, run_size hd, ← hn, hr]
/-- a local and a slice of one's own of another type -/
theorem OwnR.loc_ne {el : TypeId} {n : Nat} {h0 h0' h : Heap} {a : Option Addr} {l c : Nat} {rows : List (List Value)} {L : List Loc} (o : OwnR el n h0 h a l c rows) (s : St h0' h L) {i : Nat} {x : Loc} (hi : L[i]? = some x) (he : x.t ≠ el) : ∀ k, a = some ⟨k, 0, none⟩ → k ≠ x.b := by
  intro k e hk
  subst hk
  rcases o.own with ⟨e2, _⟩ | ⟨b, cs, e2, h1, h2, _⟩
  · rw [e] at e2; cases e2
  · rw [e] at e2; cases e2
    have := (s.at_ i x hi).2
    rw [h2] at this
    injection this with this; injection this with _ this; exact he this.symm
end Go.Vc
namespace Go.Packs
open Go.Vc
def fewPack (p : PackV) : PackV := { p with refs := p.refs.take 20 }
def fewPacks (ps : List PackV) : List PackV := (ps.take 20).map fewPack
def fewM (m : MsgV) : MsgV := { m with packs := fewPacks m.packs }
def fewP (p : PartV) : PartV := { p with done := p.done.take 100 }
end Go.Packs
namespace Go.Proofs.Ytelddmkdclhpoaa
open Go.Vc Go.Sha Go.Trail Go.Packs
set_option linter.unusedVariables false

theorem zeroC24 : (zeroC Try.prog 24).size = 3 := by kernel_rfl
theorem zeroC27 : (zeroC Try.prog 27).size = 6 := by kernel_rfl
theorem size24 : Try.prog.cellsOf 24 = 3 := by kernel_rfl
theorem size27 : Try.prog.cellsOf 27 = 6 := by kernel_rfl
theorem TwinAt.keep {S : Nat → Prop} {h0 h h' : Heap} {e : Hdr} {ps : List PackV} {es : List Hdr} (t : TwinAt h0 h e ps es) (x : Keep S h h') (h1 : ∀ k, k < h0.size → ¬ S k) (h2 : ∀ k, e.a = some ⟨k, 0, none⟩ → ¬ S k) (h3 : ∀ (i : Nat) (d : Hdr), es[i]? = some d → ∀ k, d.a = some ⟨k, 0, none⟩ → ¬ S k) : TwinAt h0 h' e ps es :=
  ⟨t.len, t.rows.keep x h1 h2, fun i p d hp hd => (t.refs i p d hp hd).keep x h1 (h3 i d hd)⟩
theorem TwinAt.ref {h0 h : Heap} {e : Hdr} {ps : List PackV} {es : List Hdr} (t : TwinAt h0 h e ps es) {i : Nat} {d : Hdr} (hd : es[i]? = some d) : ∃ rows, OwnR 46 33 h0 h d.a d.l d.c rows := by
  have hlt := (List.getElem?_eq_some_iff.1 hd).1
  have : ps[i]? = some (ps[i]'(by rw [← t.len]; exact hlt)) := List.getElem?_eq_getElem _
  exact ⟨_, t.refs i _ d this hd⟩
theorem numRows_one (ns : List Int) : ∀ r ∈ nums ns, ∀ u ∈ r, one u = true := by
  intro r hr u hu
  obtain ⟨n, _, rfl⟩ := List.mem_map.1 hr
  simp at hu; subst hu; rfl

theorem few_ok (p : PartV) (d : Hdr) (m : MsgV) (e : Hdr) (es : List Hdr) (h : Heap) (hn : NumsAt h d.a d.l d.c p.done) (hp : PacksAt h e.a e.l e.c m.packs es) :
    HEnt Try.prog 9 #[.agg (partCells p d).toArray, .agg (msgCells m e).toArray] h fun v h' => ∃ d' e' es', v = .tuple #[.agg (partCells (fewP p) d').toArray, .agg (msgCells (fewM m) e').toArray] ∧ OwnR 3 1 h h' d'.a d'.l d'.c (nums (fewP p).done) ∧ TwinAt h h' e' (fewM m).packs es' ∧ Ext h h' := by
  refine F9_ent _ _ _ _ _ _ _ _ _ _ _ _ _ _ _ ?_
  have hlen := hn.len
  have hplen := hp.length
  unfold F9
  refine (St.start h).new fun b2 h1 s1 _ _ => s1.new fun b3 h2 s2 _ _ => s2.new fun b4 h3 s3 _ _ => s3.new fun b5 h4 s4 _ _ => ?_
  have k1 : ∀ (x : Hdr) (h' : Heap), St h h' [⟨b5, zeroC Try.prog 27, 27⟩, ⟨b4, zeroC Try.prog 24, 24⟩, ⟨b3, (msgCells m e).toArray, 27⟩, ⟨b2, (partCells p x).toArray, 24⟩] → NumsAt h x.a x.l x.c (p.done.take 100) → F9_k1 (at0 b2) (at0 b3) (at0 b4) (at0 b5) h' fun v h' => ∃ d' e' es', v = .tuple #[.agg (partCells (fewP p) d').toArray, .agg (msgCells (fewM m) e').toArray] ∧ OwnR 3 1 h h' d'.a d'.l d'.c (nums (fewP p).done) ∧ TwinAt h h' e' (fewM m).packs es' ∧ Ext h h' := by
    intro x h' s hx
    unfold F9_k1
    have hxl := hx.len
    have hxl2 : x.l ≤ 100 := by rw [← hxl, List.length_take]; omega
    refine ⟨by omega, newK_intro fun h5 n5 x5 _ => ?_⟩
    have s5 := s.grow x5
    refine ⟨x.a, x.l, x.c, s5.cell 3 rfl rfl, ?_⟩
    refine appK_R (rows := []) (new := nums (p.done.take 100)) size3 (OwnR.new_ n5 (s.ext.trans x5) s.ext.size (by simp) rfl) (NumsAt.grow hx s5.ext).src hx.1 hx.row (numRows_one _) (by rw [bytes3]; omega) z3 fun a20 c20 h6 o6 k6 i6 => ?_
    rw [Nat.zero_add] at o6 ⊢
    rw [List.nil_append] at o6
    have hlt5 : h'.size < h5.size := blk_lt n5
    have s6 : St h h6 _ := s5.keep k6 (fun k hk hs => by
      have := s.ext.size
      rcases hs with hs | hs
      · simp [at0] at hs; try omega
      · have := x5.size; omega) (fun i l hl hs => by
      have := s.lt hl
      rcases hs with hs | hs
      · simp [at0] at hs; try omega
      · omega)
    refine s6.store 3 rfl (k := 2) (Nat.le_of_ble_eq_true rfl) rfl fun h7 s7 on7 => ?_
    have o7 : OwnR 3 1 h h7 a20 x.l c20 (nums (p.done.take 100)) := o6.keep (S := (· = b2)) (on7.keep rfl) (fun k hk hs => by have := (s6.at_ 3 _ rfl).1; simp at this; omega) (o6.loc_ne s6 (i := 3) rfl (Nat.ne_of_beq_eq_false rfl))
    clear o6 k6 i6
    simp only [List.set_cons_zero, List.set_cons_succ] at s7
    have s7' : St h h7 [⟨b5, zeroC Try.prog 27, 27⟩, ⟨b4, zeroC Try.prog 24, 24⟩, ⟨b3, (msgCells m e).toArray, 27⟩, ⟨b2, (partCells p ⟨a20, x.l, c20⟩).toArray, 24⟩] := s7
    clear s7
    rintro _ rfl
    refine ⟨fun a l c i h' => ∃ (k : Nat) (fs : List Hdr), i = k ∧ k ≤ e.l ∧ k ≤ 20 ∧ St h h' [⟨b5, zeroC Try.prog 27, 27⟩, ⟨b4, zeroC Try.prog 24, 24⟩, ⟨b3, (msgCells m e).toArray, 27⟩, ⟨b2, (partCells p ⟨a20, x.l, c20⟩).toArray, 24⟩] ∧ OwnR 3 1 h h' a20 x.l c20 (nums (p.done.take 100)) ∧ TwinAt h h' ⟨a, l, c⟩ ((m.packs.take k).map fewPack) fs,
      fun a l c i h' => (20 - i).toNat, ⟨0, [], rfl, by omega, by omega, s7', o7, rfl, OwnR.nil _ _ s7'.ext, by simp⟩, ?_⟩
    rintro h8 a6 l6 c6 _ ⟨k, fs, rfl, hk, hk2, s8, o8, t8⟩
    have hl6 : l6 = k := by
      have := t8.rows.len
      rw [List.length_zipWith, t8.len, Nat.min_self, List.length_map, List.length_take, hplen] at this
      show l6 = k
      have h2 : min k e.l = (⟨a6, l6, c6⟩ : Hdr).l := this
      show (⟨a6, l6, c6⟩ : Hdr).l = k
      omega
    -- the end
    have fin : m.packs.take k = m.packs.take 20 → F9_k7 (at0 b2) (at0 b3) (at0 b4) (at0 b5) a6 l6 c6 h8 fun v h' => ∃ d' e' es', v = .tuple #[.agg (partCells (fewP p) d').toArray, .agg (msgCells (fewM m) e').toArray] ∧ OwnR 3 1 h h' d'.a d'.l d'.c (nums (fewP p).done) ∧ TwinAt h h' e' (fewM m).packs es' ∧ Ext h h' := by
      intro hk20
      rw [hk20] at t8
      unfold F9_k7
      refine s8.store 2 rfl (k := 5) (Nat.le_of_ble_eq_true rfl) rfl fun h9 s9 on9 => ?_
      simp only [List.set_cons_zero, List.set_cons_succ] at s9
      have s9' : St h h9 [⟨b5, zeroC Try.prog 27, 27⟩, ⟨b4, zeroC Try.prog 24, 24⟩, ⟨b3, (msgCells (fewM m) ⟨a6, l6, c6⟩).toArray, 27⟩, ⟨b2, (partCells p ⟨a20, x.l, c20⟩).toArray, 24⟩] := s9
      clear s9
      have lo3 := (s8.at_ 2 _ rfl).1
      have lo4 := (s8.at_ 1 _ rfl).1
      have lo5 := (s8.at_ 0 _ rfl).1
      simp only at lo3 lo4 lo5
      have o9 : OwnR 3 1 h h9 a20 x.l c20 (nums (p.done.take 100)) := o8.keep (S := (· = b3)) (on9.keep rfl) (fun k hk hs => by omega) (o8.loc_ne s8 (i := 2) rfl (Nat.ne_of_beq_eq_false rfl))
      have t9 : TwinAt h h9 ⟨a6, l6, c6⟩ ((m.packs.take 20).map fewPack) fs := t8.keep (S := (· = b3)) (on9.keep rfl) (fun k hk hs => by omega) (t8.rows.loc_ne s8 (i := 2) rfl (Nat.ne_of_beq_eq_false rfl)) (fun i d hd => by obtain ⟨_, o⟩ := t8.ref hd; exact o.loc_ne s8 (i := 2) rfl (Nat.ne_of_beq_eq_false rfl))
      have ne24 : b2 ≠ b4 := fun h => by have := s9'.apart 3 1 _ _ rfl rfl h; omega
      have ne25 : b2 ≠ b5 := fun h => by have := s9'.apart 3 0 _ _ rfl rfl h; omega
      have ne34 : b3 ≠ b4 := fun h => by have := s9'.apart 2 1 _ _ rfl rfl h; omega
      have ne35 : b3 ≠ b5 := fun h => by have := s9'.apart 2 0 _ _ rfl rfl h; omega
      refine ⟨Keep (fun k => k = b4 ∨ k = b5), fun h => Keep.refl _ h, fun _ _ _ x y => x.trans y, p.root, p.staged, a20, x.l, c20, fun w hw => ?_, m.kind, m.from_, m.to, m.txn, m.yes, a6, l6, c6, fun w hw => ?_, ?_⟩
      · exact run_loadAgg (hw.blk (s9'.at_ 3 _ rfl).2 (fun e => e.elim ne24 ne25)) Try.underlying24 rfl size24.symm
      · exact run_loadAgg (hw.blk (s9'.at_ 2 _ rfl).2 (fun e => e.elim ne34 ne35)) Try.underlying27 rfl size27.symm
      refine s9'.storeAll 1 rfl rfl zeroC24 (vs := (partCells p ⟨a20, x.l, c20⟩).toArray) (by simp [partCells, one]) fun h10 s10 on10 => ⟨on10.keep (.inl rfl), ?_⟩
      simp only [List.set_cons_zero, List.set_cons_succ] at s10
      refine s10.storeAll 0 rfl rfl zeroC27 (vs := (msgCells (fewM m) ⟨a6, l6, c6⟩).toArray) (by simp [msgCells, one]) fun h11 s11 on11 => ⟨on11.keep (.inr rfl), ?_⟩
      simp only [List.set_cons_zero] at s11
      refine ⟨p.root, p.staged, a20, x.l, c20, s11.cell 1 rfl rfl, s11.cell 1 rfl rfl, s11.cell 1 rfl rfl, rfl, m.kind, m.from_, m.to, m.txn, m.yes, a6, l6, c6, s11.cell 0 rfl rfl, s11.cell 0 rfl rfl, s11.cell 0 rfl rfl, s11.cell 0 rfl rfl, s11.cell 0 rfl rfl, s11.cell 0 rfl rfl, rfl, ⟨a20, x.l, c20⟩, ⟨a6, l6, c6⟩, fs, rfl, ?_, ?_, s11.ext⟩
      · have o10 : OwnR 3 1 h h10 a20 x.l c20 (nums (p.done.take 100)) := o9.keep (S := (· = b4)) (on10.keep rfl) (fun k hk hs => by omega) (o9.loc_ne s9' (i := 1) rfl (Nat.ne_of_beq_eq_false rfl))
        exact o10.keep (S := (· = b5)) (on11.keep rfl) (fun k hk hs => by omega) (o10.loc_ne s10 (i := 0) rfl (Nat.ne_of_beq_eq_false rfl))
      · have t10 : TwinAt h h10 ⟨a6, l6, c6⟩ ((m.packs.take 20).map fewPack) fs := t9.keep (S := (· = b4)) (on10.keep rfl) (fun k hk hs => by omega) (t9.rows.loc_ne s9' (i := 1) rfl (Nat.ne_of_beq_eq_false rfl)) (fun i d hd => by obtain ⟨_, o⟩ := t9.ref hd; exact o.loc_ne s9' (i := 1) rfl (Nat.ne_of_beq_eq_false rfl))
        exact t10.keep (S := (· = b5)) (on11.keep rfl) (fun k hk hs => by omega) (t10.rows.loc_ne s10 (i := 0) rfl (Nat.ne_of_beq_eq_false rfl)) (fun i d hd => by obtain ⟨_, o⟩ := t10.ref hd; exact o.loc_ne s10 (i := 0) rfl (Nat.ne_of_beq_eq_false rfl))
    have cp := s8.cell 2 rfl (k := 5) (v := .slice e.a e.l e.c) rfl
    unfold F9_b2
    refine ⟨e.a, e.l, e.c, cp, br_of (fun g => ?_) (fun g => ?_)⟩
    case refine_2 =>
      have g : ¬ (k : Int) < (e.l : Int) := by simpa using g
      unfold F9_k3
      exact br_of (fun h => by cases h) (fun _ => fin (by rw [List.take_of_length_le (by omega), List.take_of_length_le (by omega)]))
    have hk' : k < e.l := by
      have : (k : Int) < (e.l : Int) := by simpa using g
      omega
    unfold F9_k3
    refine br_of (fun g2 => ?_) (fun g2 => ?_)
    case refine_2 =>
      have g2 : ¬ (k : Int) < 20 := by simpa using g2
      exact fin (by rw [show k = 20 by omega])
    have hk2' : k < 20 := by
      have : (k : Int) < 20 := by simpa using g2
      omega
    have hp8 := hp.grow s8.ext
    obtain ⟨q, y, yd, hy, hyd, eq, yok, yr, c0, c1, c2, c3⟩ := hp8.get hk'
    unfold F9_k4
    refine ⟨e.a, e.l, e.c, cp, q, eq, by omega, by omega, y.owner, y.name, y.ver, yd.a, yd.l, yd.c, by rw [Int.toNat_natCast]; exact c0, by rw [Int.toNat_natCast]; exact c1, by rw [Int.toNat_natCast]; exact c2, by rw [Int.toNat_natCast]; exact c3, rfl, ?_⟩
    refine s8.new fun b8 h9 s9 x9 hb8 => ?_
    refine s9.storeAll 0 rfl rfl zeroC42 (vs := (y.cells yd).toArray) (by simpa using pack_one y yd) fun h10 s10 on10 => ?_
    simp only [List.set_cons_zero] at s10
    have lo8 := (s10.at_ 0 _ rfl).1
    simp only at lo8
    have yrl := yr.len
    -- what is kept when b8 is written
    have keepO : ∀ {h' h'' : Heap} {L : List Vc.Loc} {cs : Array Value}, St h h' (⟨b8, cs, 42⟩ :: L) → Only b8 h' h'' → OwnR 3 1 h h' a20 x.l c20 (nums (p.done.take 100)) → OwnR 3 1 h h'' a20 x.l c20 (nums (p.done.take 100)) := fun s on o =>
      o.keep (S := (· = b8)) (on.keep rfl) (fun k hk hs => by omega) (o.loc_ne s (i := 0) rfl (Nat.ne_of_beq_eq_false rfl))
    have keepT : ∀ {h' h'' : Heap} {L : List Vc.Loc} {cs : Array Value}, St h h' (⟨b8, cs, 42⟩ :: L) → Only b8 h' h'' → TwinAt h h' ⟨a6, l6, c6⟩ ((m.packs.take k).map fewPack) fs → TwinAt h h'' ⟨a6, l6, c6⟩ ((m.packs.take k).map fewPack) fs := fun s on t =>
      t.keep (S := (· = b8)) (on.keep rfl) (fun k hk hs => by omega) (fun k e hs => by have := (t8.rows.lt k e).2; omega) (fun i d hd => by obtain ⟨_, o⟩ := t.ref hd; exact o.loc_ne s (i := 0) rfl (Nat.ne_of_beq_eq_false rfl))
    have o10 := keepO s9 on10 (o8.grow x9)
    have t10 := keepT s9 on10 (t8.grow x9)
    have hadd : ((at0 b8).add 1).add 2 = (at0 b8).add 3 := rfl
    have k5 : ∀ (z : Hdr) (h' : Heap), z.l ≤ 20 → St h h' [⟨b8, (y.cells z).toArray, 42⟩, ⟨b5, zeroC Try.prog 27, 27⟩, ⟨b4, zeroC Try.prog 24, 24⟩, ⟨b3, (msgCells m e).toArray, 27⟩, ⟨b2, (partCells p ⟨a20, x.l, c20⟩).toArray, 24⟩] → OwnR 3 1 h h' a20 x.l c20 (nums (p.done.take 100)) → TwinAt h h' ⟨a6, l6, c6⟩ ((m.packs.take k).map fewPack) fs → RefsAt h' z.a z.l z.c (y.refs.take 20) →
        F9_k5 (fun a l c i h' => ∃ (k : Nat) (fs : List Hdr), i = k ∧ k ≤ e.l ∧ k ≤ 20 ∧ St h h' [⟨b5, zeroC Try.prog 27, 27⟩, ⟨b4, zeroC Try.prog 24, 24⟩, ⟨b3, (msgCells m e).toArray, 27⟩, ⟨b2, (partCells p ⟨a20, x.l, c20⟩).toArray, 24⟩] ∧ OwnR 3 1 h h' a20 x.l c20 (nums (p.done.take 100)) ∧ TwinAt h h' ⟨a, l, c⟩ ((m.packs.take k).map fewPack) fs)
          (fun a l c i h' => (20 - i).toNat) ((20 - (k : Int)).toNat) (at0 b2) (at0 b3) (at0 b4) (at0 b5) a6 l6 c6 (k : Int) (at0 b8) h' fun v h' => ∃ d' e' es', v = .tuple #[.agg (partCells (fewP p) d').toArray, .agg (msgCells (fewM m) e').toArray] ∧ OwnR 3 1 h h' d'.a d'.l d'.c (nums (fewP p).done) ∧ TwinAt h h' e' (fewM m).packs es' ∧ Ext h h' := by
      intro z h11 hz s11 o11 t11 r11
      unfold F9_k5
      refine ⟨by omega, newK_intro fun h12 n12 x12 _ => ?_⟩
      have s12 := s11.grow x12
      rw [hadd]
      refine ⟨z.a, z.l, z.c, s12.cell 0 rfl rfl, ?_⟩
      refine appK_R (rows := []) (new := (y.refs.take 20).map RefV.cells) size46 (OwnR.new_ n12 (s11.ext.trans x12) s11.ext.size (by simp) rfl) (r11.rows.grow x12).src r11.rows.len r11.rows.row (fun r hr => by obtain ⟨w, _, rfl⟩ := List.mem_map.1 hr; exact cells_one w) (by rw [bytes46]; omega) z46 fun a53 c53 h13 o13 k13 i13 => ?_
      rw [Nat.zero_add] at o13 ⊢
      rw [List.nil_append] at o13
      have hlt12 : h11.size < h12.size := blk_lt n12
      have S13 : ∀ k, k < h11.size → ¬ (some (at0 h11.size) = some ⟨k, 0, none⟩ ∨ h12.size ≤ k) := by
        intro k hk hs
        rcases hs with hs | hs
        · simp [at0] at hs; try omega
        · omega
      have s13 := s12.keep k13 (fun k hk => S13 k (Nat.lt_of_lt_of_le hk s11.ext.size)) (fun i l hl => S13 _ (s11.lt hl))
      have o13' : OwnR 3 1 h h13 a20 x.l c20 (nums (p.done.take 100)) := (o11.grow x12).keep k13 (fun k hk => S13 k (Nat.lt_of_lt_of_le hk s11.ext.size)) (fun k e => S13 k (o11.lt k e).2)
      have t13 : TwinAt h h13 ⟨a6, l6, c6⟩ ((m.packs.take k).map fewPack) fs := (t11.grow x12).keep k13 (fun k hk => S13 k (Nat.lt_of_lt_of_le hk s11.ext.size)) (fun k e => S13 k (t11.rows.lt k e).2) (fun i d hd k e => by obtain ⟨_, o⟩ := t11.ref hd; exact S13 k (o.lt k e).2)
      refine s13.store 0 rfl (k := 3) (Nat.le_of_ble_eq_true rfl) rfl fun h14 s14 on14 => ?_
      simp only [List.set_cons_zero] at s14
      have s14' : St h h14 [⟨b8, (y.cells ⟨a53, z.l, c53⟩).toArray, 42⟩, ⟨b5, zeroC Try.prog 27, 27⟩, ⟨b4, zeroC Try.prog 24, 24⟩, ⟨b3, (msgCells m e).toArray, 27⟩, ⟨b2, (partCells p ⟨a20, x.l, c20⟩).toArray, 24⟩] := s14
      clear s14
      have o14 := keepO s13 on14 o13'
      have t14 := keepT s13 on14 t13
      have r14 : OwnR 46 33 h h14 a53 z.l c53 ((y.refs.take 20).map RefV.cells) := o13.keep (S := (· = b8)) (on14.keep rfl) (fun k hk hs => by omega) (o13.loc_ne s13 (i := 0) rfl (Nat.ne_of_beq_eq_false rfl))
      refine ⟨y.owner, y.name, y.ver, a53, z.l, c53, s14'.cell 0 rfl rfl, s14'.cell 0 rfl rfl, s14'.cell 0 rfl rfl, s14'.cell 0 rfl rfl, rfl, rfl, by omega, newK_intro fun h15 n15 x15 _ => ?_⟩
      have o15 := o14.grow x15
      have t15 := t14.grow x15
      have r15 := r14.grow x15
      have s15 := s14'.grow x15
      have src1 : Tab 4 h15 (some (at0 h14.size)) 1 1 [y.cells ⟨a53, z.l, c53⟩] := (OwnR.new_ (h0 := h) (el := 42) (rows := [y.cells ⟨a53, z.l, c53⟩]) (by simpa [PackV.cells] using n15) s15.ext s14'.ext.size (by simp [PackV.cells]) rfl).rows
      refine appK_R (new := [y.cells ⟨a53, z.l, c53⟩]) size42 t15.rows src1.src rfl (by simp [PackV.cells]) (fun r hr => by simp at hr; subst hr; exact pack_one _ _) (by rw [bytes42, hl6]; omega) z42 fun a59 c59 h16 o16 k16 i16 => ?_
      unfold F9_k6
      rintro _ rfl
      have S16 : ∀ k, k < h.size → ¬ (a6 = some ⟨k, 0, none⟩ ∨ h15.size ≤ k) := by
        intro k hk hs
        rcases hs with hs | hs
        · have := (t15.rows.lt k hs).1; omega
        · have := s15.ext.size; omega
      have hne : ∀ {el n l c a rows}, el ≠ 42 → OwnR el n h h15 a l c rows → ∀ k, a = some ⟨k, 0, none⟩ → ¬ (a6 = some ⟨k, 0, none⟩ ∨ h15.size ≤ k) := by
        intro el n l c a rows he o k ek hs
        rcases hs with hs | hs
        · exact o.type_ne t15.rows he k k ek hs rfl
        · have := (o.lt k ek).2; omega
      rw [wrap_succ k 20 hk2' (by omega)]
      refine ⟨⟨k + 1, fs ++ [⟨a53, z.l, c53⟩], rfl, by omega, by omega, ?_, o15.keep k16 S16 (hne (by decide) o15), ?_⟩, by show (20 - ((k + 1 : Nat) : Int)).toNat < _; omega⟩
      · have s15' : St h h15 [⟨b5, zeroC Try.prog 27, 27⟩, ⟨b4, zeroC Try.prog 24, 24⟩, ⟨b3, (msgCells m e).toArray, 27⟩, ⟨b2, (partCells p ⟨a20, x.l, c20⟩).toArray, 24⟩] := ⟨s15.ext, fun i l hl => s15.at_ (i + 1) l hl, fun i j l m hi hj he => by have := s15.apart (i + 1) (j + 1) l m hi hj he; omega⟩
        refine s15'.keep k16 S16 fun i l hl hs => ?_
        rcases hs with hs | hs
        · have : l.t ≠ 42 := by
            match i, hl with
            | 0, hl => simp at hl; subst hl; exact Nat.ne_of_beq_eq_false rfl
            | 1, hl => simp at hl; subst hl; exact Nat.ne_of_beq_eq_false rfl
            | 2, hl => simp at hl; subst hl; exact Nat.ne_of_beq_eq_false rfl
            | 3, hl => simp at hl; subst hl; exact Nat.ne_of_beq_eq_false rfl
            | i + 4, hl => simp at hl
          exact t15.rows.loc_ne s15' hl this _ hs rfl
        · have := s15'.lt hl; omega
      · rw [takeR_succ hy, List.map_append]
        refine ⟨by simp [t15.len], ?_, fun i p' e' hp' he' => ?_⟩
        · rw [List.zipWith_append t15.len.symm]
          exact o16
        · by_cases hi : i < fs.length
          · rw [List.getElem?_append_left hi] at he'
            rw [List.getElem?_append_left (by rw [← t15.len]; exact hi)] at hp'
            have o := t15.refs i p' e' hp' he'
            exact o.keep k16 S16 (hne (by decide) o)
          · have : i = fs.length := by
              have := (List.getElem?_eq_some_iff.1 he').1
              simp at this; omega
            subst this
            rw [List.getElem?_append_right (Nat.le_refl _), Nat.sub_self] at he'
            rw [List.getElem?_append_right (by rw [t15.len]; exact Nat.le_refl _), t15.len, Nat.sub_self] at hp'
            obtain rfl := Option.some.inj he'
            obtain rfl := Option.some.inj hp'
            exact r15.keep k16 S16 (hne (by decide) r15)
    have c10 := s10.cell 0 rfl (k := 3) (v := .slice yd.a yd.l yd.c) rfl
    have yr10 : RefsAt h10 yd.a yd.l yd.c y.refs := (hp.refs k y yd hy hyd).grow s10.ext
    rw [hadd]
    refine ⟨yd.a, yd.l, yd.c, c10, br_of (fun g3 => ?_) (fun g3 => ?_)⟩
    · have g3 : 20 < yd.l := by
        have : (yd.l : Int) > 20 := by simpa using g3
        omega
      have hcap := yr.rows.cap
      refine ⟨yd.a, yd.l, yd.c, c10, by omega, by omega, by omega, ?_⟩
      rw [cutAt0, Nat.sub_zero, Nat.sub_zero]
      refine s10.store 0 rfl (k := 3) (Nat.le_of_ble_eq_true rfl) rfl fun h11 s11 on11 => ?_
      simp only [List.set_cons_zero] at s11
      exact k5 ⟨yd.a, 20, yd.c⟩ h11 (Nat.le_refl _) s11 (keepO s10 on11 o10) (keepT s10 on11 t10) ⟨by rw [List.map_take]; exact ((hp.refs k y yd hy hyd).grow s11.ext).rows.take 20 (by omega), fun r hr => yr.ok r (List.mem_of_mem_take hr)⟩
    · have g3 : yd.l ≤ 20 := by
        have : ¬ (yd.l : Int) > 20 := by simpa using g3
        omega
      exact k5 yd h10 g3 s10 o10 t10 (by rw [List.take_of_length_le (by omega)]; exact yr10)
  have c4 := s4.cell 3 rfl (k := 2) (v := .slice d.a d.l d.c) rfl
  refine ⟨d.a, d.l, d.c, c4, br_of (fun g => ?_) (fun g => ?_)⟩
  · have g : 100 < d.l := by
      have : (d.l : Int) > 100 := by simpa using g
      omega
    have hcap := Tab.cap hn
    refine ⟨d.a, d.l, d.c, c4, by omega, by omega, by omega, ?_⟩
    rw [cutAt0, Nat.sub_zero, Nat.sub_zero]
    refine s4.store 3 rfl (k := 2) (Nat.le_of_ble_eq_true rfl) rfl fun h5 s5 on5 => ?_
    simp only [List.set_cons_zero, List.set_cons_succ] at s5
    exact k1 ⟨d.a, 100, d.c⟩ h5 s5 (hn.take 100 (by omega))
  · have g : d.l ≤ 100 := by
      have : ¬ (d.l : Int) > 100 := by simpa using g
      omega
    exact k1 d h4 s4 (by rw [List.take_of_length_le (by omega)]; exact hn)
end Go.Proofs.Ytelddmkdclhpoaa
