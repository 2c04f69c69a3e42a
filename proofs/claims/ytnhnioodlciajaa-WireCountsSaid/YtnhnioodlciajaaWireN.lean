import Derived.Test.YtnhnioodlciajaaWireM
import Derived.Test.YtnhnioodlciajaaVwpC

namespace Go.Wire
open Go.Vc Go.Packs
def fewPack (p : PackV) : PackV := { p with refs := p.refs.take 20 }
def fewPacks (ps : List PackV) : List PackV := (ps.take 20).map fewPack
def fewM (m : MsgV) : MsgV := { m with packs := fewPacks m.packs }
end Go.Wire
namespace Go.Proofs.Ytnhnioodlciajaa
open Go.Vc Go.Sha Go.Trail Go.Packs Go.Wire
set_option linter.unusedVariables false

theorem few_ok (m : MsgV) (e : Hdr) (es : List Hdr) (h : Heap) (hp0 : PacksAt h e.a e.l e.c m.packs es) :
    HEnt Try.prog 10 #[.agg (msgCells m e).toArray] h fun v h' => ∃ e' es', v = .agg (msgCells (fewM m) e').toArray ∧ TwinAt h h' e' (fewM m).packs es' ∧ Ext h h' := by
  refine F10_ent _ _ _ _ _ _ _ _ _ _ ?_
  have hplen := hp0.length
  unfold F10
  refine (St.start h).new fun b1 h1 s1 _ _ => s1.new fun b2 h2 s2 _ _ => ?_
  have k1 : ∀ (x : Hdr) (ys : List Hdr) (h' : Heap), x.l ≤ 20 → St h h' [⟨b2, zeroC Try.prog 24, 24⟩, ⟨b1, (msgCells m x).toArray, 24⟩] → PacksAt h x.a x.l x.c (m.packs.take 20) ys → F10_k1 (at0 b1) (at0 b2) h' fun v h' => ∃ e' es', v = .agg (msgCells (fewM m) e').toArray ∧ TwinAt h h' e' (fewM m).packs es' ∧ Ext h h' := by
    intro x ys h' hx20 s hp
    have hlen := hp.length
    rw [List.length_take] at hlen
    unfold F10_k1
    refine ⟨x.a, x.l, x.c, s.cell 1 rfl rfl, fun a l c i h' => ∃ (k : Nat) (fs : List Hdr), i = k ∧ k ≤ x.l ∧ St h h' [⟨b2, zeroC Try.prog 24, 24⟩, ⟨b1, (msgCells m x).toArray, 24⟩] ∧ TwinAt h h' ⟨a, l, c⟩ ((m.packs.take k).map fewPack) fs,
      fun a l c i h' => ((x.l : Int) - i).toNat, ⟨0, [], rfl, by omega, s, rfl, OwnR.nil _ _ s.ext, by simp⟩, ?_⟩
    rintro h8 a6 l6 c6 _ ⟨k, fs, rfl, hk, s8, t8⟩
    have hl6 : l6 = k := by
      have := t8.rows.len
      rw [List.length_zipWith, t8.len, Nat.min_self, List.length_map, List.length_take] at this
      have h2 : min k m.packs.length = (⟨a6, l6, c6⟩ : Hdr).l := this
      show (⟨a6, l6, c6⟩ : Hdr).l = k
      omega
    have lo1 := (s8.at_ 1 _ rfl).1
    have lo2 := (s8.at_ 0 _ rfl).1
    simp only at lo1 lo2
    unfold F10_b2
    refine br_of (fun g => ?_) (fun g => ?_)
    case refine_2 =>
      have hk' : k = x.l := by
        have : ¬ (k : Int) < (x.l : Int) := by simpa using g
        omega
      have hk20 : m.packs.take k = m.packs.take 20 := by
        by_cases hc : m.packs.length ≤ 20
        · rw [List.take_of_length_le (by omega), List.take_of_length_le hc]
        · rw [show k = 20 by omega]
      rw [hk20] at t8
      unfold F10_k6
      refine s8.store 1 rfl (k := 5) (Nat.le_of_ble_eq_true rfl) rfl fun h9 s9 on9 => ?_
      simp only [List.set_cons_zero, List.set_cons_succ] at s9
      have s9' : St h h9 [⟨b2, zeroC Try.prog 24, 24⟩, ⟨b1, (msgCells (fewM m) ⟨a6, l6, c6⟩).toArray, 24⟩] := s9
      clear s9
      have t9 : TwinAt h h9 ⟨a6, l6, c6⟩ ((m.packs.take 20).map fewPack) fs := t8.keep (S := (· = b1)) (on9.keep rfl) (fun k hk hs => by omega) (t8.rows.loc_ne s8 (i := 1) rfl (Nat.ne_of_beq_eq_false rfl)) (fun i d hd => by obtain ⟨_, o⟩ := t8.ref hd; exact o.loc_ne s8 (i := 1) rfl (Nat.ne_of_beq_eq_false rfl))
      refine ⟨m.kind, m.from_, m.to, m.txn, m.yes, a6, l6, c6, s9'.cell 1 rfl rfl, s9'.cell 1 rfl rfl, s9'.cell 1 rfl rfl, s9'.cell 1 rfl rfl, s9'.cell 1 rfl rfl, s9'.cell 1 rfl rfl, rfl, ?_⟩
      refine s9'.storeAll 0 rfl rfl zeroC24 (vs := (msgCells (fewM m) ⟨a6, l6, c6⟩).toArray) (by simp [msgCells, one]) fun h10 s10 on10 => ?_
      simp only [List.set_cons_zero] at s10
      exact ⟨m.kind, m.from_, m.to, m.txn, m.yes, a6, l6, c6, s10.cell 0 rfl rfl, s10.cell 0 rfl rfl, s10.cell 0 rfl rfl, s10.cell 0 rfl rfl, s10.cell 0 rfl rfl, s10.cell 0 rfl rfl, rfl, ⟨a6, l6, c6⟩, fs, rfl, t9.keep (S := (· = b2)) (on10.keep rfl) (fun k hk hs => by omega) (t9.rows.loc_ne s9' (i := 0) rfl (Nat.ne_of_beq_eq_false rfl)) (fun i d hd => by obtain ⟨_, o⟩ := t9.ref hd; exact o.loc_ne s9' (i := 0) rfl (Nat.ne_of_beq_eq_false rfl)), s10.ext⟩
    have hk' : k < x.l := by
      have : (k : Int) < (x.l : Int) := by simpa using g
      omega
    have cp := s8.cell 1 rfl (k := 5) (v := .slice x.a x.l x.c) rfl
    have hp8 := hp.grow s8.ext
    obtain ⟨q, y, yd, hy, hyd, eq, yok, yr, c0, c1, c2, c3⟩ := hp8.get hk'
    have hy0 : m.packs[k]? = some y := by
      rw [List.getElem?_take] at hy
      split at hy
      · exact hy
      · cases hy
    unfold F10_k3
    refine ⟨x.a, x.l, x.c, cp, q, eq, by omega, by omega, y.owner, y.name, y.ver, yd.a, yd.l, yd.c, by rw [Int.toNat_natCast]; exact c0, by rw [Int.toNat_natCast]; exact c1, by rw [Int.toNat_natCast]; exact c2, by rw [Int.toNat_natCast]; exact c3, rfl, ?_⟩
    refine s8.new fun b8 h9 s9 x9 hb8 => ?_
    refine s9.storeAll 0 rfl rfl zeroC68 (vs := (y.cells yd).toArray) (by simpa using pack_one y yd) fun h10 s10 on10 => ?_
    simp only [List.set_cons_zero] at s10
    have lo8 := (s10.at_ 0 _ rfl).1
    simp only at lo8
    have yrl := yr.len
    have keepT : ∀ {h' h'' : Heap} {L : List Vc.Loc} {cs : Array Value}, St h h' (⟨b8, cs, 68⟩ :: L) → Only b8 h' h'' → TwinAt h h' ⟨a6, l6, c6⟩ ((m.packs.take k).map fewPack) fs → TwinAt h h'' ⟨a6, l6, c6⟩ ((m.packs.take k).map fewPack) fs := fun s on t =>
      t.keep (S := (· = b8)) (on.keep rfl) (fun k hk hs => by omega) (fun k e hs => by have := (t8.rows.lt k e).2; omega) (fun i d hd => by obtain ⟨_, o⟩ := t.ref hd; exact o.loc_ne s (i := 0) rfl (Nat.ne_of_beq_eq_false rfl))
    have t10 := keepT s9 on10 (t8.grow x9)
    have hadd : ((at0 b8).add 1).add 2 = (at0 b8).add 3 := rfl
    have k5 : ∀ (z : Hdr) (h' : Heap), z.l ≤ 20 → St h h' [⟨b8, (y.cells z).toArray, 68⟩, ⟨b2, zeroC Try.prog 24, 24⟩, ⟨b1, (msgCells m x).toArray, 24⟩] → TwinAt h h' ⟨a6, l6, c6⟩ ((m.packs.take k).map fewPack) fs → RefsAt h' z.a z.l z.c (y.refs.take 20) →
        F10_k4 (fun a l c i h' => ∃ (k : Nat) (fs : List Hdr), i = k ∧ k ≤ x.l ∧ St h h' [⟨b2, zeroC Try.prog 24, 24⟩, ⟨b1, (msgCells m x).toArray, 24⟩] ∧ TwinAt h h' ⟨a, l, c⟩ ((m.packs.take k).map fewPack) fs)
          (fun a l c i h' => ((x.l : Int) - i).toNat) (((x.l : Int) - (k : Int)).toNat) (at0 b1) (at0 b2) a6 l6 c6 (at0 b8) (x.l : Int) (k : Int) h' fun v h' => ∃ e' es', v = .agg (msgCells (fewM m) e').toArray ∧ TwinAt h h' e' (fewM m).packs es' ∧ Ext h h' := by
      intro z h11 hz s11 t11 r11
      unfold F10_k4
      refine ⟨by omega, newK_intro fun h12 n12 x12 _ => ?_⟩
      have s12 := s11.grow x12
      rw [hadd]
      refine ⟨z.a, z.l, z.c, s12.cell 0 rfl rfl, ?_⟩
      refine appK_R (rows := []) (new := (y.refs.take 20).map RefV.cells) size86 (OwnR.new_ n12 (s11.ext.trans x12) s11.ext.size (by simp) rfl) (r11.rows.grow x12).src r11.rows.len r11.rows.row (fun r hr => by obtain ⟨w, _, rfl⟩ := List.mem_map.1 hr; exact cells_one w) (by rw [bytes86]; omega) z86 fun a53 c53 h13 o13 k13 i13 => ?_
      rw [Nat.zero_add] at o13 ⊢
      rw [List.nil_append] at o13
      have hlt12 : h11.size < h12.size := blk_lt n12
      have S13 : ∀ k, k < h11.size → ¬ (some (at0 h11.size) = some ⟨k, 0, none⟩ ∨ h12.size ≤ k) := by
        intro k hk hs
        rcases hs with hs | hs
        · simp [at0] at hs; try omega
        · omega
      have s13 := s12.keep k13 (fun k hk => S13 k (Nat.lt_of_lt_of_le hk s11.ext.size)) (fun i l hl => S13 _ (s11.lt hl))
      have t13 : TwinAt h h13 ⟨a6, l6, c6⟩ ((m.packs.take k).map fewPack) fs := (t11.grow x12).keep k13 (fun k hk => S13 k (Nat.lt_of_lt_of_le hk s11.ext.size)) (fun k e => S13 k (t11.rows.lt k e).2) (fun i d hd k e => by obtain ⟨_, o⟩ := t11.ref hd; exact S13 k (o.lt k e).2)
      refine s13.store 0 rfl (k := 3) (Nat.le_of_ble_eq_true rfl) rfl fun h14 s14 on14 => ?_
      simp only [List.set_cons_zero] at s14
      have s14' : St h h14 [⟨b8, (y.cells ⟨a53, z.l, c53⟩).toArray, 68⟩, ⟨b2, zeroC Try.prog 24, 24⟩, ⟨b1, (msgCells m x).toArray, 24⟩] := s14
      clear s14
      have t14 := keepT s13 on14 t13
      have r14 : OwnR 86 33 h h14 a53 z.l c53 ((y.refs.take 20).map RefV.cells) := o13.keep (S := (· = b8)) (on14.keep rfl) (fun k hk hs => by omega) (o13.loc_ne s13 (i := 0) rfl (Nat.ne_of_beq_eq_false rfl))
      refine ⟨y.owner, y.name, y.ver, a53, z.l, c53, s14'.cell 0 rfl rfl, s14'.cell 0 rfl rfl, s14'.cell 0 rfl rfl, s14'.cell 0 rfl rfl, rfl, rfl, by omega, newK_intro fun h15 n15 x15 _ => ?_⟩
      have t15 := t14.grow x15
      have r15 := r14.grow x15
      have s15 := s14'.grow x15
      have src1 : Tab 4 h15 (some (at0 h14.size)) 1 1 [y.cells ⟨a53, z.l, c53⟩] := (OwnR.new_ (h0 := h) (el := 68) (rows := [y.cells ⟨a53, z.l, c53⟩]) (by simpa [PackV.cells] using n15) s15.ext s14'.ext.size (by simp [PackV.cells]) rfl).rows
      refine appK_R (new := [y.cells ⟨a53, z.l, c53⟩]) size68 t15.rows src1.src rfl (by simp [PackV.cells]) (fun r hr => by simp at hr; subst hr; exact pack_one _ _) (by rw [bytes68, hl6]; omega) z68 fun a59 c59 h16 o16 k16 i16 => ?_
      unfold F10_k5
      have S16 : ∀ k, k < h.size → ¬ (a6 = some ⟨k, 0, none⟩ ∨ h15.size ≤ k) := by
        intro k hk hs
        rcases hs with hs | hs
        · have := (t15.rows.lt k hs).1; omega
        · have := s15.ext.size; omega
      have hne : ∀ {el n l c a rows}, el ≠ 68 → OwnR el n h h15 a l c rows → ∀ k, a = some ⟨k, 0, none⟩ → ¬ (a6 = some ⟨k, 0, none⟩ ∨ h15.size ≤ k) := by
        intro el n l c a rows he o k ek hs
        rcases hs with hs | hs
        · exact o.type_ne t15.rows he k k ek hs rfl
        · have := (o.lt k ek).2; omega
      rw [wrap_succ k _ hk' (by omega)]
      refine ⟨⟨k + 1, fs ++ [⟨a53, z.l, c53⟩], rfl, by omega, ?_, ?_⟩, less_succ _ _ hk'⟩
      · exact s15.tail.app t15.rows (fun i l hl => by
          match i, hl with
          | 0, hl => simp at hl; subst hl; exact Nat.ne_of_beq_eq_false rfl
          | 1, hl => simp at hl; subst hl; exact Nat.ne_of_beq_eq_false rfl
          | i + 2, hl => simp at hl) k16
      · rw [takeR_succ hy0, List.map_append]
        refine ⟨by simp [t15.len], ?_, fun i p' e' hp' he' => ?_⟩
        · rw [List.zipWith_append t15.len.symm]
          exact o16
        · by_cases hi : i < fs.length
          · rw [List.getElem?_append_left hi] at he'
            rw [List.getElem?_append_left (by rw [← t15.len]; exact hi)] at hp'
            have o := t15.refs i p' e' hp' he'
            exact o.keep k16 S16 (hne (by decide) o)
          · have : i = fs.length := by
              have := (List.getElem?_eq_some_iff.1 he').1
              simp at this; omega
            subst this
            rw [List.getElem?_append_right (Nat.le_refl _), Nat.sub_self] at he'
            rw [List.getElem?_append_right (by rw [t15.len]; exact Nat.le_refl _), t15.len, Nat.sub_self] at hp'
            obtain rfl := Option.some.inj he'
            obtain rfl := Option.some.inj hp'
            exact r15.keep k16 S16 (hne (by decide) r15)
    have c10 := s10.cell 0 rfl (k := 3) (v := .slice yd.a yd.l yd.c) rfl
    have yr10 : RefsAt h10 yd.a yd.l yd.c y.refs := (hp.refs k y yd hy hyd).grow s10.ext
    rw [hadd]
    refine ⟨yd.a, yd.l, yd.c, c10, br_of (fun g3 => ?_) (fun g3 => ?_)⟩
    · have g3 : 20 < yd.l := by
        have : (yd.l : Int) > 20 := by simpa using g3
        omega
      have hcap := yr.rows.cap
      refine ⟨yd.a, yd.l, yd.c, c10, by omega, by omega, by omega, ?_⟩
      rw [cutAt0, Nat.sub_zero, Nat.sub_zero]
      refine s10.store 0 rfl (k := 3) (Nat.le_of_ble_eq_true rfl) rfl fun h11 s11 on11 => ?_
      simp only [List.set_cons_zero] at s11
      exact k5 ⟨yd.a, 20, yd.c⟩ h11 (Nat.le_refl _) s11 (keepT s10 on11 t10) ⟨by rw [List.map_take]; exact ((hp.refs k y yd hy hyd).grow s11.ext).rows.take 20 (by omega), fun r hr => yr.ok r (List.mem_of_mem_take hr)⟩
    · have g3 : yd.l ≤ 20 := by
        have : ¬ (yd.l : Int) > 20 := by simpa using g3
        omega
      exact k5 yd h10 g3 s10 t10 (by rw [List.take_of_length_le (by omega)]; exact yr10)
  have c2 := s2.cell 1 rfl (k := 5) (v := .slice e.a e.l e.c) rfl
  refine ⟨e.a, e.l, e.c, c2, br_of (fun g => ?_) (fun g => ?_)⟩
  · have g : 20 < e.l := by
      have : (e.l : Int) > 20 := by simpa using g
      omega
    have hcap := hp0.rows.cap
    refine ⟨e.a, e.l, e.c, c2, by omega, by omega, by omega, ?_⟩
    rw [cutAt0, Nat.sub_zero, Nat.sub_zero]
    refine s2.store 1 rfl (k := 5) (Nat.le_of_ble_eq_true rfl) rfl fun h5 s5 on5 => ?_
    simp only [List.set_cons_zero, List.set_cons_succ] at s5
    exact k1 ⟨e.a, 20, e.c⟩ (es.take 20) h5 (Nat.le_refl _) s5 (hp0.take 20 (by omega))
  · have g : e.l ≤ 20 := by
      have : ¬ (e.l : Int) > 20 := by simpa using g
      omega
    exact k1 e es h2 g s2 (by rw [List.take_of_length_le (by omega)]; exact hp0)

theorem few_len {h0 h : Heap} {e : Hdr} {m : MsgV} {es : List Hdr} (t : TwinAt h0 h e (fewM m).packs es) : e.l ≤ 20 ∧ ∀ x ∈ es, x.l ≤ 20 := by
  constructor
  · have := t.rows.len
    rw [List.length_zipWith, t.len, Nat.min_self] at this
    rw [← this]
    simp [fewM, fewPacks]; omega
  · intro x hx
    obtain ⟨i, hi⟩ := List.getElem?_of_mem hx
    have hlt := (List.getElem?_eq_some_iff.1 hi).1
    have hp : (fewM m).packs[i]? = some ((fewM m).packs[i]'(by rw [← t.len]; exact hlt)) := List.getElem?_eq_getElem _
    have := (t.refs i _ x hp hi).len
    rw [List.length_map] at this
    rw [← this]
    have hm := List.mem_of_getElem? hp
    obtain ⟨q, _, hq⟩ := List.mem_map.1 hm
    rw [← hq]
    simp [fewPack]; omega
theorem few_oks {ps : List PackV} (h : ∀ p ∈ ps, p.ok ∧ ∀ r ∈ p.refs, r.ok) : ∀ p ∈ fewPacks ps, p.ok ∧ ∀ r ∈ p.refs, r.ok := by
  intro p hp
  obtain ⟨q, hq, rfl⟩ := List.mem_map.1 hp
  have := h q (List.mem_of_mem_take hq)
  exact ⟨this.1, fun r hr => this.2 r (List.mem_of_mem_take hr)⟩

theorem checks_ok (m : MsgV) (e : Hdr) (es : List Hdr) (h : Heap) (hp : PacksAt h e.a e.l e.c m.packs es) :
    HEnt Try.prog 4 #[.agg (msgCells m e).toArray] h fun v h' => v = .bool true ∧ Ext h h' := by
  refine F4_ent _ _ _ _ _ _ _ _ _ _ ?_
  unfold F4
  refine (St.start h).new fun b1 h1 s1 _ _ => ?_
  refine ⟨m.kind, m.from_, m.to, m.txn, m.yes, e.a, e.l, e.c, s1.cell 0 rfl rfl, s1.cell 0 rfl rfl, s1.cell 0 rfl rfl, s1.cell 0 rfl rfl, s1.cell 0 rfl rfl, s1.cell 0 rfl rfl, rfl, HEnt.use (few_ok m e es h1 (hp.grow s1.ext)) ?_⟩
  rintro _ h2 ⟨e', es', rfl, t2, x2⟩
  refine ⟨m.kind, m.from_, m.to, m.txn, m.yes, e'.a, e'.l, e'.c, rfl, ?_⟩
  have s2 := s1.grow x2
  have lt1 := s1.lt (i := 0) rfl
  have lo1 := (s2.at_ 0 _ rfl).1
  simp only at lt1 lo1
  refine s2.storeAll 0 rfl rfl rfl (vs := (msgCells (fewM m) e').toArray) (by simp [msgCells, one]) fun h3 s3 on3 => ?_
  simp only [List.set_cons_zero] at s3
  have t3 : TwinAt h h3 e' (fewM m).packs es' := (TwinAt.since t2 s1.ext).keep (S := (· = b1)) (on3.keep rfl) (fun k hk hs => by omega) (fun k ek hs => by have := (t2.rows.lt k ek).1; omega) (fun i x hx k ek hs => by obtain ⟨_, o⟩ := t2.ref hx; have := (o.lt k ek).1; omega)
  have p3 := t3.packs (few_oks (PacksAt.oks hp))
  have ll := few_len t3
  have r24 := s3.quietAgg (P := Try.prog) 0 rfl Try.underlying24 rfl (by show 6 = Try.prog.cellsOf 24; rw [size24])
  refine ⟨Ext, Ext.refl, fun _ _ _ x y => x.trans y, m.kind, m.from_, m.to, m.txn, m.yes, e'.a, e'.l, e'.c, r24, m.kind, m.from_, m.to, m.txn, m.yes, e'.a, e'.l, e'.c, r24, HEnt.use (check_ok (fewM m) e' es' h3 p3 (by omega)) ?_⟩
  rintro _ h4 ⟨rfl, x4⟩
  refine ⟨_, rfl, x4, HEnt.use (refCheck_ok (fewM m) e' es' h4 (p3.grow x4) (by omega)) ?_⟩
  rintro _ h5 ⟨rfl, x5⟩
  refine ⟨_, rfl, x5, br_of (fun _ => HEnt.use (works_ok h5) ?_) (fun g => by simp at g)⟩
  rintro _ h6 ⟨rfl, x6⟩
  exact ⟨true, rfl, trivial, rfl, ((s3.ext.trans x4).trans x5).trans x6⟩
end Go.Proofs.Ytnhnioodlciajaa
