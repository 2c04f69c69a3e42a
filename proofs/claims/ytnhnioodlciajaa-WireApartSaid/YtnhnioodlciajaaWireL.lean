/- Chapter 14: Deliver, Take, Clear. -/
import Derived.Test.YtnhnioodlciajaaWireK
namespace Go.Wire
open Go.Vc Go.Packs
def deliverN (M : NetM) (f t at_ : Int) : Int × NetM := if thereN M f t at_ ≠ 0 then (9, M) else if 64 ≤ (M (.box t)).length then (7, M) else match (M (.link f t))[at_.toNat]? with
  | some m => (0, outN (updM M (.box t) (M (.box t) ++ [m])) f t at_.toNat)
  | none => (9, M)
def takeM (M : NetM) (n : Int) : NetM := updM M (.box n) (M (.box n)).tail
def nilH : Hdr := ⟨none, 0, 0⟩
def zeroM : MsgV := ⟨0, 0, 0, 0, false, []⟩
theorem NetIn.grow {F : Nat → Prop} {h h' : Heap} {q b1 b2 : Nat} {kl : List ((Int × Int) × Value)} {kb : List (Int × Value)} {M : NetM} (N : NetIn F h q b1 b2 kl kb M) (x : Ext h h') : NetIn F h' q b1 b2 kl kb M :=
  N.keep (x.keep (fun _ => False)) (fun _ _ h => h) (fun _ h => h) (fun k hk => Nat.lt_of_lt_of_le (N.bound k hk) x.size)
theorem cut_block {c n : Nat} {a : Option Addr} {ad : Addr} (e : cutAt c 1 n a = some ad) : ∃ ad0, a = some ad0 ∧ ad0.block = ad.block := by
  unfold cutAt at e
  split at e
  · exact ⟨ad, e, rfl⟩
  · cases a with
    | none => cases e
    | some b =>
      simp only [Option.map_some, Option.some.injEq] at e
      refine ⟨b, rfl, ?_⟩
      rw [← e]; unfold Addr.add; split <;> rfl
end Go.Wire
namespace Go.Proofs.Ytnhnioodlciajaa
open Go.Vc Go.Sha Go.Trail Go.Packs Go.Wire
set_option linter.unusedVariables false

theorem Keep.thenFx {F : Nat → Prop} {h h1 h2 : Heap} (k1 : Keep F h h1) (k2 : Keep (Fx F h h1) h1 h2) : Keep F h h2 :=
  ⟨Nat.le_trans k1.size k2.size, fun k hk hf => (k2.block k (Nat.lt_of_lt_of_le hk k1.size) (fun hs => hs.elim hf (fun hs => by omega))).trans (k1.block k hk hf)⟩
theorem Fx_fx {F : Nat → Prop} {h h1 h2 : Heap} (x : h.size ≤ h1.size) (y : h1.size ≤ h2.size) : ∀ k, Fx (Fx F h h1) h1 h2 k → Fx F h h2 k := fun k hk => by
  rcases hk with (hk | hk) | hk
  · exact .inl hk
  · exact .inr ⟨hk.1, by omega⟩
  · exact .inr ⟨by omega, hk.2⟩
theorem deliver_ok {F : Nat → Prop} {h : Heap} {q : Nat} {M : NetM} (N : NetAt F h q M) (f t at_ : Int) :
    HEnt Try.prog 16 #[.pointer (some (at0 q)), .int .i64 f, .int .i64 t, .int .i64 at_] h fun v h' => v = .int .i64 (deliverN M f t at_).1 ∧ NetAt (Fx F h h') h' q (deliverN M f t at_).2 ∧ Keep F h h' := by
  refine F16_ent _ _ _ _ _ _ ?_
  unfold F16
  refine (St.start h).new fun b9 h1 s1 _ _ => s1.storeAll 0 rfl rfl zeroC71 (vs := #[.int .i64 f, .int .i64 t]) (by simp [one]) fun h2 s2 on2 => ?_
  simp only [List.set_cons_zero] at s2
  refine ⟨f, t, s2.cell 0 rfl rfl, s2.cell 0 rfl rfl, rfl, HEnt.use (there_ok (N.grow s2.ext) f t at_) ?_⟩
  rintro _ h3 ⟨rfl, x3⟩
  have s3 := s2.grow x3
  have x03 := s3.ext
  refine ⟨_, rfl, br_of (fun g => ?_) (fun g => ?_)⟩
  · have g : thereN M f t at_ ≠ 0 := by simpa using g
    unfold deliverN
    rw [if_pos g]
    exact ⟨by rw [(thereN_val M f t at_).resolve_left g], N.growx x03, x03.keep _⟩
  have g : thereN M f t at_ = 0 := by simpa using g
  obtain ⟨h0, m, hm⟩ := thereN_ok g
  unfold deliverN
  rw [if_neg (fun e => e g), hm]
  have N3 := N.grow x03
  have hbn := N3.bound
  obtain ⟨b1, b2, kl, kb, NI⟩ := N3
  obtain ⟨a0, l0, c0, e0, sl⟩ := NI.slot (.link f t)
  have e0' : (lookA kl (f, t)).getD nilS = .slice a0 l0 c0 := e0
  obtain ⟨ab, lb, cb, eb, sb⟩ := NI.slot (.box t)
  have eb' : (lookA kb t).getD nilS = .slice ab lb cb := eb
  have hlb := sb.len
  obtain ⟨ds, os, hds, hms⟩ := sl.ex
  obtain ⟨db, ob, hdb, hmb⟩ := sb.ex
  have hd : ds[at_.toNat]? = some (ds[at_.toNat]'(by rw [hds]; exact (List.getElem?_eq_some_iff.1 hm).1)) := List.getElem?_eq_getElem _
  generalize ds[at_.toNat]'(by rw [hds]; exact (List.getElem?_eq_some_iff.1 hm).1) = d at hd
  obtain ⟨es, tm⟩ := hms _ m d hm hd
  obtain ⟨qa, ea, hlt, hcs, _⟩ := row_load os.rows (i := at_.toNat) (m := m) (d := d) (by rw [List.getElem?_zipWith, hm, hd])
  unfold F16_k1
  refine ⟨at0 q, rfl, some b2, (cell_net NI.net).2, semK_lookup keyed3 Try.underlying60 zero29 NI.m2 (a := t) trivial ?_⟩
  refine ⟨ab, lb, cb, eb', br_of (fun g2 => ?_) (fun g2 => ?_)⟩
  · have g2 : 64 ≤ (M (.box t)).length := by
      have : (lb : Int) ≥ 64 := by simpa using g2
      omega
    rw [if_pos g2]
    exact ⟨rfl, N.growx x03, x03.keep _⟩
  have g2 : ¬ 64 ≤ (M (.box t)).length := by
    have : ¬ (lb : Int) ≥ 64 := by simpa using g2
    omega
  rw [if_neg g2]
  unfold F16_k2
  have ge9 := (s3.at_ 0 _ rfl).1
  have g9 := (s3.at_ 0 _ rfl).2
  simp only at ge9 g9
  have hq := hbn q NI.fq
  have hb1 := hbn b1 NI.f1
  have hb2 := hbn b2 NI.f2
  have b2q : b2 ≠ q := fun e => by
    obtain ⟨⟨_, _, h1, _⟩, _⟩ := NI.m2
    rw [e, NI.net] at h1; cases h1
  -- what is read stays: all but the box's array and what is new
  have rd : ∀ k, k < h3.size → (∀ ad, ab = some ad → ad.block ≠ k) → ¬ ((∃ ad, ab = some ad ∧ ad.block = k) ∨ h3.size ≤ k) := fun k hk hn hs => hs.elim (fun ⟨ad, e, e2⟩ => hn ad e e2) (fun hs => by omega)
  have nab : ∀ {k : Nat} {cs : Array Value} {ty : TypeId}, h3[k]? = some (.cells cs ty (0, 0)) → ty ≠ 24 → ∀ ad, ab = some ad → ad.block ≠ k := fun hk ht ad ea hs => by
    obtain ⟨cs', g, _⟩ := ob.type_ ea
    rw [hs, hk] at g
    injection g with g; injection g with _ g; exact ht g
  have nmap : ∀ {k : Nat} {es : Array MapEntry} {cl : Nat}, h3[k]? = some (.map es cl) → ∀ ad, ab = some ad → ad.block ≠ k := fun hk ad ea hs => by
    obtain ⟨cs', g, _⟩ := ob.type_ ea
    rw [hs, hk] at g; cases g
  have nlink : ∀ ad, ab = some ad → ad.block ≠ qa.block := fun ad e hs => by
    subst e; subst ea
    exact NI.apart (.box t) (.link f t) _ _ _ _ _ _ (fun e => by cases e) eb e0 hs
  have m1' := NI.m1
  obtain ⟨⟨es1, cl1, hm1, _⟩, _⟩ := NI.m1
  obtain ⟨⟨es2, cl2, hm2, _⟩, _⟩ := NI.m2
  have lqa : qa.block < h3.size := by
    obtain ⟨cs', g, _⟩ := os.type_ ea
    exact blk_lt g
  refine ⟨Keep (fun k => (∃ ad, ab = some ad ∧ ad.block = k) ∨ h3.size ≤ k), fun h => Keep.refl _ h, fun _ _ _ x y => x.trans y, at0 q, rfl, some b2, fun w hw => run_loadCell (cell_net (hw.blk NI.net (rd q hq (nab NI.net (by decide))))).2 Try.underlying60 rfl, at0 q, rfl, some b2, fun w hw => run_loadCell (cell_net (hw.blk NI.net (rd q hq (nab NI.net (by decide))))).2 Try.underlying60 rfl, ab, lb, cb, fun w hw => ?_, at0 q, rfl, some b1, fun w hw => run_loadCell (cell_net (hw.blk NI.net (rd q hq (nab NI.net (by decide))))).1 Try.underlying59 rfl, f, t, fun w hw => run_loadAgg (hw.blk g9 (rd b9 (blk_lt g9) (nab g9 (by decide)))) Try.underlying71 rfl (by show 2 = Try.prog.cellsOf 71; rw [size71]), a0, l0, c0, fun w hw => ?_, qa, ea, h0, by omega, m.kind, m.from_, m.to, m.txn, m.yes, d.a, d.l, d.c, fun w hw => ?_, rfl, by omega, newK_intro fun h4 n4 x4 e4 => ⟨x4.keep _, ?_⟩⟩
  · have := quiet_lookup keyed3 Try.underlying60 zero29 NI.m2 (a := t) trivial w (hw.block _ hb2 (rd b2 hb2 (nmap hm2)))
    rw [eb'] at this; exact this
  · have := quiet_lookup keyed71 Try.underlying59 zero29 NI.m1 (a := (f, t)) trivial w (hw.block _ hb1 (rd b1 hb1 (nmap hm1)))
    rw [e0'] at this; exact this
  · have hcw : CellsAt w.heap (qa.add (at_.toNat * 6)) (msgCells m d) := fun j v hv => by
      have h1 := hcs j v hv
      have hbk : ((qa.add (at_.toNat * 6)).add j).block = qa.block := by unfold Addr.add; split <;> split <;> rfl
      have h2 := hw.block qa.block lqa (rd _ lqa nlink)
      rw [← h1]
      simp only [Vc.cell, hbk, h2]
    have hr := run_cells (P := Try.prog) hcw
    have h6 : (msgCells m d).length = Try.prog.cellsOf 24 := by show 6 = _; rw [size24]
    rw [h6] at hr
    unfold loadVar
    simp [Sem.run_bind, run_isAgg_true Try.underlying24 rfl, run_size Try.underlying24, hr]
    rfl
  have n4' : h4[h3.size]? = some (.cells (msgCells m d).toArray 24 (0, 0)) := n4
  have src4 : OwnR 24 6 (#[] : Heap) h4 (some ⟨h3.size, 0, none⟩) 1 1 [msgCells m d] := OwnR.new_ (by simpa using n4') ⟨Nat.zero_le _, fun k hk => absurd hk (Nat.not_lt_zero _)⟩ (Nat.zero_le _) (by simp [msgCells]) rfl
  refine appK_S (new := [msgCells m d]) size24 (ob.grow x4) src4.rows.src rfl (by simp [msgCells]) (fun r hr => by simp at hr; subst hr; exact msg_one m d) (by rw [bytes24]; omega) z24 fun a' c' h5 o5 k5 ha => ?_
  have K35 : Keep (fun k => (∃ ad, ab = some ad ∧ ad.block = k) ∨ h3.size ≤ k) h3 h5 := (x4.keep _).trans (k5.mono fun k _ hs => hs.imp id fun hs => by omega)
  refine ⟨k5.mono fun k _ hs => hs.imp id fun hs => by omega, ?_⟩
  have m25 : MapAt intV (fun _ => True) h5 b2 kb := NI.m2.block (K35.block b2 hb2 (rd b2 hb2 (nmap hm2)))
  refine semU_update keyed3 Try.underlying60 m25 (a := t) trivial fun h6 m6 o6 => ⟨trivial, ?_⟩
  have nb1 : ¬ (((b1 = b2) ∨ (∃ ad, ab = some ad ∧ ad.block = b1)) ∨ h3.size ≤ b1) := fun hs => by
    rcases hs with (hs | ⟨ad, ea, hs⟩) | hs
    · exact NI.ne hs
    · exact nmap hm1 ad ea hs
    · omega
  have K36 : Keep (fun k => (k = b2 ∨ (∃ ad, ab = some ad ∧ ad.block = k)) ∨ h3.size ≤ k) h3 h6 := (K35.mono fun k _ hs => hs.elim (fun hs => .inl (.inr hs)) (fun hs => .inr hs)).trans (o6.keep (.inl (.inl rfl)))
  have K36' : Keep (fun k => ((k = b1 ∨ k = b2) ∨ (∃ ad, ab = some ad ∧ ad.block = k)) ∨ h3.size ≤ k) h3 h6 := K36.mono fun k _ hs => hs.imp (Or.imp .inr id) id
  have na' : ∀ ad, a' = some ad → ad.block ≠ b2 := fun ad ea hs => by
    rcases ha ad ea with ⟨ad0, e0, e1⟩ | hx
    · exact nmap hm2 ad0 e0 (e1.trans hs)
    · have := x4.size; omega
  have z5 := k5.size
  have z6 := o6.size
  obtain ⟨N6, kF6⟩ := NI.push (k0 := .box t) eb K36' (NI.m1.block (K36.block b1 hb1 nb1)) m6 (lookK_box kl kb t _) hdb hmb (o5.keep (S := (· = b2)) (o6.keep rfl) na') (tm.keep K36' (fun k hk => .inl hk) fun k cs _ h2 => h2.elim (fun h2 => NI.other eb h2 (by decide)) (fun h2 => NI.other eb h2 (by decide))) (by omega) (fun ad ea => (ha ad ea).imp id fun hx => ⟨by omega, by omega⟩)
  have s6 : Vc.cell h6 ((at0 b9).add 0) = some (.int .i64 f) ∧ Vc.cell h6 ((at0 b9).add 1) = some (.int .i64 t) := by
    have hb9 : h6[b9]? = some (.cells #[.int .i64 f, .int .i64 t] 71 (0, 0)) := K36'.blk g9 (NI.other eb g9 (by decide))
    constructor <;> (rw [add_at0, cell_blk hb9]; rfl)
  have hlen : at_.toNat < (updM M (.box t) (M (.box t) ++ [m]) (.link f t)).length := by
    unfold updM
    rw [if_neg (fun e => by cases e)]
    exact (List.getElem?_eq_some_iff.1 hm).1
  have hout := out_ok N6 f t at_.toNat hlen
  rw [Int.toNat_of_nonneg h0] at hout
  refine ⟨f, t, s6.1, s6.2, rfl, HEnt.use hout ?_⟩
  rintro _ h7 ⟨rfl, N7, k7⟩
  have z7 := k7.size
  have z36 := K36.size
  refine ⟨rfl, rfl, N7.mono (fun k hk => ?_) (Fx_bound N (by have := x03.size; omega)), Keep.after x03 (Keep.thenFx kF6 k7)⟩
  · rcases hk with (hk | hk) | hk
    · exact .inl hk
    · exact .inr ⟨by have := x03.size; omega, by omega⟩
    · exact .inr ⟨by have := x03.size; omega, hk.2⟩


/-- what a message handed out is -/
theorem take_ok {F : Nat → Prop} {h : Heap} {q : Nat} {M : NetM} (N : NetAt F h q M) (n : Int) :
    HEnt Try.prog 22 #[.pointer (some (at0 q)), .int .i64 n] h fun v h' => (∃ d es, v = .tuple #[.agg (msgCells ((M (.box n)).head?.getD zeroM) d).toArray, .bool (M (.box n)).head?.isSome] ∧ MsgF (Fx F h h') h' ((M (.box n)).head?.getD zeroM) d es) ∧ NetAt (Fx F h h') h' q (takeM M n) ∧ Keep F h h' := by
  refine F22_ent _ _ _ _ ?_
  have hbn0 := N.bound
  unfold F22
  refine (St.start h).new fun b4 h1 s1 _ _ => HEnt.use (none_ok (N.grow s1.ext)) ?_
  rintro _ h1 ⟨rfl, rfl⟩
  have x1 := s1.ext
  have NX := N
  obtain ⟨b1, b2, kl, kb, N0⟩ := N
  have NI := N0.grow x1
  obtain ⟨ab, lb, cb, eb, sb⟩ := N0.slot (.box n)
  have eb' : (lookA kb n).getD nilS = .slice ab lb cb := eb
  have hlb := sb.len
  obtain ⟨db, ob, hdb, hmb⟩ := sb.ex
  refine ⟨false, rfl, br_of (fun g => by cases g) (fun _ => ⟨at0 q, rfl, some b2, (cell_net NI.net).2, semK_lookup keyed3 Try.underlying60 zero29 NI.m2 (a := n) trivial ⟨ab, lb, cb, eb', ?_⟩⟩)⟩
  unfold F22_k1
  refine br_of (fun g => ?_) (fun g => ?_)
  · have g : (lb : Int) = 0 := by simpa using g
    have hnil : M (.box n) = [] := List.eq_nil_of_length_eq_zero (by omega)
    have htm : takeM M n = M := by
      funext k; unfold takeM updM; split
      · rename_i e; rw [e, hnil]; rfl
      · rfl
    refine s1.storeAll 0 rfl rfl zeroC24 (vs := (msgCells zeroM nilH).toArray) (by simp [msgCells, one]) fun h2 s2 on2 => ?_
    simp only [List.set_cons_zero] at s2
    rw [hnil, htm]
    exact ⟨0, 0, 0, 0, false, none, 0, 0, s2.cell 0 rfl rfl, s2.cell 0 rfl rfl, s2.cell 0 rfl rfl, s2.cell 0 rfl rfl, s2.cell 0 rfl rfl, s2.cell 0 rfl rfl, rfl, ⟨nilH, [], rfl, ⟨⟨rfl, OwnR.nil _ _ ⟨Nat.zero_le _, fun k hk => absurd hk (Nat.not_lt_zero _)⟩, by simp⟩, fun k e => (by cases e), by simp, by decide, by simp, by simp [zeroM]⟩⟩, NX.growx s2.ext, s2.ext.keep _⟩
  have g : ¬ (lb : Int) = 0 := by simpa using g
  obtain ⟨m, r, hmr⟩ : ∃ m r, M (.box n) = m :: r := by
    cases hM : M (.box n) with
    | nil => rw [hM] at hlb; simp at hlb; omega
    | cons m r => exact ⟨m, r, rfl⟩
  rw [hmr] at hdb hlb ob hmb
  obtain ⟨d, dr, hdd⟩ : ∃ d dr, db = d :: dr := by
    cases db with
    | nil => simp at hdb
    | cons d dr => exact ⟨d, dr, rfl⟩
  subst hdd
  obtain ⟨es, tm⟩ := hmb 0 m d rfl rfl
  obtain ⟨qa, ea, hlt, hcs, _⟩ := row_load (ob.grow x1).rows (i := 0) (m := m) (d := d) rfl
  unfold F22_k2
  have hc := fun j v hv => hcs j v hv
  refine ⟨at0 q, rfl, some b2, (cell_net NI.net).2, semK_lookup keyed3 Try.underlying60 zero29 NI.m2 (a := n) trivial ⟨ab, lb, cb, eb', qa, ea, by omega, by omega, m.kind, m.from_, m.to, m.txn, m.yes, d.a, d.l, d.c, hc 0 _ rfl, hc 1 _ rfl, hc 2 _ rfl, hc 3 _ rfl, hc 4 _ rfl, hc 5 _ rfl, rfl, s1.new fun b6 h2 s2 x2 hb6 => ?_⟩⟩
  refine s2.storeAll 0 rfl rfl zeroC24 (vs := (msgCells m d).toArray) (by simp [msgCells, one]) fun h3 s3 on3 => ?_
  simp only [List.set_cons_zero] at s3
  have x13 : Ext h1 h3 := ⟨by have := x2.size; have := on3.size; omega, fun k hk => (on3.block k (by show k ≠ b6; omega)).trans (x2.block k hk)⟩
  have q3 := cell_net (x13.blk NI.net)
  have m23 := NI.m2.grow x13
  refine ⟨at0 q, rfl, some b2, q3.2, at0 q, rfl, some b2, q3.2, ab, lb, cb, fun w hw => ?_, by omega, by omega, fun h4 hc4 => ?_⟩
  · have hw := Cls.eq hw
    have := quiet_lookup keyed3 Try.underlying60 zero29 m23 (a := n) trivial w (by rw [hw])
    rw [eb'] at this; exact this
  obtain rfl := Cls.eq hc4
  refine semU_update keyed3 Try.underlying60 m23 (a := n) trivial fun h5 m5 o5 => ?_
  have g6 := (s3.at_ 0 _ rfl).2
  have g4 := (s3.at_ 1 _ rfl).2
  simp only at g6 g4
  obtain ⟨⟨es2, cl2, hm2, _⟩, _⟩ := m23
  have nb : ∀ {k : Nat} {cs : Array Value} {ty : TypeId} {hh : Heap}, hh[k]? = some (.cells cs ty (0, 0)) → hh[b2]? = some (.map es2 cl2) → k ≠ b2 := fun hk h2 e => by rw [e, h2] at hk; cases hk
  have g65 := o5.blk g6 (nb g6 hm2)
  have g45 := o5.blk g4 (nb g4 hm2)
  have n64 : b4 ≠ b6 := fun e => by have := s3.apart 0 1 _ _ rfl rfl e.symm; omega
  have c6 : ∀ j v, (msgCells m d)[j]? = some v → Vc.cell h5 ((at0 b6).add j) = some v := fun j v hv => by rw [add_at0, cell_blk g65]; simpa using hv
  refine ⟨m.kind, m.from_, m.to, m.txn, m.yes, d.a, d.l, d.c, c6 0 _ rfl, c6 1 _ rfl, c6 2 _ rfl, c6 3 _ rfl, c6 4 _ rfl, c6 5 _ rfl, rfl, storeK_whole (vs := (msgCells m d).toArray) g45 rfl zeroC24 (by simp [msgCells, one]) fun h6 g46 o6 => ?_⟩
  have c4 : ∀ j v, (msgCells m d)[j]? = some v → Vc.cell h6 ((at0 b4).add j) = some v := fun j v hv => by rw [add_at0, cell_blk g46]; simpa using hv
  have x03 := s3.ext
  have ge4 := (s3.at_ 1 _ rfl).1
  simp only at ge4
  have K6 : Keep (fun k => (k = b2 ∨ (∃ ad, ab = some ad ∧ ad.block = k)) ∨ h.size ≤ k) h h6 := ((x03.keep _).trans (o5.keep (.inl (.inl rfl)))).trans (o6.keep (.inr ge4))
  have K6' : Keep (fun k => ((k = b1 ∨ k = b2) ∨ (∃ ad, ab = some ad ∧ ad.block = k)) ∨ h.size ≤ k) h h6 := K6.mono fun k _ hs => hs.imp (Or.imp .inr id) id
  obtain ⟨⟨es1, cl1, hm1, _⟩, _⟩ := N0.m1
  obtain ⟨⟨es2', cl2', hm2', _⟩, _⟩ := N0.m2
  have nmap : ∀ {k : Nat} {es : Array MapEntry} {cl : Nat}, h[k]? = some (.map es cl) → ∀ ad, ab = some ad → ad.block ≠ k := fun hk ad ea hs => by
    obtain ⟨cs', g, _⟩ := ob.type_ ea
    rw [hs, hk] at g; cases g
  have nb1 : ¬ (((b1 = b2) ∨ (∃ ad, ab = some ad ∧ ad.block = b1)) ∨ h.size ≤ b1) := fun hs => by
    rcases hs with (hs | ⟨ad, ea, hs⟩) | hs
    · exact N0.ne hs
    · exact nmap hm1 ad ea hs
    · have := N0.m1.lt; omega
  have m26 : MapAt intV (fun _ => True) h6 b2 (updA kb n (.slice (cutAt cb 1 6 ab) (lb - 1) (cb - 1))) := m5.block (o6.block b2 (fun e => by have := N0.m2.lt; omega))
  have htm : takeM M n = updM M (.box n) r := by unfold takeM; rw [hmr]; rfl
  have keepM : ∀ {m : MsgV} {d : Hdr} {es : List Hdr}, MsgF F h m d es → MsgF (Fx F h h6) h6 m d es := fun t => t.keep K6' (fun k hk => .inl hk) fun k cs _ h2 => h2.elim (fun h2 => N0.other eb h2 (by decide)) (fun h2 => N0.other eb h2 (by decide))
  have lt : ∀ ad, ab = some ad → ad.block < h.size := fun ad ea => by
    obtain ⟨cs', g, _⟩ := ob.type_ ea
    exact blk_lt g
  have o6' : OwnS 24 6 h6 ab lb cb (List.zipWith msgCells (m :: r) (d :: dr)) := (((ob.grow x03).keep (S := (· = b2)) (o5.keep rfl) (nmap hm2')).keep (S := (· = b4)) (o6.keep rfl) (fun ad ea e => by have := lt ad ea; omega))
  rw [hmr, htm]
  refine ⟨m.kind, m.from_, m.to, m.txn, m.yes, d.a, d.l, d.c, c4 0 _ rfl, c4 1 _ rfl, c4 2 _ rfl, c4 3 _ rfl, c4 4 _ rfl, c4 5 _ rfl, rfl, ⟨d, es, rfl, keepM tm⟩, ⟨b1, b2, _, _, N0.step eb K6' (fun k hk => .inl hk) (Fx_bound NX K6.size) (N0.m1.block (K6.block b1 N0.m1.lt nb1)) m26 (lookK_box kl kb n _) ⟨⟨dr, OwnS.tail (r := msgCells m d) o6', by simpa using hdb, fun i m' d' hi hd => ?_⟩, ?_, fun ad ea => ?_⟩ (fun ad ea => .inl (cut_block ea))⟩, N0.keepF eb K6'⟩
  · obtain ⟨es', t⟩ := hmb (i + 1) m' d' (by simpa using hi) (by simpa using hd)
    exact ⟨es', keepM t⟩
  · have := sb.few
    rw [hmr] at this
    simp at this; omega
  · obtain ⟨ad0, e0, e1⟩ := cut_block ea
    exact .inl (e1 ▸ sb.f ad0 e0)

theorem clear_ok {F : Nat → Prop} {h : Heap} {q : Nat} {M : NetM} (N : NetAt F h q M) (n : Int) :
    HEnt Try.prog 28 #[.pointer (some (at0 q)), .int .i64 n] h fun v h' => v = .int .i64 (M (.box n)).length ∧ NetAt (Fx F h h') h' q (updM M (.box n) []) ∧ Keep F h h' := by
  refine F28_ent _ _ _ _ ?_
  unfold F28
  refine HEnt.use (none_ok N) ?_
  rintro _ h ⟨rfl, rfl⟩
  have NX := N
  obtain ⟨b1, b2, kl, kb, N0⟩ := N
  obtain ⟨ab, lb, cb, eb, sb⟩ := N0.slot (.box n)
  have eb' : (lookA kb n).getD nilS = .slice ab lb cb := eb
  have hlb := sb.len
  obtain ⟨db, ob, hdb, hmb⟩ := sb.ex
  refine ⟨false, rfl, br_of (fun g => by cases g) (fun _ => ?_)⟩
  unfold F28_k1
  refine ⟨at0 q, rfl, some b2, (cell_net N0.net).2, semK_lookup keyed3 Try.underlying60 zero29 N0.m2 (a := n) trivial ⟨ab, lb, cb, eb', at0 q, rfl, some b2, (cell_net N0.net).2, ?_⟩⟩
  refine semK_delete (ts := [3]) keyed3 Try.underlying60 N0.m2 (a := n) trivial fun h1 m1 o1 => ?_
  have K6 : Keep (fun k => (k = b2 ∨ (∃ ad, ab = some ad ∧ ad.block = k)) ∨ h.size ≤ k) h h1 := o1.keep (.inl (.inl rfl))
  have K6' : Keep (fun k => ((k = b1 ∨ k = b2) ∨ (∃ ad, ab = some ad ∧ ad.block = k)) ∨ h.size ≤ k) h h1 := K6.mono fun k _ hs => hs.imp (Or.imp .inr id) id
  obtain ⟨⟨es1, cl1, hm1, _⟩, _⟩ := N0.m1
  have nb1 : ¬ (((b1 = b2) ∨ (∃ ad, ab = some ad ∧ ad.block = b1)) ∨ h.size ≤ b1) := fun hs => by
    rcases hs with (hs | ⟨ad, ea, hs⟩) | hs
    · exact N0.ne hs
    · obtain ⟨cs', g, _⟩ := ob.type_ ea
      rw [hs, hm1] at g; cases g
    · have := N0.m1.lt; omega
  exact ⟨by rw [hlb], ⟨b1, b2, _, _, N0.step eb K6' (fun k hk => .inl hk) (Fx_bound NX K6.size) (N0.m1.block (K6.block b1 N0.m1.lt nb1)) m1 (lookK_del kl kb n) (SlotAt.nil _ _) (fun ad ea => by cases ea)⟩, N0.keepF eb K6'⟩
end Go.Proofs.Ytnhnioodlciajaa
