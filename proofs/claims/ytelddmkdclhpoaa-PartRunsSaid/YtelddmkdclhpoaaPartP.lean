/- Chapter 16: the law PartKeeps. -/
import Derived.Test.YtelddmkdclhpoaaPartO
namespace Go.Vc
theorem St.tail {h0 h : Heap} {x : Loc} {L : List Loc} (s : St h0 h (x :: L)) : St h0 h L :=
  ⟨s.ext, fun i l hl => s.at_ (i + 1) l hl, fun i j l m hi hj he => by have := s.apart (i + 1) (j + 1) l m hi hj he; omega⟩
end Go.Vc
namespace Go.Packs
open Go.Vc
def okK (q : PartV) (root txn : Int) (x : DeedV) : Prop :=
  (x.kind = 2 ∧ q.staged = 0 ∧ x.txn ∉ q.done ∧ x.txn = txn) ∨ (x.kind = 3 ∧ q.staged = x.txn ∧ x.txn ∉ q.done) ∨ (x.kind = 4 ∧ q.staged = x.txn ∧ x.txn ∉ q.done) ∨
  (x.kind = 1 ∧ q.done ≠ [] ∧ lastN q.done = x.txn) ∨
  (x.kind = 5 ∧ x.mf = root ∧ x.mt = 0 ∧ x.mx = txn ∧ ((x.mq = 2 ∧ x.my = decide (q.staged = x.mx)) ∨ (x.mq = 5 ∧ x.mx ∈ q.done)))
def keepsP (root txn : Int) : PartV → List DeedV → Prop
  | _, [] => True
  | q, x :: l => okK q root txn x ∧ keepsP root txn (play1 q x) l
theorem keeps_get {root txn : Int} : ∀ {l : List DeedV} {q : PartV} (k : Nat) {x : DeedV}, keepsP root txn q l → l[k]? = some x → okK (playV q (l.take k)) root txn x
  | [], q, k, x, _, h => by simp at h
  | y :: l, q, 0, x, h, hx => by simp at hx; subst hx; exact h.1
  | y :: l, q, k + 1, x, h, hx => by
    have := keeps_get (l := l) (q := play1 q y) k h.2 (by simpa using hx)
    exact this
theorem last_mem {l : List Int} (h : lastN l ≠ 0) : l ≠ [] ∧ lastN l ∈ l := by
  have hne : l ≠ [] := fun e => h (by rw [e]; rfl)
  refine ⟨hne, ?_⟩
  unfold lastN
  rw [List.getLast?_eq_some_getLast hne]
  exact List.getLast_mem hne
theorem keeps (p : PartV) (m : MsgV) : keepsP p.root m.txn p (takeV p m) := by
  by_cases hg : goodP p
  case neg => unfold takeV; rw [if_pos (.inl hg)]; trivial
  by_cases hc : msgC m ≠ 0 ∨ m.to ≠ p.root
  · have : takeV p m = [] := by unfold takeV; rw [if_pos (.inr hc)]
    rw [this]; trivial
  have hm : msgC m = 0 := Classical.not_not.1 fun h => hc (.inl h)
  have ht : m.to = p.root := Classical.not_not.1 fun h => hc (.inr h)
  have htx : 1 ≤ m.txn ∧ m.txn ≤ 1099511627776 := by
    unfold msgC at hm
    split at hm
    · cases hm
    · split at hm
      · cases hm
      · rename_i h2
        exact ⟨by have := fun h => h2 (.inr (.inl h)); omega, by have := fun h => h2 (.inr (.inr h)); omega⟩
  rw [takeV_good hg hm ht]
  have send5 : ∀ (q : PartV) (k : Int) (y : Bool), ((k = 2 ∧ y = decide (q.staged = m.txn)) ∨ (k = 5 ∧ m.txn ∈ q.done)) → okK q p.root m.txn (sendV p.root k m.txn y) := fun q k y h => .inr (.inr (.inr (.inr ⟨rfl, rfl, rfl, rfl, h⟩)))
  have notin : p.staged = m.txn → m.txn ∉ p.done := fun e hx => (hg.2.2.2.2 _ hx).2.2 e.symm
  by_cases k1 : m.kind = 1
  · rw [if_pos k1]; unfold prepV
    split
    · trivial
    · rename_i g1
      split
      · rename_i g2
        exact ⟨send5 p 2 true (.inl ⟨rfl, by simp [g2]⟩), trivial⟩
      · rename_i g2
        split
        · exact ⟨send5 p 2 false (.inl ⟨rfl, by simp [g2]⟩), trivial⟩
        · rename_i g3
          have g3 : p.staged = 0 := Classical.not_not.1 g3
          have two : ∀ q : PartV, q.staged = 0 → q.done = p.done → keepsP p.root m.txn q [doV 2 m.txn m.packs, sendV p.root 2 m.txn true] := fun q e e2 =>
            ⟨.inl ⟨rfl, e, by rw [e2]; exact g1, rfl⟩, send5 { q with staged := m.txn } 2 true (.inl ⟨rfl, by simp⟩), trivial⟩
          split
          · rename_i g4
            exact ⟨.inr (.inr (.inr (.inl ⟨rfl, (last_mem g4).1, rfl⟩))), two p g3 rfl⟩
          · exact two p g3 rfl
  rw [if_neg k1]
  by_cases k3 : m.kind = 3
  · rw [if_pos k3]; unfold commitV
    split
    · rename_i g1
      refine ⟨.inr (.inl ⟨rfl, g1, notin g1⟩), ?_⟩
      show keepsP p.root m.txn { p with staged := 0, done := p.done ++ [m.txn] } _
      exact ⟨.inr (.inr (.inr (.inl ⟨rfl, by simp, by simp [lastN, doV]⟩))), send5 _ 5 false (.inr ⟨rfl, by show m.txn ∈ p.done ++ [m.txn]; simp⟩), trivial⟩
    · split
      · rename_i g2
        have := last_mem (l := p.done) (by omega)
        exact ⟨.inr (.inr (.inr (.inl ⟨rfl, this.1, g2⟩))), send5 _ 5 false (.inr ⟨rfl, by show m.txn ∈ p.done; rw [← g2]; exact this.2⟩), trivial⟩
      · split
        · rename_i g3
          exact ⟨send5 _ 5 false (.inr ⟨rfl, g3⟩), trivial⟩
        · trivial
  rw [if_neg k3]
  split
  · split
    · rename_i g1
      exact ⟨.inr (.inr (.inl ⟨rfl, g1, notin g1⟩)), trivial⟩
    · trivial
  · trivial
end Go.Packs
namespace Go.Proofs.Ytelddmkdclhpoaa
open Go.Vc Go.Sha Go.Trail Go.Packs
set_option linter.unusedVariables false

/-- what a round keeps -/
def KI (h : Heap) (b2 b3 : Nat) (m : MsgV) (e' d' : Hdr) (p q : PartV) (ds : List DeedV) (rows : List (List Value)) (ya : Option Addr) (yc : Nat) : Int → Option Addr → Nat → Nat → Int → Heap → Prop := fun s a l c i h' =>
  ∃ k : Nat, i = k ∧ k ≤ ds.length ∧ OwnR 37 9 h h' ya ds.length yc rows ∧ St h h' [⟨b3, (msgCells m e').toArray, 27⟩, ⟨b2, (partCells p d').toArray, 24⟩] ∧ OwnR 3 1 h h' a l c (nums (playV q (ds.take k)).done) ∧ s = (playV q (ds.take k)).staged
def KM (n : Nat) : Int → Option Addr → Nat → Nat → Int → Heap → Nat := fun s a l c i h' => ((n : Int) - i).toNat

theorem keeps_ok (p : PartV) (d : Hdr) (m : MsgV) (e : Hdr) (es : List Hdr) (h : Heap) (hn : NumsAt h d.a d.l d.c p.done) (hp : PacksAt h e.a e.l e.c m.packs es) :
    HEnt Try.prog 5 #[.agg (partCells p d).toArray, .agg (msgCells m e).toArray] h fun v h' => v = .bool true ∧ Ext h h' := by
  refine F5_ent _ _ _ _ _ _ _ _ _ _ _ _ _ _ _ ?_
  unfold F5
  refine (St.start h).new fun b2 h1 s1 _ _ => s1.new fun b3 h2 s2 _ _ => ?_
  refine ⟨p.root, p.staged, d.a, d.l, d.c, s2.cell 1 rfl rfl, s2.cell 1 rfl rfl, s2.cell 1 rfl rfl, rfl, m.kind, m.from_, m.to, m.txn, m.yes, e.a, e.l, e.c, s2.cell 0 rfl rfl, s2.cell 0 rfl rfl, s2.cell 0 rfl rfl, s2.cell 0 rfl rfl, s2.cell 0 rfl rfl, s2.cell 0 rfl rfl, rfl, ?_⟩
  refine HEnt.use (few_ok p d m e es h2 (NumsAt.grow hn s2.ext) (hp.grow s2.ext)) ?_
  rintro _ h3 ⟨d', e', es', rfl, o3, t3, x3⟩
  refine ⟨p.root, p.staged, d'.a, d'.l, d'.c, m.kind, m.from_, m.to, m.txn, m.yes, e'.a, e'.l, e'.c, rfl, ?_⟩
  have s3 := s2.grow x3
  have lo2 := s2.lt (i := 1) rfl
  have lo3 := s2.lt (i := 0) rfl
  have lo := (s2.at_ 1 _ rfl).1
  have lo' := (s2.at_ 0 _ rfl).1
  simp only at lo2 lo3 lo lo'
  refine s3.storeAll 1 rfl rfl rfl (vs := (partCells p d').toArray) (by simp [partCells, one]) fun h4 s4 on4 => ?_
  simp only [List.set_cons_zero, List.set_cons_succ] at s4
  refine s4.storeAll 0 rfl rfl rfl (vs := (msgCells m e').toArray) (by simp [msgCells, one]) fun h5 s5 on5 => ?_
  simp only [List.set_cons_zero] at s5
  have K5 : Keep (fun k => k = b2 ∨ k = b3) h3 h5 := (on4.keep (S := fun k => k = b2 ∨ k = b3) (.inl rfl)).trans (on5.keep (S := fun k => k = b2 ∨ k = b3) (.inr rfl))
  have o5 : OwnR 3 1 h h5 d'.a d'.l d'.c (nums (fewP p).done) := (o3.since s2.ext).keep K5 (fun k hk hs => by omega) (fun k ek hs => by have := (o3.lt k ek).1; omega)
  have t5 : TwinAt h h5 e' (fewM m).packs es' := (TwinAt.since t3 s2.ext).keep K5 (fun k hk hs => by omega) (fun k ek hs => by have := (t3.rows.lt k ek).1; omega) (fun i x hx k ek hs => by obtain ⟨_, o⟩ := t3.ref hx; have := (o.lt k ek).1; omega)
  have n5 : NumsAt h5 d'.a d'.l d'.c (fewP p).done := o5.rows
  have p5 : PacksAt h5 e'.a e'.l e'.c (fewM m).packs es' := t5.packs (few_oks (PacksAt.oks hp))
  have ll := few_len t5
  have ln := few_nums o5
  have lls : ∀ x ∈ es', x.l ≤ 1099511627776 := fun x hx => by have := ll.2 x hx; omega
  have lp : (fewP p).done.length ≤ 100 := by simp [fewP]; omega
  have c1 := s5.cell 1 rfl (k := 1) (v := .int .i64 p.staged) rfl
  have c2 := s5.cell 1 rfl (k := 2) (v := .slice d'.a d'.l d'.c) rfl
  have bl : ∀ k, ((at0 b2).add k).block < h5.size := fun k => by rw [add_at0]; exact s5.lt (i := 1) rfl
  refine ⟨Keep (h5.size ≤ ·), fun h => Keep.refl _ h, fun _ _ _ x y => x.trans y, p.staged, fun w hw => run_loadCell (hw.cell c1 (bl 1)) Try.underlying3 rfl, d'.a, d'.l, d'.c, fun w hw => run_loadCell (hw.cell c2 (bl 2)) Try.underlying22 rfl, by omega, newK_intro fun h6 n6 x6 _ => ⟨x6.keep _, ?_⟩⟩
  have lt6 := blk_lt n6
  refine appK_R (h0 := h) (rows := []) (new := nums (fewP p).done) size3 (OwnR.new_ n6 (s5.ext.trans x6) s5.ext.size (by simp) rfl) (NumsAt.grow n5 x6).src n5.1 n5.row (numRows_one _) (by rw [bytes3]; omega) z3 fun a7 c7 h7 o7 k7 i7 => ?_
  rw [Nat.zero_add] at o7 ⊢
  rw [List.nil_append] at o7
  have S7 : ∀ k, k < h5.size → ¬ (some (at0 h5.size) = some ⟨k, 0, none⟩ ∨ h6.size ≤ k) := by
    intro k hk hs
    rcases hs with hs | hs
    · simp [at0] at hs; try omega
    · omega
  have x57 : Ext h5 h7 := ((x6.keep (fun k => some (at0 h5.size) = some ⟨k, 0, none⟩ ∨ h6.size ≤ k)).trans k7).ext S7
  have s7 := s5.grow x57
  refine ⟨k7.mono (fun k _ hs => Nat.le_of_not_lt fun hk => S7 k hk hs), ?_⟩
  refine ⟨p.root, p.staged, d'.a, d'.l, d'.c, s7.cell 1 rfl rfl, s7.cell 1 rfl rfl, s7.cell 1 rfl rfl, rfl, m.kind, m.from_, m.to, m.txn, m.yes, e'.a, e'.l, e'.c, s7.cell 0 rfl rfl, s7.cell 0 rfl rfl, s7.cell 0 rfl rfl, s7.cell 0 rfl rfl, s7.cell 0 rfl rfl, s7.cell 0 rfl rfl, rfl, ?_⟩
  refine HEnt.use (take_ok (fewP p) d' (fewM m) e' es' h7 (NumsAt.grow n5 x57) (by omega) (p5.grow x57) (by omega) lls) ?_
  rintro _ h8 ⟨t8, x8⟩
  obtain ⟨⟨ya, yl, yc⟩, hs, rfl, t8⟩ := t8
  have tl := takeV_len (fewP p) (fewM m)
  have kp := keeps (fewP p) (fewM m)
  generalize takeV (fewP p) (fewM m) = ds at *
  have hyl : yl = ds.length := by
    have := t8.rows.len
    rw [List.length_zipWith, t8.len, Nat.min_self] at this
    exact this.symm
  subst hyl
  have hrw : ∀ (k : Nat) (x : DeedV), ds[k]? = some x → ∃ dd, (List.zipWith deedCells ds hs)[k]? = some (deedCells x dd) := by
    intro k x hx
    have hlt := (List.getElem?_eq_some_iff.1 hx).1
    have hd : hs[k]? = some (hs[k]'(by rw [t8.len]; exact hlt)) := List.getElem?_eq_getElem _
    exact ⟨_, by rw [List.getElem?_zipWith, hx, hd]⟩
  have rw8 := t8.rows.since (s5.ext.trans x57)
  clear t8
  simp only at rw8
  generalize hrows : List.zipWith deedCells ds hs = rows at *
  have s8 := s7.grow x8
  refine ⟨ya, _, yc, rfl, KI h b2 b3 m e' d' p (fewP p) ds rows ya yc, KM ds.length, ⟨0, rfl, by omega, rw8, s8, o7.grow x8, rfl⟩, ?_⟩
  rintro h9 _ a6 l6 c6 _ ⟨k, rfl, hk, r9, s9, o9, rfl⟩
  unfold F5_b1
  refine br_of (fun hlt => ?_) (fun hf => ?_)
  case refine_2 =>
    unfold F5_k14
    refine HEnt.use (works_ok h9) ?_
    rintro _ h10 ⟨rfl, x10⟩
    exact ⟨true, rfl, rfl, s9.ext.trans x10⟩
  have hk' : k < ds.length := by
    have : (k : Int) < (ds.length : Int) := by simpa using hlt
    omega
  have hx : ds[k]? = some ds[k] := List.getElem?_eq_getElem hk'
  generalize ds[k] = x at hx
  have ok := keeps_get k kp hx
  obtain ⟨dd, hz⟩ := hrw k x hx
  obtain ⟨q, eq, _, hc⟩ := r9.rows.get hz
  have hc7 : ∀ j u, (deedCells x dd)[j]? = some u → Vc.cell h9 ((q.add (Int.toNat (k : Int) * 9)).add j) = some u := fun j u hu => by rw [Int.toNat_natCast]; exact hc j u hu
  have hlenk : (playV (fewP p) (ds.take k)).done.length ≤ 200 := by
    have := playV_len (ds.take k) (fewP p)
    rw [List.length_take] at this; omega
  have hnext : playV (fewP p) (ds.take (k + 1)) = play1 (playV (fewP p) (ds.take k)) x := by rw [takeR_succ hx, playV_snoc]
  generalize hP : playV (fewP p) (ds.take k) = P at *
  have el : l6 = P.done.length := by have := o9.len; simpa [nums] using this.symm
  have next : ∀ (s : Int) (a : Option Addr) (l c : Nat) (h' : Heap), s = (play1 P x).staged → OwnR 37 9 h h' ya ds.length yc rows → St h h' [⟨b3, (msgCells m e').toArray, 27⟩, ⟨b2, (partCells p d').toArray, 24⟩] → OwnR 3 1 h h' a l c (nums (play1 P x).done) →
      F5_k5 (KI h b2 b3 m e' d' p (fewP p) ds rows ya yc) (KM ds.length) (KM ds.length P.staged a6 l6 c6 (k : Int) h9) (at0 b2) (at0 b3) s a l c ya ds.length yc (ds.length : Int) (k : Int) h' fun v h' => v = .bool true ∧ Ext h h' := by
    rintro s a l c h' rfl r' s' o'
    unfold F5_k5
    rw [wrap_succ k _ hk' (by omega)]
    refine ⟨⟨k + 1, rfl, by omega, r', s', by rw [hnext]; exact o', by rw [hnext]⟩, ?_⟩
    unfold KM
    exact less_succ _ _ hk'
  unfold F5_k2
  refine ⟨q, eq, by omega, by show (k : Int) < (ds.length : Int); omega, x.kind, x.txn, dd.a, dd.l, dd.c, x.mq, x.mf, x.mt, x.mx, x.my, none, 0, 0, hc7 0 _ rfl, hc7 1 _ rfl, hc7 2 _ rfl, hc7 3 _ rfl, hc7 4 _ rfl, hc7 5 _ rfl, hc7 6 _ rfl, hc7 7 _ rfl, hc7 8 _ rfl, rfl, ?_⟩
  refine s9.new fun b8 h10 s10 x10 hb8 => ?_
  refine s10.storeAll 0 rfl rfl zeroC37 (vs := (deedCells x dd).toArray) (by simpa using deed_one x dd) fun h11 s11 on11 => ?_
  simp only [List.set_cons_zero] at s11
  have lo8 := (s11.at_ 0 _ rfl).1
  simp only at lo8
  have o11 : OwnR 3 1 h h11 a6 l6 c6 (nums P.done) := (o9.grow x10).keep (S := (· = b8)) (on11.keep rfl) (fun k hk hs => by omega) ((o9.grow x10).loc_ne s10 (i := 0) rfl (Nat.ne_of_beq_eq_false rfl))
  have r11 : OwnR 37 9 h h11 ya ds.length yc rows := (r9.grow x10).keep (S := (· = b8)) (on11.keep rfl) (fun k hk hs => by omega) (fun k ek hs => by have := (r9.lt k ek).2; omega)
  have g11 := s11.tail
  refine ⟨x.txn, s11.cell 0 rfl rfl, HEnt.use (in_ok a6 l6 c6 x.txn P.done h11 o11.rows (by omega)) ?_⟩
  rintro _ _ ⟨rfl, rfl⟩
  refine ⟨_, rfl, x.kind, s11.cell 0 rfl rfl, ?_⟩
  have kne : ∀ {a b : Int} {p q : Prop}, x.kind = a → a ≠ b → q → br ((x.kind : Int) == b) p q := fun e hne hq => br_of (fun g => by simp [e] at g; exact absurd g hne) (fun _ => hq)
  rcases ok with ⟨hk2, hs, hin, ht⟩ | ⟨hk3, hs, hin⟩ | ⟨hk4, hs, hin⟩ | ⟨hk1, hne, hl⟩ | ⟨hk5, hf, hmt, hmx, hq⟩
  · have hp1 : play1 P x = { P with staged := x.txn } := by unfold play1; rw [if_pos hk2]
    refine br_of (fun _ => ?_) (fun g => by simp [hk2] at g)
    refine br_of (fun g => by simp [hs] at g) (fun _ => br_of (fun g => by simp [hin] at g) (fun _ => ⟨x.txn, s11.cell 0 rfl rfl, m.txn, s11.cell 1 rfl rfl, ?_⟩))
    unfold F5_k3
    refine br_of (fun g => by simp [ht] at g; exact absurd rfl g) (fun _ => ?_)
    unfold F5_k4
    exact ⟨x.txn, s11.cell 0 rfl rfl, next _ _ _ _ _ (by rw [hp1]) r11 g11 (by rw [hp1]; exact o11)⟩
  · have hp1 : play1 P x = { P with staged := 0, done := P.done ++ [x.txn] } := by unfold play1; rw [if_neg (by omega), if_pos hk3]
    refine kne hk3 (by decide) (br_of (fun _ => ?_) (fun g => by simp [hk3] at g))
    refine ⟨x.txn, s11.cell 0 rfl rfl, br_of (fun g => by simp [hs] at g) (fun _ => ?_)⟩
    unfold F5_k6
    refine br_of (fun g => by simp [hin] at g) (fun _ => ?_)
    unfold F5_k7
    refine ⟨x.txn, s11.cell 0 rfl rfl, by omega, newK_intro fun h12 n12 x12 _ => ?_⟩
    have g12 := g11.grow x12
    refine appK_R (new := [[Value.int .i64 x.txn]]) size3 (o11.grow x12) (num1 x.txn h12 _ n12) rfl (by simp) (by simp [one]) (by rw [bytes3, el]; omega) z3 fun a13 c13 h13 o13 k13 _ => ?_
    have S13 : ∀ k, k < h.size → ¬ (a6 = some ⟨k, 0, none⟩ ∨ h12.size ≤ k) := by
      intro k hk hs
      rcases hs with hs | hs
      · have := (o11.lt k hs).1; omega
      · have := g12.ext.size; omega
    have g13 := g12.keep k13 S13 (fun i l hl hs => by
      rcases hs with hs | hs
      · have : l.t ≠ 3 := by
          match i, hl with
          | 0, hl => simp at hl; subst hl; exact Nat.ne_of_beq_eq_false rfl
          | 1, hl => simp at hl; subst hl; exact Nat.ne_of_beq_eq_false rfl
          | i + 2, hl => simp at hl
        exact (o11.grow x12).loc_ne g12 hl this _ hs rfl
      · have := g12.lt hl; omega)
    have r13 := (r11.grow x12).keep k13 S13 (fun k ek hs => by
      rcases hs with hs | hs
      · exact (r11.grow x12).type_ne (o11.grow x12) (by decide) k k ek hs rfl
      · have := ((r11.grow x12).lt k ek).2; omega)
    refine next _ _ _ _ _ (by rw [hp1]) r13 g13 ?_
    rw [hp1]
    show OwnR 3 1 h h13 a13 (l6 + 1) c13 (nums (P.done ++ [x.txn]))
    unfold nums at o13 ⊢
    rw [List.map_append]; exact o13
  · have hp1 : play1 P x = { P with staged := 0 } := by unfold play1; rw [if_neg (by omega), if_neg (by omega), if_pos hk4]
    refine kne hk4 (by decide) (kne hk4 (by decide) (br_of (fun _ => ?_) (fun g => by simp [hk4] at g)))
    refine ⟨x.txn, s11.cell 0 rfl rfl, br_of (fun g => by simp [hs] at g) (fun _ => ?_)⟩
    unfold F5_k8
    refine br_of (fun g => by simp [hin] at g) (fun _ => ?_)
    unfold F5_k9
    exact next _ _ _ _ _ (by rw [hp1]) r11 g11 (by rw [hp1]; exact o11)
  · have hp1 : play1 P x = P := by unfold play1; rw [if_neg (by omega), if_neg (by omega), if_neg (by omega)]
    refine kne hk1 (by decide) (kne hk1 (by decide) (kne hk1 (by decide) (br_of (fun _ => ?_) (fun g => by simp [hk1] at g))))
    have hpos : 0 < l6 := by rw [el]; exact List.length_pos_iff.2 hne
    refine br_of (fun g => by simp at g; omega) (fun _ => ?_)
    have n11 : NumsAt _ a6 l6 c6 P.done := o11.rows
    obtain ⟨q2, y, hy, eq2, hc2⟩ := n11.get (i := l6 - 1) (by omega)
    have hw : IntKind.i64.wrap ((l6 : Int) - 1) = ((l6 - 1 : Nat) : Int) := by rw [i64_lt _ (by omega) (by omega)]; omega
    have hly : y = x.txn := by
      rw [← hl]; unfold lastN; rw [List.getLast?_eq_getElem?, ← el, hy]; rfl
    refine ⟨q2, eq2, by rw [hw]; omega, by rw [hw]; omega, y, by rw [hw, Int.toNat_natCast]; exact hc2, x.txn, s11.cell 0 rfl rfl, ?_⟩
    rintro _ rfl
    unfold F5_k10
    refine br_of (fun g => by simp [hly] at g) (fun _ => ?_)
    exact next _ _ _ _ _ (by rw [hp1]) r11 g11 (by rw [hp1]; exact o11)
  · have hp1 : play1 P x = P := by unfold play1; rw [if_neg (by omega), if_neg (by omega), if_neg (by omega)]
    refine kne hk5 (by decide) (kne hk5 (by decide) (kne hk5 (by decide) (kne hk5 (by decide) (br_of (fun _ => ?_) (fun g => by simp [hk5] at g)))))
    refine ⟨x.mq, x.mf, x.mt, x.mx, x.my, none, 0, 0, s11.cell2 0 rfl rfl, s11.cell2 0 rfl rfl, s11.cell2 0 rfl rfl, s11.cell2 0 rfl rfl, s11.cell2 0 rfl rfl, s11.cell2 0 rfl rfl, rfl, ?_⟩
    refine g11.new fun b10 h12 s12 x12 hb10 => ?_
    refine s12.storeAll 0 rfl rfl zeroC27 (vs := (msgCells (msgOf x) nilH).toArray) (by simp [msgCells, one]) fun h13 s13 on13 => ?_
    simp only [List.set_cons_zero] at s13
    have lo10 := (s13.at_ 0 _ rfl).1
    simp only at lo10
    have o13 : OwnR 3 1 h h13 a6 l6 c6 (nums P.done) := (o11.grow x12).keep (S := (· = b10)) (on13.keep rfl) (fun k hk hs => by omega) ((o11.grow x12).loc_ne s12 (i := 0) rfl (Nat.ne_of_beq_eq_false rfl))
    have r13 : OwnR 37 9 h h13 ya ds.length yc rows := (r11.grow x12).keep (S := (· = b10)) (on13.keep rfl) (fun k hk hs => by omega) (fun k ek hs => by have := (r11.lt k ek).2; omega)
    have g13 := s13.tail
    have go : F5_k13 (KI h b2 b3 m e' d' p (fewP p) ds rows ya yc) (KM ds.length) (KM ds.length P.staged a6 l6 c6 (k : Int) h9) (at0 b2) (at0 b3) P.staged a6 l6 c6 ya ds.length yc (ds.length : Int) (k : Int) false h13 fun v h' => v = .bool true ∧ Ext h h' := by
      unfold F5_k13
      exact br_of (fun g => by cases g) (fun _ => next _ _ _ _ _ (by rw [hp1]) r13 g13 (by rw [hp1]; exact o13))
    refine ⟨x.mf, s13.cell 0 rfl rfl, p.root, s13.cell 2 rfl rfl, br_of (fun g => by simp [hf] at g; exact absurd rfl g) (fun _ => ?_)⟩
    refine ⟨x.mt, s13.cell 0 rfl rfl, br_of (fun g => by simp [hmt] at g) (fun _ => ?_)⟩
    refine ⟨x.mx, s13.cell 0 rfl rfl, m.txn, s13.cell 1 rfl rfl, br_of (fun g => by simp [hmx] at g; exact absurd rfl g) (fun _ => ?_)⟩
    refine ⟨none, 0, 0, s13.cell 0 rfl rfl, ?_⟩
    unfold F5_k11
    refine br_of (fun g => by simp at g) (fun _ => ?_)
    unfold F5_k12
    refine ⟨x.mq, s13.cell 0 rfl rfl, ?_⟩
    rcases hq with ⟨hq, hy⟩ | ⟨hq, hin⟩
    · refine br_of (fun _ => ⟨x.my, s13.cell 0 rfl rfl, x.mx, s13.cell 0 rfl rfl, br_of (fun g => ?_) (fun _ => ?_)⟩) (fun g => by simp [hq] at g)
      · exfalso; rw [hy] at g; by_cases hh : P.staged = x.mx <;> simp [hh] at g
      · refine ⟨x.mq, s13.cell 0 rfl rfl, br_of (fun g => by simp [hq] at g) (fun _ => ⟨x.mq, s13.cell 0 rfl rfl, br_of (fun g => by simp [hq] at g) (fun _ => go)⟩)⟩
    · refine br_of (fun g => by simp [hq] at g) (fun _ => ⟨x.mq, s13.cell 0 rfl rfl, br_of (fun _ => ⟨x.mx, s13.cell 0 rfl rfl, HEnt.use (in_ok a6 l6 c6 x.mx P.done h13 o13.rows (by omega)) ?_⟩) (fun g => by simp [hq] at g)⟩)
      rintro _ _ ⟨rfl, rfl⟩
      refine ⟨_, rfl, br_of (fun g => by simp [hin] at g) (fun _ => ⟨x.mq, s13.cell 0 rfl rfl, br_of (fun _ => ⟨x.mq, s13.cell 0 rfl rfl, ?_⟩) (fun _ => go)⟩)⟩
      rw [show ((x.mq : Int) != 5) = false by simp [hq]]
      exact go
end Go.Proofs.Ytelddmkdclhpoaa
