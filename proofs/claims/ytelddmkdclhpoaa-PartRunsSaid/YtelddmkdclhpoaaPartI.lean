/- Chapter 16: prepare, Take, works of the program. -/
import Derived.Test.YtelddmkdclhpoaaPartH
namespace Go.Vc
set_option linter.unusedVariables false
/-- a local that is read, whatever comes -/
theorem St.quiet {P : Program} {h0 h : Heap} {L : List Loc} (s : St h0 h L) (i : Nat) {l : Loc} (hi : L[i]? = some l) {k : Nat} {v : Value} {t : TypeId} {d : TypeDesc} (hv : l.cs[k]? = some v) (hd : P.underlying t = some d) (hp : plainD d = true) : ∀ w : World, Ext h w.heap → (loadVar t ((at0 l.b).add k)).run P w = .ok v w := by
  intro w x
  have hc' : w.cell? ((at0 l.b).add k) = some v := x.some (s.cell i hi hv)
  unfold loadVar
  simp [Sem.run_bind, run_isAgg_false hd hp, hc']
theorem St.quietAgg {P : Program} {h0 h : Heap} {L : List Loc} (s : St h0 h L) (i : Nat) {l : Loc} (hi : L[i]? = some l) {t : TypeId} {d : TypeDesc} (hd : P.underlying t = some d) (hp : plainD d = false) (hn : l.cs.size = P.cellsOf t) : ∀ w : World, Ext h w.heap → (loadVar t (at0 l.b)).run P w = .ok (.agg l.cs) w := by
  intro w x
  have hc : CellsAt w.heap (at0 l.b) l.cs.toList := by
    have := (s.cells i hi (k := 0) (vs := l.cs.toList) fun j v hv => by simpa using hv).ext x
    rw [add_at0] at this; exact this
  have hr := run_cells (P := P) hc
  simp only [Array.length_toList] at hr
  unfold loadVar
  simp [Sem.run_bind, run_isAgg_true hd hp, run_size hd, ← hn, hr]
theorem OwnR.since {el : TypeId} {n : Nat} {h0 h1 h : Heap} {a : Option Addr} {l c : Nat} {rows : List (List Value)} (o : OwnR el n h1 h a l c rows) (x : Ext h0 h1) : OwnR el n h0 h a l c rows :=
  ⟨o.len, o.cap, o.row, o.own.imp id fun ⟨b, cs, e, g1, g⟩ => ⟨b, cs, e, Nat.le_trans x.size g1, g⟩, x.trans o.ext⟩
end Go.Vc
namespace Go.Proofs.Ytelddmkdclhpoaa
open Go.Vc Go.Sha Go.Trail Go.Packs
set_option linter.unusedVariables false

theorem TwinAt.since {h0 h1 h : Heap} {e : Hdr} {ps : List PackV} {es : List Hdr} (t : TwinAt h1 h e ps es) (x : Ext h0 h1) : TwinAt h0 h e ps es :=
  ⟨t.len, t.rows.since x, fun i p d hp hd => (t.refs i p d hp hd).since x⟩
theorem msgC_zero_packs {m : MsgV} (h : msgC m = 0) : m.packs = [] ∨ m.kind = 1 := by
  unfold msgC at h
  split at h
  · cases h
  · split at h
    · cases h
    · split at h
      · cases h
      · rename_i h3
        by_cases hp : m.packs = []
        · exact .inl hp
        · exact .inr (Classical.not_not.1 fun hk => h3 (.inr ⟨hp, hk⟩))
theorem deeds_two {h0 h : Heap} {b : Nat} {x y : DeedV} {d e : Hdr} {es fs : List Hdr} (hb : h[b]? = some (.cells (deedCells x d ++ deedCells y e).toArray 37 (0, 0))) (xx : Ext h0 h) (hB : h0.size ≤ b) (hx : TwinAt h0 h d x.packs es) (hy : TwinAt h0 h e y.packs fs) :
    DeedsAt (fun e ps => ∃ es, TwinAt h0 h e ps es) h0 h ⟨some (at0 b), 2, 2⟩ [x, y] [d, e] := by
  refine ⟨rfl, OwnR.new_ (rows := [deedCells x d, deedCells y e]) (by simpa using hb) xx hB (fun r hr => ?_) rfl, fun i z f hz hf => ?_⟩
  · simp at hr; rcases hr with rfl | rfl <;> rfl
  · match i, hz, hf with
    | 0, hz, hf => simp at hz hf; subst hz; subst hf; exact ⟨es, hx⟩
    | 1, hz, hf => simp at hz hf; subst hz; subst hf; exact ⟨fs, hy⟩
    | i + 2, hz, hf => simp at hz

theorem prepare_ok (p : PartV) (d : Hdr) (m : MsgV) (e : Hdr) (es : List Hdr) (h : Heap) (hn : NumsAt h d.a d.l d.c p.done) (hl : d.l ≤ 1099511627776) (hp : PacksAt h e.a e.l e.c m.packs es) (hel : e.l ≤ 1099511627776) (hls : ∀ x ∈ es, x.l ≤ 1099511627776) :
    HEnt Try.prog 24 #[.agg (partCells p d).toArray, .agg (msgCells m e).toArray] h fun v h' => Deeds h v h' (prepV p m) ∧ Ext h h' := by
  refine F24_ent _ _ _ _ _ _ _ _ _ _ _ _ _ _ _ ?_
  unfold F24
  refine (St.start h).new fun b2 h1 s1 _ _ => s1.new fun b3 h2 s2 _ _ => ?_
  refine ⟨d.a, d.l, d.c, s2.cell 1 rfl rfl, m.txn, s2.cell 0 rfl rfl, HEnt.use (contains_ok d.a d.l d.c m.txn p.done h2 (NumsAt.grow hn s2.ext) (by omega)) ?_⟩
  rintro _ _ ⟨rfl, rfl⟩
  refine ⟨_, rfl, br_of (fun g => ?_) (fun g => ⟨p.staged, s2.cell 1 rfl rfl, m.txn, s2.cell 0 rfl rfl, br_of (fun g2 => ?_) (fun g2 => ⟨p.staged, s2.cell 1 rfl rfl, br_of (fun g3 => ?_) (fun g3 => ?_)⟩)⟩)⟩
  · have g : m.txn ∈ p.done := by simpa using g
    unfold prepV
    rw [if_pos g]
    exact ⟨Deeds.nil_ s2.ext, s2.ext⟩
  · have g : ¬ m.txn ∈ p.done := by simpa using g
    have g2 : p.staged = m.txn := by simpa using g2
    refine ⟨p.root, p.staged, d.a, d.l, d.c, s2.cell 1 rfl rfl, s2.cell 1 rfl rfl, s2.cell 1 rfl rfl, rfl, m.txn, s2.cell 0 rfl rfl, HEnt.use (send_ok p d 2 m.txn true _) ?_⟩
    rintro _ h4 ⟨rfl, x4⟩
    have s4 := s2.grow x4
    refine ⟨5, 0, none, 0, 0, 2, p.root, 0, m.txn, true, none, 0, 0, rfl, rfl, by omega, newK_intro fun h8 n8 x8 _ => ?_⟩
    refine HEnt.use (list_ok _ _ _ h8) ?_
    rintro _ _ ⟨rfl, rfl⟩
    refine ⟨_, _, _, rfl, ?_, s4.ext.trans x8⟩
    unfold prepV
    rw [if_neg g, if_pos g2]
    exact deeds_plain n8 (s4.ext.trans x8) s4.ext.size rfl (by simp [sendV])
  · have g : ¬ m.txn ∈ p.done := by simpa using g
    have g2 : ¬ p.staged = m.txn := by simpa using g2
    have g3 : p.staged ≠ 0 := by simpa using g3
    refine ⟨p.root, p.staged, d.a, d.l, d.c, s2.cell 1 rfl rfl, s2.cell 1 rfl rfl, s2.cell 1 rfl rfl, rfl, m.txn, s2.cell 0 rfl rfl, HEnt.use (send_ok p d 2 m.txn false _) ?_⟩
    rintro _ h4 ⟨rfl, x4⟩
    have s4 := s2.grow x4
    refine ⟨5, 0, none, 0, 0, 2, p.root, 0, m.txn, false, none, 0, 0, rfl, rfl, by omega, newK_intro fun h8 n8 x8 _ => ?_⟩
    refine HEnt.use (list_ok _ _ _ h8) ?_
    rintro _ _ ⟨rfl, rfl⟩
    refine ⟨_, _, _, rfl, ?_, s4.ext.trans x8⟩
    unfold prepV
    rw [if_neg g, if_neg g2, if_pos g3]
    exact deeds_plain n8 (s4.ext.trans x8) s4.ext.size rfl (by simp [sendV])
  · have g : ¬ m.txn ∈ p.done := by simpa using g
    have g2 : ¬ p.staged = m.txn := by simpa using g2
    have g3 : ¬ p.staged ≠ 0 := by simpa using g3
    unfold F24_k1
    refine ⟨Ext, Ext.refl, fun _ _ _ x y => x.trans y, m.txn, s2.quiet 0 rfl rfl Try.underlying3 rfl, e.a, e.l, e.c, s2.quiet 0 rfl rfl Try.underlying25 rfl, p.root, p.staged, d.a, d.l, d.c, s2.quietAgg 1 rfl Try.underlying24 rfl (by kernel_rfl), m.txn, s2.quiet 0 rfl rfl Try.underlying3 rfl, ?_⟩
    refine HEnt.use (twin_ok e m.packs es _ (hp.grow s2.ext) hel hls) ?_
    rintro _ h4 ⟨f, fs, rfl, _, t4⟩
    have x4 := t4.rows.ext
    refine ⟨f.a, f.l, f.c, rfl, x4, HEnt.use (send_ok p d 2 m.txn true h4) ?_⟩
    rintro _ h5 ⟨rfl, x5⟩
    refine ⟨5, 0, none, 0, 0, 2, p.root, 0, m.txn, true, none, 0, 0, rfl, x5, rfl, rfl, by omega, newK_intro fun h6 n6 x6 _ => ⟨x6, ?_⟩⟩
    refine HEnt.use (list_ok _ _ _ h6) ?_
    rintro _ _ ⟨rfl, rfl⟩
    refine ⟨_, _, _, rfl, Ext.refl _, ?_⟩
    have s6 := ((s2.grow x4).grow x5).grow x6
    have t6 := ((t4.since s2.ext).grow x5).grow x6
    have xa := (s2.ext.trans x4).trans x5
    have two := deeds_two (x := doV 2 m.txn m.packs) (y := sendV p.root 2 m.txn true) (d := f) (e := nilH) (h0 := h) n6 (xa.trans x6) xa.size t6 (nilTwin (xa.trans x6))
    refine ⟨p.root, p.staged, d.a, d.l, d.c, s6.cell 1 rfl rfl, s6.cell 1 rfl rfl, s6.cell 1 rfl rfl, rfl, HEnt.use (last_ok p d _ (NumsAt.grow hn s6.ext) hl) ?_⟩
    rintro _ h7 ⟨rfl, x7⟩
    have s7 := s6.grow x7
    have tw7 : DeedsAt (fun e ps => ∃ es, TwinAt h h7 e ps es) h h7 _ _ _ := ⟨two.len, two.rows.grow x7, fun i x d hx hd => let ⟨es, t⟩ := two.packs i x d hx hd; ⟨es, t.grow x7⟩⟩
    refine ⟨lastN p.done, rfl, br_of (fun g4 => ?_) (fun g4 => ?_)⟩
    · have g4 : lastN p.done ≠ 0 := by simpa using g4
      refine ⟨rfl, by omega, newK_intro fun h8 n8 x8 _ => ?_⟩
      refine HEnt.use (list_ok _ _ _ h8) ?_
      rintro _ h8 ⟨rfl, rfl⟩
      refine ⟨_, _, _, rfl, ?_⟩
      have o1 : OwnR 37 9 h h8 (some (at0 h7.size)) 1 1 [deedCells (doV 1 (lastN p.done) []) nilH] := OwnR.new_ (by simpa [deedCells, doV, nilH] using n8) (s7.ext.trans x8) s7.ext.size (by simp [deedCells]) rfl
      have o2 := tw7.rows.grow x8
      refine appK_R (new := [deedCells (doV 2 m.txn m.packs) f, deedCells (sendV p.root 2 m.txn true) nilH]) size37 o1 o2.rows.src rfl (by simp [deedCells]) (fun r hr => ?_) (by rw [bytes37]; show (1 + 2) * 104 ≤ 140737488355328; decide) z37 fun a' c' h9 o9 k9 _ => ?_
      · simp at hr; rcases hr with rfl | rfl
        · exact deed_one _ _
        · exact deed_one _ _
      · unfold F24_k2
        have x9 : Ext h8 h9 ∨ True := .inr trivial
        have hlt8 : h7.size < h8.size := blk_lt n8
        refine ⟨⟨⟨a', 1 + 2, c'⟩, [nilH, f, nilH], rfl, ?_⟩, o9.ext⟩
        unfold prepV
        rw [if_neg g, if_neg g2, if_neg g3, if_pos g4]
        refine ⟨rfl, o9, fun i x y hx hy => ?_⟩
        have keepT : ∀ {e : Hdr} {ps : List PackV} {es : List Hdr}, TwinAt h h8 e ps es → TwinAt h h9 e ps es := by
          intro e ps es t
          have hs : ∀ k, k < h.size → ¬ (some (at0 h7.size) = some ⟨k, 0, none⟩ ∨ h8.size ≤ k) := by
            intro k hk hk2
            have := s7.ext.size
            rcases hk2 with hk2 | hk2
            · simp [at0] at hk2; try omega
            · omega
          have ne : ∀ {el : TypeId} {n : Nat} {a : Option Addr} {l c : Nat} {rows : List (List Value)}, OwnR el n h h8 a l c rows → 37 ≠ el → ∀ k, a = some ⟨k, 0, none⟩ → ¬ (some (at0 h7.size) = some ⟨k, 0, none⟩ ∨ h8.size ≤ k) := by
            intro el n a l c rows o he k ek hk2
            rcases hk2 with hk2 | hk2
            · exact (o1.type_ne o he) h7.size k rfl ek (by simp [at0] at hk2; exact hk2)
            · have := (o.lt k ek).2; omega
          exact ⟨t.len, t.rows.keep k9 hs (ne t.rows (by decide)), fun i p d hp hd => (t.refs i p d hp hd).keep k9 hs (ne (t.refs i p d hp hd) (by decide))⟩
        match i, hx, hy with
        | 0, hx, hy => simp at hx hy; subst hx; subst hy; exact ⟨[], nilTwin o9.ext⟩
        | 1, hx, hy => simp at hx hy; subst hx; subst hy; exact ⟨fs, keepT ((t6.grow x7).grow x8)⟩
        | 2, hx, hy => simp at hx hy; subst hx; subst hy; exact ⟨[], nilTwin o9.ext⟩
        | i + 3, hx, hy => simp at hx
    · have g4 : ¬ lastN p.done ≠ 0 := by simpa using g4
      unfold F24_k2
      refine ⟨⟨⟨some (at0 h5.size), 2, 2⟩, [f, nilH], rfl, ?_⟩, s7.ext⟩
      unfold prepV
      rw [if_neg g, if_neg g2, if_neg g3, if_neg g4]
      exact tw7

theorem take_ok (p : PartV) (d : Hdr) (m : MsgV) (e : Hdr) (es : List Hdr) (h : Heap) (hn : NumsAt h d.a d.l d.c p.done) (hl : d.l ≤ 1099511627776) (hp : PacksAt h e.a e.l e.c m.packs es) (hel : e.l ≤ 1099511627776) (hls : ∀ x ∈ es, x.l ≤ 1099511627776) :
    HEnt Try.prog 10 #[.agg (partCells p d).toArray, .agg (msgCells m e).toArray] h fun v h' => Deeds h v h' (takeV p m) ∧ Ext h h' := by
  refine F10_ent _ _ _ _ _ _ _ _ _ _ _ _ _ _ _ ?_
  unfold F10
  refine (St.start h).new fun b2 h1 s1 _ _ => s1.new fun b3 h2 s2 _ _ => ?_
  have deeds_since : ∀ {h3 h4 : Heap} {v : Value} {ds : List DeedV}, Ext h h3 → Deeds h3 v h4 ds → Deeds h v h4 ds := by
    rintro h3 h4 v ds x ⟨y, hs, rfl, t⟩
    exact ⟨y, hs, rfl, t.len, t.rows.since x, fun i z w hz hw => let ⟨es, t⟩ := t.packs i z w hz hw; ⟨es, t.since x⟩⟩
  have k1 : ∀ bb h4, St h h4 [⟨b3, (msgCells m e).toArray, 27⟩, ⟨b2, (partCells p d).toArray, 24⟩] → (bb = true ↔ ¬ goodP p ∨ msgC m ≠ 0 ∨ m.to ≠ p.root) → F10_k1 (at0 b2) (at0 b3) none 0 0 m.txn bb h4 fun v h' => Deeds h v h' (takeV p m) ∧ Ext h h' := by
    intro bb h4 s4 hb
    unfold F10_k1
    refine br_of (fun g => ?_) (fun g => ?_)
    · unfold takeV
      rw [if_pos (hb.1 g)]
      exact ⟨Deeds.nil_ s4.ext, s4.ext⟩
    · have g : ¬ (¬ goodP p ∨ msgC m ≠ 0 ∨ m.to ≠ p.root) := fun x => by rw [hb.2 x] at g; cases g
      unfold F10_k2 takeV
      rw [if_neg g]
      refine ⟨m.kind, s4.cell 0 rfl rfl, br_of (fun g1 => ?_) (fun g1 => br_of (fun g3 => ?_) (fun g3 => br_of (fun g4 => ⟨p.staged, s4.cell 1 rfl rfl, br_of (fun g5 => ?_) (fun g5 => ?_)⟩) (fun g4 => ?_)))⟩
      · have g1 : m.kind = 1 := by simpa using g1
        rw [if_pos g1]
        refine ⟨p.root, p.staged, d.a, d.l, d.c, s4.cell 1 rfl rfl, s4.cell 1 rfl rfl, s4.cell 1 rfl rfl, rfl, m.kind, m.from_, m.to, m.txn, m.yes, e.a, e.l, e.c, s4.cell 0 rfl rfl, s4.cell 0 rfl rfl, s4.cell 0 rfl rfl, s4.cell 0 rfl rfl, s4.cell 0 rfl rfl, s4.cell 0 rfl rfl, rfl, ?_⟩
        refine HEnt.use (prepare_ok p d m e es h4 (NumsAt.grow hn s4.ext) hl (hp.grow s4.ext) hel hls) ?_
        rintro _ h5 ⟨⟨y, hs, rfl, t⟩, x5⟩
        exact ⟨y.a, y.l, y.c, rfl, deeds_since s4.ext ⟨y, hs, rfl, t⟩, s4.ext.trans x5⟩
      · have g1 : ¬ m.kind = 1 := by simpa using g1
        have g3 : m.kind = 3 := by simpa using g3
        rw [if_neg g1, if_pos g3]
        refine ⟨p.root, p.staged, d.a, d.l, d.c, s4.cell 1 rfl rfl, s4.cell 1 rfl rfl, s4.cell 1 rfl rfl, rfl, ?_⟩
        refine HEnt.use (commit_ok p d m.txn h4 (NumsAt.grow hn s4.ext) hl) ?_
        rintro _ h5 ⟨⟨y, hs, rfl, t⟩, x5⟩
        exact ⟨y.a, y.l, y.c, rfl, deeds_since s4.ext ⟨y, hs, rfl, t⟩, s4.ext.trans x5⟩
      · have g1 : ¬ m.kind = 1 := by simpa using g1
        have g3 : ¬ m.kind = 3 := by simpa using g3
        have g4 : m.kind = 4 := by simpa using g4
        have g5 : p.staged = m.txn := by simpa using g5
        rw [if_neg g1, if_neg g3, if_pos g4, if_pos g5]
        refine ⟨rfl, by omega, newK_intro fun h8 n8 x8 _ => ?_⟩
        refine HEnt.use (list_ok _ _ _ h8) ?_
        rintro _ _ ⟨rfl, rfl⟩
        exact ⟨_, _, _, rfl, deeds_plain n8 (s4.ext.trans x8) s4.ext.size rfl (by simp [doV]), s4.ext.trans x8⟩
      · have g1 : ¬ m.kind = 1 := by simpa using g1
        have g3 : ¬ m.kind = 3 := by simpa using g3
        have g4 : m.kind = 4 := by simpa using g4
        have g5 : ¬ p.staged = m.txn := by simpa using g5
        rw [if_neg g1, if_neg g3, if_pos g4, if_neg g5]
        exact ⟨Deeds.nil_ s4.ext, s4.ext⟩
      · have g1 : ¬ m.kind = 1 := by simpa using g1
        have g3 : ¬ m.kind = 3 := by simpa using g3
        have g4 : ¬ m.kind = 4 := by simpa using g4
        rw [if_neg g1, if_neg g3, if_neg g4]
        exact ⟨Deeds.nil_ s4.ext, s4.ext⟩
  refine ⟨m.txn, s2.cell 0 rfl rfl, p.root, p.staged, d.a, d.l, d.c, s2.cell 1 rfl rfl, s2.cell 1 rfl rfl, s2.cell 1 rfl rfl, rfl, HEnt.use (good_ok p d h2 (NumsAt.grow hn s2.ext) hl) ?_⟩
  rintro _ h3 ⟨rfl, x3⟩
  have s3 := s2.grow x3
  refine ⟨_, rfl, br_of (fun g => k1 _ _ s3 ?_) (fun g => ?_)⟩
  · have g : ¬ goodP p := by simpa using g
    exact ⟨fun _ => .inl g, fun _ => rfl⟩
  have g : goodP p := by simpa using g
  refine ⟨m.kind, m.from_, m.to, m.txn, m.yes, e.a, e.l, e.c, s3.cell 0 rfl rfl, s3.cell 0 rfl rfl, s3.cell 0 rfl rfl, s3.cell 0 rfl rfl, s3.cell 0 rfl rfl, s3.cell 0 rfl rfl, rfl, ?_⟩
  refine HEnt.use (check_ok m e es h3 (hp.grow s3.ext) (by omega)) ?_
  rintro _ h4 ⟨rfl, x4⟩
  have s4 := s3.grow x4
  refine ⟨_, rfl, br_of (fun g2 => k1 _ _ s4 ?_) (fun g2 => ?_)⟩
  · have g2 : ¬ (msgC m : Int) = 0 := by simpa using g2
    exact ⟨fun _ => .inr (.inl (by omega)), fun _ => rfl⟩
  have g2 : (msgC m : Int) = 0 := by simpa using g2
  refine ⟨m.to, s4.cell 0 rfl rfl, p.root, s4.cell 1 rfl rfl, k1 _ _ s4 ?_⟩
  rw [bne_iff_ne]
  exact ⟨fun h => .inr (.inr h), fun h => (h.resolve_left fun x => x g).resolve_left fun x => x (by omega)⟩

/-! ### works -/
theorem deeds_cells {h0 h : Heap} {v : Value} {ds : List DeedV} (t : Deeds h0 v h ds) : ∃ a c, v = .slice a ds.length c ∧ ∀ (i : Nat) (x : DeedV), ds[i]? = some x → ∃ q d, a = some q ∧ ∀ j u, (deedCells x d)[j]? = some u → cell h ((q.add (i * 9)).add j) = some u := by
  obtain ⟨y, hs, rfl, t⟩ := t
  have hl : y.l = ds.length := by
    have := t.rows.len
    rw [List.length_zipWith, t.len, Nat.min_self] at this
    exact this.symm
  refine ⟨y.a, y.c, by rw [hl], fun i x hx => ?_⟩
  have hlt := (List.getElem?_eq_some_iff.1 hx).1
  have hd : hs[i]? = some (hs[i]'(by rw [t.len]; exact hlt)) := List.getElem?_eq_getElem _
  have hz : (List.zipWith deedCells ds hs)[i]? = some (deedCells x (hs[i]'(by rw [t.len]; exact hlt))) := by rw [List.getElem?_zipWith, hx, hd]
  obtain ⟨q, e, _, hc⟩ := t.rows.rows.get hz
  exact ⟨q, _, e, hc⟩
theorem Deeds.grow {h0 h h' : Heap} {v : Value} {ds : List DeedV} (t : Deeds h0 v h ds) (x : Ext h h') : Deeds h0 v h' ds := by
  obtain ⟨y, hs, rfl, t⟩ := t
  exact ⟨y, hs, rfl, t.len, t.rows.grow x, fun i z w hz hw => let ⟨es, t⟩ := t.packs i z w hz hw; ⟨es, t.grow x⟩⟩
theorem nilNums (h : Heap) (c : Nat) : NumsAt h none 0 c [] := Tab.empty 1 c h none
theorem nilPacks (h : Heap) (a : Option Addr) (c : Nat) : PacksAt h a 0 c [] [] := ⟨rfl, Tab.empty 4 c h a, by simp, by simp⟩
theorem works_ok (h : Heap) : HEnt Try.prog 17 #[] h fun v h' => v = .bool true ∧ Ext h h' := by
  refine F17_ent _ _ ?_
  unfold F17
  refine HEnt.use (take_ok ⟨1, 0, []⟩ nilH ⟨1, 0, 1, 7, false, []⟩ nilH [] h (nilNums _ _) (by decide) (nilPacks _ _ _) (by decide) (by simp)) ?_
  rintro _ h1 ⟨t1, x1⟩
  rw [show takeV ⟨1, 0, []⟩ ⟨1, 0, 1, 7, false, []⟩ = [doV 2 7 [], sendV 1 2 7 true] by rfl] at t1
  obtain ⟨a5, c5, rfl, _⟩ := deeds_cells t1
  refine ⟨a5, 2, c5, rfl, HEnt.use (tick_ok ⟨1, 7, []⟩ nilH h1 (nilNums _ _) (by decide)) ?_⟩
  rintro _ h2 ⟨t2, x2⟩
  rw [show tickV ⟨1, 7, []⟩ = [sendV 1 6 7 false] by rfl] at t2
  obtain ⟨a7, c7, rfl, _⟩ := deeds_cells t2
  refine ⟨a7, 1, c7, rfl, HEnt.use (good_ok ⟨1, 7, []⟩ nilH h2 (nilNums _ _) (by decide)) ?_⟩
  rintro _ h3 ⟨rfl, x3⟩
  obtain ⟨_, _, e5, g5⟩ := deeds_cells (t1.grow (x2.trans x3))
  obtain ⟨_, _, e7, g7⟩ := deeds_cells (t2.grow x3)
  cases e5; cases e7
  obtain ⟨q5, d5, eq5, c50⟩ := g5 0 _ rfl
  obtain ⟨q5', d5', eq5', c51⟩ := g5 1 _ rfl
  obtain ⟨q7, d7, eq7, c70⟩ := g7 0 _ rfl
  have hadd : ∀ (q : Addr) (i j k : Nat), ((q.add i).add j).add k = (q.add i).add (j + k) := fun q i j k => by unfold Addr.add; by_cases hj : j = 0 <;> by_cases hk : k = 0 <;> simp [hj, hk, Nat.add_assoc]
  have x := (x1.trans x2).trans x3
  refine ⟨_, rfl, br_of (fun _ => br_of (fun _ => ⟨q5, eq5, by omega, by omega, 2, c50 0 _ rfl, br_of (fun _ => ⟨q5', eq5', by omega, by omega, true, by rw [hadd]; exact c51 7 _ rfl, br_of (fun _ => br_of (fun _ => ⟨q7, eq7, by omega, by omega, 6, by rw [hadd]; exact c70 3 _ rfl, rfl, x⟩) (fun g => ?_)) (fun g => ?_)⟩) (fun g => ?_)⟩) (fun g => ?_)) (fun g => ?_)⟩
  · cases g
  · cases g
  · cases g
  · cases g
  · rw [decide_eq_true (show goodP ⟨1, 7, []⟩ by decide)] at g; cases g
end Go.Proofs.Ytelddmkdclhpoaa
