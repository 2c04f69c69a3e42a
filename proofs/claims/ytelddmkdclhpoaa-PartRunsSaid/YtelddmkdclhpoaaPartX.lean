/- Chapter 16: the law PartRuns, walked. -/
import Derived.Test.YtelddmkdclhpoaaPartW
import Derived.Test.YtelddmkdclhpoaaVpPe
namespace Go.Vc
theorem St.swap {h0 h : Heap} {x y : Loc} {L : List Loc} (s : St h0 h (x :: y :: L)) : St h0 h (y :: x :: L) := by
  have fx : ∀ (i : Nat) (l : Loc), (y :: x :: L)[i]? = some l → (x :: y :: L)[if i = 0 then 1 else if i = 1 then 0 else i]? = some l := by
    intro i l hl
    match i, hl with
    | 0, hl => exact hl
    | 1, hl => exact hl
    | i + 2, hl => exact hl
  refine ⟨s.ext, fun i l hl => s.at_ _ l (fx i l hl), fun i j l m hi hj he => ?_⟩
  have := s.apart _ _ l m (fx i l hi) (fx j m hj) he
  match i, j with
  | 0, 0 => rfl
  | 0, 1 => simp at this
  | 1, 0 => simp at this
  | 1, 1 => rfl
  | 0, j + 2 => simp at this
  | 1, j + 2 => simp at this
  | i + 2, 0 => simp at this
  | i + 2, 1 => simp at this
  | i + 2, j + 2 => simpa using this
/-- an append to a slice of one's own leaves the locals -/
theorem St.app {el : TypeId} {n : Nat} {h0 h h' : Heap} {a : Option Addr} {l c : Nat} {rows : List (List Value)} {L : List Loc} (s : St h0 h L) (o : OwnR el n h0 h a l c rows) (hL : ∀ (i : Nat) (x : Loc), L[i]? = some x → x.t ≠ el) (k : Keep (fun k => a = some ⟨k, 0, none⟩ ∨ h.size ≤ k) h h') : St h0 h' L :=
  s.keep k (fun k hk hs => by
    rcases hs with hs | hs
    · have := (o.lt k hs).1; omega
    · have := s.ext.size; omega) (fun i x hx hs => by
    rcases hs with hs | hs
    · exact o.loc_ne s hx (hL i x hx) _ hs rfl
    · have := s.lt hx; omega)
end Go.Vc
namespace Go.Proofs.Ytelddmkdclhpoaa
open Go.Vc Go.Sha Go.Trail Go.Packs
set_option linter.unusedVariables false

/-- messages that may be read -/
def MsgsAt (h : Heap) (a : Option Addr) (l : Nat) : Prop := ∀ i, i < l → ∃ (b o : Nat) (m : MsgV) (e : Hdr) (es : List Hdr), a = some ⟨b, o, none⟩ ∧ b < h.size ∧ PacksAt h e.a e.l e.c m.packs es ∧ ∀ j v, (msgCells m e)[j]? = some v → Vc.cell h ⟨b, o + i * 6 + j, none⟩ = some v
/-- what a round keeps of the participant and of who was asked for -/
def Run (rt : Int) (k : Nat) (p : PartV) (asked : List Int) : Prop := goodP p ∧ p.root = rt ∧ p.done.length ≤ k ∧ asked.length ≤ k ∧ (p.staged ≠ 0 → p.staged ∈ asked)
def RI (h : Heap) (b5 : Nat) (rt : Int) (n : Nat) : Option Addr → Nat → Nat → Int → Heap → Prop := fun a l c x h' =>
  ∃ (k : Nat) (p : PartV) (d : Hdr) (asked : List Int), x = k ∧ k ≤ n ∧ k ≤ 60 ∧ Run rt k p asked ∧ St h h' [⟨b5, (partCells p d).toArray, 24⟩] ∧ OwnR 3 1 h h' d.a d.l d.c (nums p.done) ∧ OwnR 3 1 h h' a l c (nums asked) ∧ ∀ k, a = some ⟨k, 0, none⟩ → d.a ≠ some ⟨k, 0, none⟩
def RM (n : Nat) : Option Addr → Nat → Nat → Int → Heap → Nat := fun _ _ _ i _ => ((n : Int) - i).toNat
theorem nums_len {h0 h : Heap} {a : Option Addr} {l c : Nat} {ns : List Int} (o : OwnR 3 1 h0 h a l c (nums ns)) : l = ns.length := by have := o.len; simpa [nums] using this.symm

theorem runs_end {h h1 : Heap} {b5 n k : Nat} {rt : Int} {p : PartV} {d : Hdr} {asked : List Int} {a : Option Addr} {l c : Nat} {a1 : Option Addr} {l1 c1 : Nat} {R : Value → Heap → Prop} (hk : k < n) (hk6 : k < 60) (hn : n < 9223372036854775808) (hr : Run rt (k + 1) p asked)
    (s : St h h1 [⟨b5, (partCells p d).toArray, 24⟩]) (od : OwnR 3 1 h h1 d.a d.l d.c (nums p.done)) (oa : OwnR 3 1 h h1 a l c (nums asked)) :
    F7_k13 (RI h b5 rt n) (RM n) ((n : Int) - (k : Int)).toNat rt a1 l1 c1 (at0 b5) a l c (k : Int) h1 R := by
  have hd := nums_len od
  have hdl := hr.2.2.1
  have tp := tickV_plain p
  have tl := tickV_len p
  have pt := play_tick p
  unfold F7_k13
  refine ⟨Ext, Ext.refl, fun _ _ _ x y => x.trans y, p.root, p.staged, d.a, d.l, d.c, s.quietAgg 0 rfl Try.underlying24 rfl (by show 3 = Try.prog.cellsOf 24; rw [size24]), p.root, p.staged, d.a, d.l, d.c, s.quietAgg 0 rfl Try.underlying24 rfl (by show 3 = Try.prog.cellsOf 24; rw [size24]), HEnt.use (tick_ok p d h1 od.rows (by omega)) ?_⟩
  rintro _ h2 ⟨t2, x2⟩
  have r2 := deeds_read t2 (fun x hx => by rw [tp x hx]; simp)
  obtain ⟨a2, c2, rfl⟩ := deeds_len t2
  refine ⟨a2, _, c2, rfl, x2, HEnt.use (play_ok p d _ (tickV p) h2 (NumsAt.grow od.rows x2) r2 (by omega) (by omega)) ?_⟩
  rintro _ h3 ⟨f, rfl, o3, x3⟩
  rw [pt] at o3 ⊢
  refine ⟨p.root, p.staged, f.a, f.l, f.c, rfl, x3, ?_⟩
  have s3 := (s.grow x2).grow x3
  refine s3.storeAll 0 rfl rfl rfl (vs := (partCells p f).toArray) (by simp [partCells, one]) fun h4 s4 on4 => ⟨trivial, ?_⟩
  simp only [List.set_cons_zero] at s4
  have lo5 := (s3.at_ 0 _ rfl).1
  simp only at lo5
  have o4 : OwnR 3 1 h h4 f.a f.l f.c (nums p.done) := (o3.since (s.ext.trans x2)).keep (S := (· = b5)) (on4.keep rfl) (fun k hk hs => by omega) (o3.loc_ne s3 (i := 0) rfl (Nat.ne_of_beq_eq_false rfl))
  have oa3 := (oa.grow x2).grow x3
  have oa4 : OwnR 3 1 h h4 a l c (nums asked) := oa3.keep (S := (· = b5)) (on4.keep rfl) (fun k hk hs => by omega) (oa3.loc_ne s3 (i := 0) rfl (Nat.ne_of_beq_eq_false rfl))
  unfold F7_k14
  rw [wrap_succ k _ hk hn]
  refine ⟨⟨k + 1, p, f, asked, rfl, by omega, by omega, hr, s4, o4, oa4, fun j ej ef => ?_⟩, less_succ _ _ hk⟩
  have := (oa.lt j ej).2
  have := (o3.lt j ef).1
  have := x2.size
  omega

/-- the checks behind a taken message -/
theorem runs_checks {h h1 : Heap} {b5 b9 b10 n k : Nat} {rt : Int} {p q : PartV} {d f : Hdr} {m : MsgV} {e : Hdr} {asked : List Int} {a : Option Addr} {l c : Nat} {a1 : Option Addr} {l1 c1 : Nat} (hk : k < n) (hk6 : k < 60) (hn : n < 9223372036854775808) (hr : Run rt k p asked) (hdl : d.l = p.done.length)
    (hg : goodP q) (hroot : q.root = p.root)
    (cs : (q = p) ∨ (m.kind = 1 ∧ p.staged = 0 ∧ q.staged = m.txn ∧ q.done = p.done) ∨ (m.kind = 3 ∧ p.staged = m.txn ∧ q.staged = 0 ∧ q.done = p.done ++ [m.txn]) ∨ (q.staged = 0 ∧ q.done = p.done))
    (s : St h h1 [⟨b10, (partCells p d).toArray, 24⟩, ⟨b9, (msgCells m e).toArray, 27⟩, ⟨b5, (partCells q f).toArray, 24⟩]) (od : OwnR 3 1 h h1 f.a f.l f.c (nums q.done)) (oa : OwnR 3 1 h h1 a l c (nums asked)) (ap : ∀ k, a = some ⟨k, 0, none⟩ → f.a ≠ some ⟨k, 0, none⟩) :
    F7_k6 (RI h b5 rt n) (RM n) ((n : Int) - (k : Int)).toNat rt a1 l1 c1 (at0 b5) a l c (k : Int) (at0 b9) (at0 b10) h1 fun v h' => v = .bool true ∧ Ext h h' := by
  have hf := nums_len od
  have hl := nums_len oa
  obtain ⟨gp, hrt, hpl, hal, hst⟩ := hr
  have hql : q.done.length ≤ k + 1 ∧ p.done.length ≤ q.done.length ∧ (p.done.length < q.done.length → p.staged = m.txn ∧ m.kind = 3) := by
    rcases cs with e | ⟨_, _, _, e⟩ | ⟨k3, st, _, e⟩ | ⟨_, e⟩
    · subst e; exact ⟨by omega, by omega, by omega⟩
    · rw [e]; exact ⟨by omega, by omega, by omega⟩
    · rw [e]; simp only [List.length_append, List.length_cons, List.length_nil]; exact ⟨by omega, by omega, fun _ => ⟨st, k3⟩⟩
    · rw [e]; exact ⟨by omega, by omega, by omega⟩
  have k8 : ∀ (asked' : List Int) (a : Option Addr) (l c : Nat) (h2 : Heap), asked'.length ≤ k + 1 → (q.staged ≠ 0 → q.staged ∈ asked') → St h h2 [⟨b10, (partCells p d).toArray, 24⟩, ⟨b9, (msgCells m e).toArray, 27⟩, ⟨b5, (partCells q f).toArray, 24⟩] → OwnR 3 1 h h2 f.a f.l f.c (nums q.done) → OwnR 3 1 h h2 a l c (nums asked') →
      F7_k8 (RI h b5 rt n) (RM n) ((n : Int) - (k : Int)).toNat rt a1 l1 c1 (at0 b5) a l c (k : Int) (at0 b9) (at0 b10) h2 fun v h' => v = .bool true ∧ Ext h h' := by
    intro asked' a l c h2 hal' hst' s2 od2 oa2
    have hl := nums_len oa2
    have k9 : ∀ h3, St h h3 [⟨b10, (partCells p d).toArray, 24⟩, ⟨b9, (msgCells m e).toArray, 27⟩, ⟨b5, (partCells q f).toArray, 24⟩] → OwnR 3 1 h h3 f.a f.l f.c (nums q.done) → OwnR 3 1 h h3 a l c (nums asked') → F7_k9 (RI h b5 rt n) (RM n) ((n : Int) - (k : Int)).toNat rt a1 l1 c1 (at0 b5) a l c (k : Int) (at0 b9) (at0 b10) false h3 fun v h' => v = .bool true ∧ Ext h h' := by
      intro h3 s3 od3 oa3
      unfold F7_k9
      refine br_of (fun g => by cases g) (fun _ => ?_)
      unfold F7_k10
      have cq := s3.cell 2 rfl (k := 2) (v := .slice f.a f.l f.c) rfl
      have cp := s3.cell 0 rfl (k := 2) (v := .slice d.a d.l d.c) rfl
      have k12 : F7_k12 (RI h b5 rt n) (RM n) ((n : Int) - (k : Int)).toNat (fun h' => h' = h3) rt a1 l1 c1 (at0 b5) a l c (k : Int) (decide (((f.l : Int) : Int) < (d.l : Int))) h3 fun v h' => v = .bool true ∧ Ext h h' := by
        unfold F7_k12
        refine br_of (fun g => ?_) (fun _ => rfl)
        have : (f.l : Int) < (d.l : Int) := by simpa using g
        omega
      refine ⟨fun h' => h' = h3, ⟨f.a, f.l, f.c, cq, d.a, d.l, d.c, cp, br_of (fun g => ?_) (fun _ => ⟨f.a, f.l, f.c, cq, d.a, d.l, d.c, cp, k12⟩)⟩, ?_⟩
      · have g : (f.l : Int) > (d.l : Int) := by simpa using g
        obtain ⟨e1, e2⟩ := hql.2.2 (by omega)
        refine ⟨p.staged, s3.cell 0 rfl rfl, m.txn, s3.cell 1 rfl rfl, br_of (fun g => by simp [e1] at g) (fun _ => ⟨m.kind, s3.cell 1 rfl rfl, br_of (fun g => by simp [e2] at g) (fun _ => ⟨f.a, f.l, f.c, cq, d.a, d.l, d.c, cp, k12⟩)⟩)⟩
      · rintro _ rfl
        exact runs_end hk hk6 hn ⟨hg, hroot.trans hrt, hql.1, hal', hst'⟩ s3.tail.tail od3 oa3
    unfold F7_k8
    refine ⟨q.root, q.staged, f.a, f.l, f.c, s2.cell 2 rfl rfl, s2.cell 2 rfl rfl, s2.cell 2 rfl rfl, rfl, HEnt.use (good_ok q f h2 od2.rows (by omega)) ?_⟩
    rintro _ h3 ⟨rfl, x3⟩
    have s3 := s2.grow x3
    refine ⟨_, rfl, br_of (fun g => by rw [decide_eq_true hg] at g; cases g) (fun _ => ⟨q.staged, s3.cell 2 rfl rfl, br_of (fun g => ?_) (fun _ => k9 _ s3 (od2.grow x3) (oa2.grow x3))⟩)⟩
    have g : q.staged ≠ 0 := by simpa using g
    refine ⟨q.staged, s3.cell 2 rfl rfl, HEnt.use (in_ok a l c q.staged asked' h3 (oa2.grow x3).rows (by omega)) ?_⟩
    rintro _ h4 ⟨rfl, rfl⟩
    refine ⟨_, rfl, ?_⟩
    rw [decide_eq_true (hst' g)]
    exact k9 _ s3 (od2.grow x3) (oa2.grow x3)
  have nokeep : ∀ bb, (bb = true → m.kind = 1 ∧ q.staged = m.txn) → (bb = false → ¬ (m.kind = 1 ∧ q.staged = m.txn)) → F7_k7 (RI h b5 rt n) (RM n) ((n : Int) - (k : Int)).toNat rt a1 l1 c1 (at0 b5) a l c (k : Int) (at0 b9) (at0 b10) bb h1 fun v h' => v = .bool true ∧ Ext h h' := by
    intro bb hb1 hb0
    unfold F7_k7
    refine br_of (fun g => ?_) (fun g => ?_)
    · obtain ⟨h1k, h1s⟩ := hb1 g
      refine ⟨m.txn, s.cell 1 rfl rfl, by omega, newK_intro fun h12 n12 x12 _ => ?_⟩
      have s12 := s.grow x12
      have oa12 := oa.grow x12
      refine appK_R (new := [[Value.int .i64 m.txn]]) size3 oa12 (num1 m.txn h12 _ n12) rfl (by simp) (by simp [one]) (by rw [bytes3, hl]; omega) z3 fun a13 c13 h13 o13 k13 _ => ?_
      have s13 := s12.app oa12 (fun i x hx => by
        match i, hx with
        | 0, hx => simp at hx; subst hx; exact Nat.ne_of_beq_eq_false rfl
        | 1, hx => simp at hx; subst hx; exact Nat.ne_of_beq_eq_false rfl
        | 2, hx => simp at hx; subst hx; exact Nat.ne_of_beq_eq_false rfl
        | i + 3, hx => simp at hx) k13
      have od13 : OwnR 3 1 h h13 f.a f.l f.c (nums q.done) := (od.grow x12).keep k13 (fun j hj hs => by
        rcases hs with hs | hs
        · have := (oa12.lt j hs).1; omega
        · have := s12.ext.size; omega) (fun j ej hs => by
        rcases hs with hs | hs
        · exact ap j hs ej
        · have := ((od.grow x12).lt j ej).2; omega)
      refine k8 (asked ++ [m.txn]) _ _ _ _ (by simp; omega) (fun _ => by rw [h1s]; simp) s13 od13 ?_
      have : nums (asked ++ [m.txn]) = nums asked ++ [[Value.int .i64 m.txn]] := by simp [nums]
      rw [this]; exact o13
    · have hno := hb0 g
      refine k8 asked _ _ _ _ (by omega) (fun hne => ?_) s od oa
      rcases cs with e | ⟨k1, _, e, _⟩ | ⟨_, _, e, _⟩ | ⟨e, _⟩
      · rw [e] at hne ⊢; exact hst hne
      · exact absurd ⟨k1, e⟩ hno
      · exact absurd e hne
      · exact absurd e hne
  unfold F7_k6
  refine ⟨m.kind, s.cell 1 rfl rfl, br_of (fun g => ?_) (fun g => ?_)⟩
  · have g : m.kind = 1 := by simpa using g
    refine ⟨q.staged, s.cell 2 rfl rfl, m.txn, s.cell 1 rfl rfl, nokeep _ (fun g2 => ⟨g, by simpa using g2⟩) (fun g2 h => by simp [h.2] at g2)⟩
  · have g : ¬ m.kind = 1 := by simpa using g
    exact nokeep _ (fun g => by cases g) (fun _ h => g h.1)

/-- a message taken and played -/
theorem runs_take {h h1 : Heap} {b5 b9 n k : Nat} {rt : Int} {p : PartV} {d : Hdr} {m : MsgV} {e : Hdr} {es : List Hdr} {asked : List Int} {a : Option Addr} {l c : Nat} {a1 : Option Addr} {l1 c1 : Nat} (hk : k < n) (hk6 : k < 60) (hn : n < 9223372036854775808) (hr : Run rt k p asked)
    (ok : ∀ p ∈ m.packs, p.ok ∧ ∀ r ∈ p.refs, r.ok)
    (s : St h h1 [⟨b9, (msgCells (fewM m) e).toArray, 27⟩, ⟨b5, (partCells p d).toArray, 24⟩]) (od : OwnR 3 1 h h1 d.a d.l d.c (nums p.done)) (oa : OwnR 3 1 h h1 a l c (nums asked)) (t : TwinAt h h1 e (fewM m).packs es) :
    F7_k4 (RI h b5 rt n) (RM n) ((n : Int) - (k : Int)).toNat rt a1 l1 c1 (at0 b5) a l c (k : Int) (at0 b9) h1 fun v h' => v = .bool true ∧ Ext h h' := by
  have hd := nums_len od
  have hdl := hr.2.2.1
  have ll := few_len t
  unfold F7_k4
  refine s.store 0 rfl (k := 2) (Nat.le_of_ble_eq_true rfl) rfl fun h2 s2 on2 => ?_
  simp only [List.set_cons_zero] at s2
  refine s2.store 0 rfl (k := 1) (Nat.le_of_ble_eq_true rfl) rfl fun h3 s3 on3 => ?_
  simp only [List.set_cons_zero] at s3
  have s3 : St h h3 [⟨b9, (msgCells { fewM m with to := rt, from_ := 0 } e).toArray, 27⟩, ⟨b5, (partCells p d).toArray, 24⟩] := s3
  have lo9 := (s.at_ 0 _ rfl).1
  simp only at lo9
  have K3 : Keep (· = b9) h1 h3 := (on2.keep (S := (· = b9)) rfl).trans (on3.keep rfl)
  have od3 : OwnR 3 1 h h3 d.a d.l d.c (nums p.done) := od.keep K3 (fun k hk hs => by omega) (od.loc_ne s (i := 0) rfl (Nat.ne_of_beq_eq_false rfl))
  have oa3 : OwnR 3 1 h h3 a l c (nums asked) := oa.keep K3 (fun k hk hs => by omega) (oa.loc_ne s (i := 0) rfl (Nat.ne_of_beq_eq_false rfl))
  have t3 : TwinAt h h3 e (fewM m).packs es := t.keep K3 (fun k hk hs => by omega) (t.rows.loc_ne s (i := 0) rfl (Nat.ne_of_beq_eq_false rfl)) (fun i x hx => by obtain ⟨_, o⟩ := t.ref hx; exact o.loc_ne s (i := 0) rfl (Nat.ne_of_beq_eq_false rfl))
  generalize hm : ({ fewM m with to := rt, from_ := 0 } : MsgV) = m3 at *
  have hpk : m3.packs = (fewM m).packs := by rw [← hm]
  refine ⟨p.root, p.staged, d.a, d.l, d.c, s3.cell 1 rfl rfl, s3.cell 1 rfl rfl, s3.cell 1 rfl rfl, rfl, s3.new fun b10 h4 s4 x4 hb10 => ?_⟩
  refine s4.storeAll 0 rfl rfl zeroC24 (vs := (partCells p d).toArray) (by simp [partCells, one]) fun h5 s5 on5 => ?_
  simp only [List.set_cons_zero] at s5
  have lo10 := (s4.at_ 0 _ rfl).1
  simp only at lo10
  have od5 : OwnR 3 1 h h5 d.a d.l d.c (nums p.done) := (od3.grow x4).keep (S := (· = b10)) (on5.keep rfl) (fun k hk hs => by omega) ((od3.grow x4).loc_ne s4 (i := 0) rfl (Nat.ne_of_beq_eq_false rfl))
  have oa5 : OwnR 3 1 h h5 a l c (nums asked) := (oa3.grow x4).keep (S := (· = b10)) (on5.keep rfl) (fun k hk hs => by omega) ((oa3.grow x4).loc_ne s4 (i := 0) rfl (Nat.ne_of_beq_eq_false rfl))
  have t5 : TwinAt h h5 e (fewM m).packs es := (t3.grow x4).keep (S := (· = b10)) (on5.keep rfl) (fun k hk hs => by omega) ((t3.grow x4).rows.loc_ne s4 (i := 0) rfl (Nat.ne_of_beq_eq_false rfl)) (fun i x hx => by obtain ⟨_, o⟩ := (t3.grow x4).ref hx; exact o.loc_ne s4 (i := 0) rfl (Nat.ne_of_beq_eq_false rfl))
  have p5 : PacksAt h5 e.a e.l e.c m3.packs es := by rw [hpk]; exact t5.packs (few_oks ok)
  obtain ⟨q, eq, gq, rq, cq⟩ := take_does p m3 hr.1
  have tl := takeV_len p m3
  have r24 := s5.quietAgg (P := Try.prog) 2 rfl Try.underlying24 rfl (by show 3 = Try.prog.cellsOf 24; rw [size24])
  have r27 := s5.quietAgg (P := Try.prog) 1 rfl Try.underlying27 rfl (by show 6 = Try.prog.cellsOf 27; rw [size27])
  refine ⟨fun h' => ∃ f : Hdr, St h h' [⟨b10, (partCells p d).toArray, 24⟩, ⟨b9, (msgCells m3 e).toArray, 27⟩, ⟨b5, (partCells q f).toArray, 24⟩] ∧ OwnR 3 1 h h' f.a f.l f.c (nums q.done) ∧ OwnR 3 1 h h' a l c (nums asked) ∧ ∀ k, a = some ⟨k, 0, none⟩ → f.a ≠ some ⟨k, 0, none⟩, ?_, ?_⟩
  · refine ⟨Ext, Ext.refl, fun _ _ _ x y => x.trans y, p.root, p.staged, d.a, d.l, d.c, r24, p.root, p.staged, d.a, d.l, d.c, r24, m3.kind, m3.from_, m3.to, m3.txn, m3.yes, e.a, e.l, e.c, r27, ?_⟩
    refine HEnt.use (take_ok p d m3 e es h5 od5.rows (by omega) p5 (by omega) (fun x hx => by have := ll.2 x hx; omega)) ?_
    rintro _ h6 ⟨t6, x6⟩
    have r6 := deeds_read t6 (by
      intro x hx
      rcases takeV_packs p m3 x hx with e | e
      · rw [e]; simp
      · rw [e, hpk]
        refine ⟨by simp [fewM, fewPacks]; omega, fun p hp => ⟨few_oks ok p hp, ?_⟩⟩
        obtain ⟨q, _, rfl⟩ := List.mem_map.1 hp
        simp [fewPack]; omega)
    obtain ⟨a6, c6, rfl⟩ := deeds_len t6
    refine ⟨a6, _, c6, rfl, x6, HEnt.use (play_ok p d _ (takeV p m3) h6 (NumsAt.grow od5.rows x6) r6 (by omega) (by omega)) ?_⟩
    rintro _ h7 ⟨f, rfl, o7, x7⟩
    rw [eq] at o7 ⊢
    refine ⟨q.root, q.staged, f.a, f.l, f.c, rfl, x7, ?_⟩
    have s7 := (s5.grow x6).grow x7
    refine s7.storeAll 2 rfl rfl rfl (vs := (partCells q f).toArray) (by simp [partCells, one]) fun h8 s8 on8 => ⟨trivial, ?_⟩
    simp only [List.set_cons_zero, List.set_cons_succ] at s8
    have lo5 := (s7.at_ 2 _ rfl).1
    simp only at lo5
    have oa7 := (oa5.grow x6).grow x7
    refine ⟨f, s8, (o7.since (s5.ext.trans x6)).keep (S := (· = b5)) (on8.keep rfl) (fun k hk hs => by omega) (o7.loc_ne s7 (i := 2) rfl (Nat.ne_of_beq_eq_false rfl)), oa7.keep (S := (· = b5)) (on8.keep rfl) (fun k hk hs => by omega) (oa7.loc_ne s7 (i := 2) rfl (Nat.ne_of_beq_eq_false rfl)), fun j ej ef => ?_⟩
    have := (oa5.lt j ej).2
    have := (o7.lt j ef).1
    have := x6.size
    omega
  · rintro h8 ⟨f, s8, od8, oa8, ap⟩
    exact runs_checks hk hk6 hn hr hd gq rq cq s8 od8 oa8 ap

theorem runs_few {h h1 : Heap} {b5 n k : Nat} {rt : Int} {p : PartV} {d : Hdr} {asked : List Int} {a : Option Addr} {l c : Nat} {a1 : Option Addr} {c1 : Nat} (hk : k < n) (hk6 : k < 60) (hn : n < 9223372036854775808) (hr : Run rt k p asked) (hm : MsgsAt h a1 n)
    (s : St h h1 [⟨b5, (partCells p d).toArray, 24⟩]) (od : OwnR 3 1 h h1 d.a d.l d.c (nums p.done)) (oa : OwnR 3 1 h h1 a l c (nums asked)) :
    F7_k3 (RI h b5 rt n) (RM n) ((n : Int) - (k : Int)).toNat rt a1 n c1 (at0 b5) a l c (k : Int) h1 fun v h' => v = .bool true ∧ Ext h h' := by
  obtain ⟨bm, om, m, e, es, rfl, hbm, hp, hc⟩ := hm k hk
  have oks := PacksAt.oks hp
  have s0 := (s.at_ 0 _ rfl).2
  simp only at s0
  have z0 := s.ext.size
  have hcells : ∀ j v, (msgCells m e)[j]? = some v → Vc.cell h1 ⟨bm, om + k * 6 + j, none⟩ = some v := fun j v hv => s.ext.some (hc j v hv)
  -- what is done behind few and the two new ones
  have fin : ∀ (hC hR h3 : Heap) (b8 b9 : Nat) (d' e' : Hdr) (es' : List Hdr), Ext h1 hC → Ext hC hR → Ext hR h3 → (b8 < hC.size ∨ hR.size ≤ b8) → (b9 < hC.size ∨ hR.size ≤ b9) → h1.size ≤ b8 → h1.size ≤ b9 → St h h3 [⟨b9, zeroC Try.prog 27, 27⟩, ⟨b8, zeroC Try.prog 24, 24⟩, ⟨b5, (partCells p d).toArray, 24⟩] → TwinAt hC hR e' (fewM m).packs es' →
      storeK 3 h3 (at0 b8) (.agg (partCells (fewP p) d').toArray) fun h4 => Keep (h1.size ≤ ·) h3 h4 ∧ storeK 6 h4 (at0 b9) (.agg (msgCells (fewM m) e').toArray) fun h5 => Keep (h1.size ≤ ·) h4 h5 ∧ F7_k4 (RI h b5 rt n) (RM n) ((n : Int) - (k : Int)).toNat rt (some ⟨bm, om, none⟩) n c1 (at0 b5) a l c (k : Int) (at0 b9) h5 fun v h' => v = .bool true ∧ Ext h h' := by
    intro hC hR h3 b8 b9 d' e' es' xC xR x3 a8 a9 l8 l9 s3 t
    refine s3.storeAll 1 rfl rfl zeroC24 (vs := (partCells (fewP p) d').toArray) (by simp [partCells, one]) fun h4 s4 on4 => ⟨on4.keep l8, ?_⟩
    simp only [List.set_cons_zero, List.set_cons_succ] at s4
    refine s4.storeAll 0 rfl rfl zeroC27 (vs := (msgCells (fewM m) e').toArray) (by simp [msgCells, one]) fun h5 s5 on5 => ⟨on5.keep l9, ?_⟩
    simp only [List.set_cons_zero] at s5
    have K5 : Keep (fun k => k = b8 ∨ k = b9) h3 h5 := (on4.keep (S := fun k => k = b8 ∨ k = b9) (.inl rfl)).trans (on5.keep (S := fun k => k = b8 ∨ k = b9) (.inr rfl))
    have x13 := (xC.trans xR).trans x3
    have x15 : Ext h1 h5 := ⟨Nat.le_trans x13.size K5.size, fun j hj => (K5.block j (Nat.lt_of_lt_of_le hj x13.size) (fun hs => by omega)).trans (x13.block j hj)⟩
    have t3 : TwinAt h h3 e' (fewM m).packs es' := (TwinAt.since t (s.ext.trans xC)).grow x3
    have t5 : TwinAt h h5 e' (fewM m).packs es' := t3.keep K5 (fun k hk hs => by omega) (fun j ej hs => by have := t.rows.lt j ej; omega) (fun i x hx j ej hs => by obtain ⟨_, o⟩ := t.ref hx; have := o.lt j ej; omega)
    have s5' : St h h5 [⟨b9, (msgCells (fewM m) e').toArray, 27⟩, ⟨b5, (partCells p d).toArray, 24⟩] := s5.swap.tail
    exact runs_take hk hk6 hn hr oks s5' (od.grow x15) (oa.grow x15) t5
  have few := fun (h' : Heap) (x : Ext h1 h') => few_ok p d m e es h' (NumsAt.grow od.rows x) (hp.grow (s.ext.trans x))
  have lt5 := blk_lt s0
  unfold F7_k3
  refine ⟨Keep (h1.size ≤ ·), fun h => Keep.refl _ h, fun _ _ _ x y => x.trans y, p.root, p.staged, d.a, d.l, d.c, fun w hw => run_loadAgg (hw.blk s0 (by omega)) Try.underlying24 rfl (by show 3 = Try.prog.cellsOf 24; rw [size24]), ⟨bm, om, none⟩, rfl, by omega, by omega, m.kind, m.from_, m.to, m.txn, m.yes, e.a, e.l, e.c, fun w hw => ?_, ?_, ?_, ?_⟩
  · have hcw : CellsAt w.heap ⟨bm, om + k * 6, none⟩ (msgCells m e) := fun j v hv => by
      rw [add_mk]
      exact hw.cell (hcells j v hv) (by show bm < h1.size; omega)
    have hr := run_cells (P := Try.prog) hcw
    have h6 : (msgCells m e).length = Try.prog.cellsOf 27 := by show 6 = _; rw [size27]
    rw [h6] at hr
    rw [Int.toNat_natCast, add_mk]
    unfold loadVar
    simp [Sem.run_bind, run_isAgg_true Try.underlying27 rfl, run_size Try.underlying27, hr]
    rfl
  · refine HEnt.use (few h1 (Ext.refl _)) ?_
    rintro _ h2 ⟨d', e', es', rfl, _, t, x2⟩
    refine ⟨p.root, p.staged, d'.a, d'.l, d'.c, m.kind, m.from_, m.to, m.txn, m.yes, e'.a, e'.l, e'.c, rfl, x2.keep _, (s.grow x2).new fun b8 h3 s3 x3 l8 => ⟨x3.keep _, s3.new fun b9 h4 s4 x4 l9 => ⟨x4.keep _, ?_⟩⟩, (s.grow x2).new fun b9 h3 s3 x3 l9 => ⟨x3.keep _, s3.new fun b8 h4 s4 x4 l8 => ⟨x4.keep _, ?_⟩⟩⟩
    · have := x2.size; have := x3.size
      exact fin h1 h2 h4 b8 b9 d' e' es' (Ext.refl _) x2 (x3.trans x4) (.inr l8) (.inr (by omega)) (by omega) (by omega) s4 t
    · have := x2.size; have := x3.size
      exact fin h1 h2 h4 b8 b9 d' e' es' (Ext.refl _) x2 (x3.trans x4) (.inr (by omega)) (.inr l9) (by omega) (by omega) s4.swap t
  · refine s.new fun b8 h2 s2 x2 l8 => ⟨x2.keep _, HEnt.use (few h2 x2) ?_, s2.new fun b9 h3 s3 x3 l9 => ⟨x3.keep _, HEnt.use (few h3 (x2.trans x3)) ?_⟩⟩
    · rintro _ h3 ⟨d', e', es', rfl, _, t, x3⟩
      refine ⟨p.root, p.staged, d'.a, d'.l, d'.c, m.kind, m.from_, m.to, m.txn, m.yes, e'.a, e'.l, e'.c, rfl, x3.keep _, (s2.grow x3).new fun b9 h4 s4 x4 l9 => ⟨x4.keep _, ?_⟩⟩
      have lt8 := s2.lt (i := 0) rfl
      simp only at lt8
      have := x2.size; have := x3.size
      exact fin h2 h3 h4 b8 b9 d' e' es' x2 x3 x4 (.inl lt8) (.inr l9) l8 (by omega) s4 t
    · rintro _ h4 ⟨d', e', es', rfl, _, t, x4⟩
      refine ⟨p.root, p.staged, d'.a, d'.l, d'.c, m.kind, m.from_, m.to, m.txn, m.yes, e'.a, e'.l, e'.c, rfl, x4.keep _, ?_⟩
      have lt8 := s3.lt (i := 1) rfl
      have lt9 := s3.lt (i := 0) rfl
      simp only at lt8 lt9
      have := x2.size
      exact fin h3 h4 h4 b8 b9 d' e' es' (x2.trans x3) x4 (Ext.refl _) (.inl lt8) (.inl lt9) l8 (by omega) (s3.grow x4) t
  · refine s.new fun b9 h2 s2 x2 l9 => ⟨x2.keep _, HEnt.use (few h2 x2) ?_, s2.new fun b8 h3 s3 x3 l8 => ⟨x3.keep _, HEnt.use (few h3 (x2.trans x3)) ?_⟩⟩
    · rintro _ h3 ⟨d', e', es', rfl, _, t, x3⟩
      refine ⟨p.root, p.staged, d'.a, d'.l, d'.c, m.kind, m.from_, m.to, m.txn, m.yes, e'.a, e'.l, e'.c, rfl, x3.keep _, (s2.grow x3).new fun b8 h4 s4 x4 l8 => ⟨x4.keep _, ?_⟩⟩
      have lt9 := s2.lt (i := 0) rfl
      simp only at lt9
      have := x2.size; have := x3.size
      exact fin h2 h3 h4 b8 b9 d' e' es' x2 x3 x4 (.inr l8) (.inl lt9) (by omega) l9 s4.swap t
    · rintro _ h4 ⟨d', e', es', rfl, _, t, x4⟩
      refine ⟨p.root, p.staged, d'.a, d'.l, d'.c, m.kind, m.from_, m.to, m.txn, m.yes, e'.a, e'.l, e'.c, rfl, x4.keep _, ?_⟩
      have lt9 := s3.lt (i := 1) rfl
      have lt8 := s3.lt (i := 0) rfl
      simp only at lt8 lt9
      have := x2.size
      exact fin h3 h4 h4 b8 b9 d' e' es' (x2.trans x3) x4 (Ext.refl _) (.inl lt8) (.inl lt9) (by omega) l9 (s3.swap.grow x4) t

theorem root_of (x : Int) : rootP (IntKind.i64.wrap (1 + ((IntKind.i64.wrap ((x.tmod 6) + 6)).tmod 6))) := by
  have h1 := Int.tmod_lt_of_pos x (show (0 : Int) < 6 by omega)
  have h2 : -6 < x.tmod 6 := by
    have := Int.lt_tmod_of_pos x (show (0 : Int) < 6 by omega)
    omega
  rw [i64_lt (x.tmod 6 + 6) (by omega) (by omega)]
  have h3 : 0 ≤ x.tmod 6 + 6 := by omega
  generalize x.tmod 6 + 6 = y at *
  have h4 := Int.tmod_nonneg 6 h3
  have h5 := Int.tmod_lt_of_pos y (show (0 : Int) < 6 by omega)
  rw [i64_lt _ (by omega) (by omega)]
  unfold rootP
  omega

theorem runs_ok (x : Int) (a1 : Option Addr) (n c1 : Nat) (h : Heap) (hn : n < 9223372036854775808) (hm : MsgsAt h a1 n) :
    HEnt Try.prog 7 #[.int .i64 x, .slice a1 n c1] h fun v h' => v = .bool true ∧ Ext h h' := by
  refine F7_ent _ _ _ _ _ _ ?_
  have hrt := root_of x
  unfold F7
  generalize IntKind.i64.wrap (1 + ((IntKind.i64.wrap ((x.tmod 6) + 6)).tmod 6)) = rt at *
  refine ⟨by decide, by decide, (St.start h).new fun b5 h1 s1 _ _ => ?_⟩
  refine s1.storeAll 0 rfl rfl zeroC24 (vs := (partCells ⟨rt, 0, []⟩ nilH).toArray) (by simp [partCells, one]) fun h2 s2 on2 => ?_
  simp only [List.set_cons_zero] at s2
  refine ⟨RI h b5 rt n, RM n, ⟨0, ⟨rt, 0, []⟩, nilH, [], rfl, by omega, by omega, ⟨⟨hrt, by show (0 : Int) ≤ 0; omega, by show (0 : Int) ≤ 1099511627776; omega, by show List.Nodup []; simp, by show ∀ x ∈ ([] : List Int), _; simp⟩, rfl, by show 0 ≤ 0; omega, by show 0 ≤ 0; omega, fun e => absurd rfl e⟩, s2, OwnR.nil _ _ s2.ext, OwnR.nil _ _ s2.ext, fun k e => by cases e⟩, ?_⟩
  rintro h3 a l c _ ⟨k, p, d, asked, rfl, hk, hk6, hr, s3, od, oa, _⟩
  have out : ∀ h', Ext h h' → F7_k15 h' fun v h' => v = .bool true ∧ Ext h h' := by
    intro h' x
    unfold F7_k15
    refine HEnt.use (works_ok h') ?_
    rintro _ h4 ⟨rfl, x4⟩
    exact ⟨true, rfl, rfl, x.trans x4⟩
  unfold F7_b1
  refine br_of (fun g => ?_) (fun _ => ?_)
  · have g : k < n := by
      have : (k : Int) < (n : Int) := by simpa using g
      omega
    unfold F7_k2
    refine br_of (fun g6 => ?_) (fun _ => out _ s3.ext)
    have g6 : k < 60 := by
      have : (k : Int) < 60 := by simpa using g6
      omega
    exact runs_few g g6 hn hr hm s3 od oa
  · unfold F7_k2
    exact br_of (fun g => by cases g) (fun _ => out _ s3.ext)

end Go.Proofs.Ytelddmkdclhpoaa
namespace Go.Proofs.Ytelddmkdclhpoaa
open Go.Vc Go.Sha Go.Trail Go.Packs Go.ChangeShapes Go.WideShapes Go.ChangeAt Go.RowKit
variable {H : Type} {enc : TypeId × Value → H} {W : World} {hd : Bool}
theorem open_msgcells {m : Nat} {r : List Value} {y : DataW H × List MemPlace} (h : DataW.trod enc Try.prog W 0 (fun _ => true) hd m 27 r = some y) : ∃ (m : MsgV) (e : Hdr) (es : List Hdr), r = msgCells m e ∧ PacksAt W.heap e.a e.l e.c m.packs es := by
  have hl := trod_len Try.underlying27 h
  rw [size27] at hl
  match r, hl with
  | [c0, c1, c2, c3, c4, c5], _ =>
    obtain ⟨_, _, h0⟩ := trod_at Try.underlying27 h 0 (t' := 3) (o := 0) rfl size3
    obtain ⟨_, _, h1⟩ := trod_at Try.underlying27 h 1 (t' := 3) (o := 1) rfl size3
    obtain ⟨_, _, h2⟩ := trod_at Try.underlying27 h 2 (t' := 3) (o := 2) rfl size3
    obtain ⟨_, _, h3⟩ := trod_at Try.underlying27 h 3 (t' := 3) (o := 3) rfl size3
    obtain ⟨_, _, h4⟩ := trod_at Try.underlying27 h 4 (t' := 4) (o := 4) rfl size4
    obtain ⟨_, _, h5⟩ := trod_at Try.underlying27 h 5 (t' := 25) (o := 5) rfl size25
    obtain ⟨z0, e0, _⟩ := trod_int Try.underlying3 h0
    obtain ⟨z1, e1, _⟩ := trod_int Try.underlying3 h1
    obtain ⟨z2, e2, _⟩ := trod_int Try.underlying3 h2
    obtain ⟨z3, e3, _⟩ := trod_int Try.underlying3 h3
    obtain ⟨b4, e4⟩ := trod_bool Try.underlying4 h4
    obtain ⟨a, l, c, ps, ds, e5, hp⟩ := open_packs h5
    simp at e0 e1 e2 e3 e4 e5
    subst e0; subst e1; subst e2; subst e3; subst e4; subst e5
    exact ⟨⟨z0, z1, z2, z3, b4, ps⟩, ⟨a, l, c⟩, ds, rfl, hp⟩
theorem open_msgs {t : TypeId} (ht : Try.prog.underlying t = some (.slice 27)) {v : Value} {d : DataW H} {ps : List MemPlace} {b0 : Nat} {r : Reach} (hval : Value.okWide Try.prog W r b0 t v) (h : DataW.Trod enc Try.prog W 0 (fun _ => true) hd t v d ps) : ∃ (a : Option Addr) (l c : Nat), v = .slice a l c ∧ l < 9223372036854775808 ∧ MsgsAt W.heap a l := by
  obtain ⟨a, l, c, rfl⟩ := okWide_slice ht hval
  obtain ⟨fuel, h⟩ := h
  simp only [Value.cells] at h
  obtain ⟨a', l', c', rows, e, t, hl, hr⟩ := trod_tab ht size27 (by omega) h
  simp at e
  obtain ⟨rfl, rfl, rfl⟩ := e
  refine ⟨a, l, c, rfl, hl, fun i hi => ?_⟩
  have hlen := t.len
  have hx : rows[i]? = some (rows[i]'(by omega)) := List.getElem?_eq_getElem _
  generalize rows[i]'(by omega) = x at hx
  obtain ⟨_, _, hy⟩ := hr x (List.mem_of_getElem? hx)
  obtain ⟨m, e, es, rfl, hp⟩ := open_msgcells hy
  obtain ⟨b, o, ea, hb, hc⟩ := t.at_ (fun e => by rw [e] at hx; simp at hx)
  exact ⟨b, o, m, e, es, ea, hb, hp, fun j v hv => hc i _ hx j v hv⟩
end Go.Proofs.Ytelddmkdclhpoaa
