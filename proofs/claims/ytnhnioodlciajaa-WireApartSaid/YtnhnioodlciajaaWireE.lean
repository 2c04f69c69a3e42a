/- Chapter 16: what the two Checks of a message compute. -/
import Derived.Test.YtnhnioodlciajaaWireD
namespace Go.Proofs.Ytnhnioodlciajaa
open Go.Vc Go.Sha Go.Trail Go.Packs
set_option linter.unusedVariables false

/-- a message, as a value -/
def msgCells (m : MsgV) (d : Hdr) : List Value := [.int .i64 m.kind, .int .i64 m.from_, .int .i64 m.to, .int .i64 m.txn, .bool m.yes, .slice d.a d.l d.c]
def bad1 (m : MsgV) : Prop := m.kind < 1 ∨ m.kind > 6
def bad2 (m : MsgV) : Prop := ¬ goesP m.kind m.from_ m.to ∨ m.txn < 1 ∨ m.txn > 1099511627776
def bad3 (m : MsgV) : Prop := (m.yes = true ∧ m.kind ≠ 2) ∨ (m.packs ≠ [] ∧ m.kind ≠ 1)
theorem msgC_1 {m : MsgV} (h : bad1 m) : msgC m = 13 := by unfold msgC; exact if_pos h
theorem msgC_2 {m : MsgV} (h1 : ¬ bad1 m) (h : bad2 m) : msgC m = 2 := by unfold msgC; exact (if_neg h1).trans (if_pos h)
theorem msgC_3 {m : MsgV} (h1 : ¬ bad1 m) (h2 : ¬ bad2 m) (h : bad3 m) : msgC m = 5 := by unfold msgC; exact (if_neg h1).trans ((if_neg h2).trans (if_pos h))
theorem msgC_4 {m : MsgV} (h1 : ¬ bad1 m) (h2 : ¬ bad2 m) (h3 : ¬ bad3 m) : msgC m = packsC [] 0 m.packs := by unfold msgC; exact (if_neg h1).trans ((if_neg h2).trans (if_neg h3))

theorem check_ok (m : MsgV) (d : Hdr) (ds : List Hdr) (h : Heap) (hp : PacksAt h d.a d.l d.c m.packs ds) (hl : d.l < 9223372036854775808) :
    HEnt Try.prog 20 #[.agg (msgCells m d).toArray] h fun v h' => v = .int .i64 (msgC m) ∧ Ext h h' := by
  refine F20_ent _ _ _ _ _ _ _ _ _ _ ?_
  have hlen := hp.length
  have hne : m.packs ≠ [] ↔ ((d.l : Int) > 0) := by
    rw [← hlen]
    constructor
    · intro e; have := List.length_pos_iff.2 e; omega
    · intro e e2; rw [e2] at e; simp at e
  unfold F20
  refine (St.start h).new fun b h1 s1 x1 _ => ?_
  have k4 : ¬ bad1 m → ¬ bad2 m → ¬ bad3 m → ∀ h', St h h' [⟨b, (msgCells m d).toArray, 24⟩] → F20_k4 (at0 b) h' fun v h' => v = .int .i64 (msgC m) ∧ Ext h h' := by
    intro n1 n2 n3 h' s
    unfold F20_k4
    refine ⟨d.a, d.l, d.c, s.cell 0 rfl rfl, HEnt.use (packs_ok d.a d.l d.c m.packs ds h' (hp.grow s.ext) hl) ?_⟩
    rintro _ h2 ⟨rfl, x2⟩
    exact ⟨_, rfl, by rw [msgC_4 n1 n2 n3], s.ext.trans x2⟩
  have k3 : ¬ bad1 m → ¬ bad2 m → ∀ bb h', St h h' [⟨b, (msgCells m d).toArray, 24⟩] → (bb = true ↔ bad3 m) → F20_k3 (at0 b) bb h' fun v h' => v = .int .i64 (msgC m) ∧ Ext h h' := by
    intro n1 n2 bb h' s hb
    unfold F20_k3
    exact br_of (fun e => ⟨by rw [msgC_3 n1 n2 (hb.1 e)]; rfl, s.ext⟩) (fun e => k4 n1 n2 (fun h3 => by rw [hb.2 h3] at e; cases e) h' s)
  have k2 : ¬ bad1 m → ∀ bb h', St h h' [⟨b, (msgCells m d).toArray, 24⟩] → (bb = true ↔ bad2 m) → F20_k2 (at0 b) bb h' fun v h' => v = .int .i64 (msgC m) ∧ Ext h h' := by
    intro n1 bb h' s hb
    unfold F20_k2
    refine br_of (fun e => ⟨by rw [msgC_2 n1 (hb.1 e)]; rfl, s.ext⟩) (fun e => ?_)
    have n2 : ¬ bad2 m := fun h2 => by rw [hb.2 h2] at e; cases e
    have tail : ¬ (m.yes = true ∧ m.kind ≠ 2) → ∃ a42 : Option Addr, ∃ l42 : Nat, ∃ c42 : Nat, Vc.cell h' ((at0 b).add 5) = some (Value.slice a42 l42 c42) ∧ br (decide (((l42 : Int) : Int) > 0)) (∃ x47 : Int, Vc.cell h' ((at0 b).add 0) = some (Value.int .i64 x47) ∧ F20_k3 (at0 b) ((x47 : Int) != 1) h' fun v h' => v = .int .i64 (msgC m) ∧ Ext h h') (F20_k3 (at0 b) false h' fun v h' => v = .int .i64 (msgC m) ∧ Ext h h') := by
      intro hy
      refine ⟨d.a, d.l, d.c, s.cell 0 rfl rfl, br_of (fun e => ⟨m.kind, s.cell 0 rfl rfl, k3 n1 n2 _ _ s ?_⟩) (fun e => k3 n1 n2 _ _ s ?_)⟩
      · have := hne.2 (of_decide_eq_true e)
        simp only [bne_iff_ne, ne_eq, bad3]
        exact ⟨fun h => .inr ⟨this, h⟩, fun h => (h.resolve_left hy).2⟩
      · have := of_decide_eq_false e
        simp only [Bool.false_eq_true, false_iff, bad3]
        exact fun h => (h.resolve_left hy).1 |> fun h => this (hne.1 h)
    refine ⟨m.yes, s.cell 0 rfl rfl, br_of (fun e => ⟨m.kind, s.cell 0 rfl rfl, br_of (fun e2 => k3 n1 n2 _ _ s ?_) (fun e2 => tail fun h => ?_)⟩) (fun e => tail fun h => ?_)⟩
    · have : m.kind ≠ 2 := by simpa using e2
      exact ⟨fun _ => .inl ⟨e, this⟩, fun _ => rfl⟩
    · have : m.kind = 2 := by simpa using e2
      exact h.2 this
    · rw [e] at h; cases h.1
  have k1 : ∀ bb h', St h h' [⟨b, (msgCells m d).toArray, 24⟩] → (bb = true ↔ bad1 m) → F20_k1 (at0 b) bb h' fun v h' => v = .int .i64 (msgC m) ∧ Ext h h' := by
    intro bb h' s hb
    unfold F20_k1
    refine br_of (fun e => ⟨by rw [msgC_1 (hb.1 e)]; rfl, s.ext⟩) (fun e => ?_)
    have n1 : ¬ bad1 m := fun h2 => by rw [hb.2 h2] at e; cases e
    refine ⟨m.from_, s.cell 0 rfl rfl, m.to, s.cell 0 rfl rfl, m.kind, s.cell 0 rfl rfl, HEnt.use (goes_ok m.from_ m.to m.kind h') ?_⟩
    rintro _ h2 ⟨rfl, x2⟩
    have s2 := s.grow x2
    refine ⟨_, rfl, br_of (fun e => k2 n1 _ _ s2 ?_) (fun e => ⟨m.txn, s2.cell 0 rfl rfl, br_of (fun e2 => k2 n1 _ _ s2 ?_) (fun e2 => ⟨m.txn, s2.cell 0 rfl rfl, k2 n1 _ _ s2 ?_⟩)⟩)⟩
    · have : ¬ goesP m.kind m.from_ m.to := by simpa using e
      exact ⟨fun _ => .inl this, fun _ => rfl⟩
    · exact ⟨fun _ => .inr (.inl (of_decide_eq_true e2)), fun _ => rfl⟩
    · have h1 : goesP m.kind m.from_ m.to := by simpa using e
      have h2 := of_decide_eq_false e2
      rw [decide_eq_true_eq]
      exact ⟨fun h => .inr (.inr h), fun h => (h.resolve_left (fun g => g h1)).resolve_left h2⟩
  refine ⟨m.kind, s1.cell 0 rfl rfl, br_of (fun e => k1 _ _ s1 ?_) (fun e => ⟨m.kind, s1.cell 0 rfl rfl, k1 _ _ s1 ?_⟩)⟩
  · exact ⟨fun _ => .inl (of_decide_eq_true e), fun _ => rfl⟩
  · rw [decide_eq_true_eq]
    exact ⟨fun h => .inr h, fun h => h.resolve_left (of_decide_eq_false e)⟩

theorem refCheck_ok (m : MsgV) (d : Hdr) (ds : List Hdr) (h : Heap) (hp : PacksAt h d.a d.l d.c m.packs ds) (hl : d.l < 9223372036854775808) :
    HEnt Try.prog 21 #[.agg (msgCells m d).toArray] h fun v h' => v = .int .i64 (msgC m) ∧ Ext h h' := by
  refine F21_ent _ _ _ _ _ _ _ _ _ _ ?_
  have hlen := hp.length
  have hne : m.packs ≠ [] ↔ ((d.l : Int) > 0) := by
    rw [← hlen]
    constructor
    · intro e; have := List.length_pos_iff.2 e; omega
    · intro e e2; rw [e2] at e; simp at e
  unfold F21
  refine (St.start h).new fun b h1 s1 x1 _ => ?_
  have k7 : ¬ bad1 m → ¬ bad2 m → ¬ bad3 m → ∀ h', St h h' [⟨b, (msgCells m d).toArray, 24⟩] → F21_k7 (at0 b) h' fun v h' => v = .int .i64 (msgC m) ∧ Ext h h' := by
    intro n1 n2 n3 h' s
    unfold F21_k7
    refine ⟨d.a, d.l, d.c, s.cell 0 rfl rfl, HEnt.use (refPacks_ok d.a d.l d.c m.packs ds h' (hp.grow s.ext) hl) ?_⟩
    rintro _ h2 ⟨rfl, x2⟩
    exact ⟨_, rfl, by rw [msgC_4 n1 n2 n3], s.ext.trans x2⟩
  have k6 : ¬ bad1 m → ¬ bad2 m → ∀ bb h', St h h' [⟨b, (msgCells m d).toArray, 24⟩] → (bb = true ↔ bad3 m) → F21_k6 (at0 b) bb h' fun v h' => v = .int .i64 (msgC m) ∧ Ext h h' := by
    intro n1 n2 bb h' s hb
    unfold F21_k6
    exact br_of (fun e => ⟨by rw [msgC_3 n1 n2 (hb.1 e)]; rfl, s.ext⟩) (fun e => k7 n1 n2 (fun h3 => by rw [hb.2 h3] at e; cases e) h' s)
  have k4 : ¬ bad1 m → ∀ bb h', St h h' [⟨b, (msgCells m d).toArray, 24⟩] → (bb = true ↔ bad2 m) → F21_k4 (at0 b) bb h' fun v h' => v = .int .i64 (msgC m) ∧ Ext h h' := by
    intro n1 bb h' s hb
    unfold F21_k4
    refine br_of (fun e => ⟨by rw [msgC_2 n1 (hb.1 e)]; rfl, s.ext⟩) (fun e => ?_)
    have n2 : ¬ bad2 m := fun h2 => by rw [hb.2 h2] at e; cases e
    have tail : ¬ (m.yes = true ∧ m.kind ≠ 2) → ∃ a71 : Option Addr, ∃ l71 : Nat, ∃ c71 : Nat, Vc.cell h' ((at0 b).add 5) = some (Value.slice a71 l71 c71) ∧ br (decide (((l71 : Int) : Int) > 0)) (∃ x76 : Int, Vc.cell h' ((at0 b).add 0) = some (Value.int .i64 x76) ∧ F21_k6 (at0 b) ((x76 : Int) != 1) h' fun v h' => v = .int .i64 (msgC m) ∧ Ext h h') (F21_k6 (at0 b) false h' fun v h' => v = .int .i64 (msgC m) ∧ Ext h h') := by
      intro hy
      refine ⟨d.a, d.l, d.c, s.cell 0 rfl rfl, br_of (fun e => ⟨m.kind, s.cell 0 rfl rfl, k6 n1 n2 _ _ s ?_⟩) (fun e => k6 n1 n2 _ _ s ?_)⟩
      · have := hne.2 (of_decide_eq_true e)
        simp only [bne_iff_ne, ne_eq, bad3]
        exact ⟨fun h => .inr ⟨this, h⟩, fun h => (h.resolve_left hy).2⟩
      · have := of_decide_eq_false e
        simp only [Bool.false_eq_true, false_iff, bad3]
        exact fun h => (h.resolve_left hy).1 |> fun h => this (hne.1 h)
    unfold F21_k5
    refine ⟨m.yes, s.cell 0 rfl rfl, br_of (fun e => ⟨m.kind, s.cell 0 rfl rfl, br_of (fun e2 => k6 n1 n2 _ _ s ?_) (fun e2 => tail fun h => ?_)⟩) (fun e => tail fun h => ?_)⟩
    · have : m.kind ≠ 2 := by simpa using e2
      exact ⟨fun _ => .inl ⟨e, this⟩, fun _ => rfl⟩
    · have : m.kind = 2 := by simpa using e2
      exact h.2 this
    · rw [e] at h; cases h.1
  have txn : ¬ bad1 m → goesP m.kind m.from_ m.to → ∀ h', St h h' [⟨b, (msgCells m d).toArray, 24⟩] → ∃ x54 : Int, Vc.cell h' ((at0 b).add 3) = some (Value.int .i64 x54) ∧ br (decide ((x54 : Int) < 1)) (F21_k4 (at0 b) true h' fun v h' => v = .int .i64 (msgC m) ∧ Ext h h') (∃ x59 : Int, Vc.cell h' ((at0 b).add 3) = some (Value.int .i64 x59) ∧ F21_k4 (at0 b) (decide ((x59 : Int) > 1099511627776)) h' fun v h' => v = .int .i64 (msgC m) ∧ Ext h h') := by
    intro n1 hg h' s
    refine ⟨m.txn, s.cell 0 rfl rfl, br_of (fun e2 => k4 n1 _ _ s ?_) (fun e2 => ⟨m.txn, s.cell 0 rfl rfl, k4 n1 _ _ s ?_⟩)⟩
    · exact ⟨fun _ => .inr (.inl (of_decide_eq_true e2)), fun _ => rfl⟩
    · rw [decide_eq_true_eq]
      exact ⟨fun h => .inr (.inr h), fun h => (h.resolve_left (fun g => g hg)).resolve_left (of_decide_eq_false e2)⟩
  have yes2 : ∀ {p : Prop}, ¬ p → (p → False) := fun h => h
  have down : ¬ bad1 m → (m.kind = 1 ∨ m.kind = 3 ∨ m.kind = 4) → F21_k3 (at0 b) true h1 fun v h' => v = .int .i64 (msgC m) ∧ Ext h h' := by
    intro n1 hk
    have hg : goesP m.kind m.from_ m.to ↔ m.from_ = 0 ∧ rootP m.to := by unfold goesP; rw [if_pos hk]
    unfold F21_k3
    refine br_of (fun _ => ⟨m.from_, s1.cell 0 rfl rfl, br_of (fun e => k4 n1 _ _ s1 ?_) (fun e => ⟨m.to, s1.cell 0 rfl rfl, HEnt.use (refRoot_ok m.to h1) ?_⟩)⟩) (fun e => by cases e)
    · have : m.from_ ≠ 0 := by simpa using e
      exact ⟨fun _ => .inl fun g => this (hg.1 g).1, fun _ => rfl⟩
    · have h0 : m.from_ = 0 := by simpa using e
      rintro _ h2 ⟨rfl, rfl⟩
      refine ⟨_, rfl, br_of (fun e => k4 n1 _ _ s1 ?_) (fun e => br_of (fun e => by cases e) (fun _ => txn n1 (hg.2 ⟨h0, by simpa using e⟩) _ s1))⟩
      have : ¬ rootP m.to := by simpa using e
      exact ⟨fun _ => .inl fun g => this (hg.1 g).2, fun _ => rfl⟩
  have up : ¬ bad1 m → ¬ (m.kind = 1 ∨ m.kind = 3 ∨ m.kind = 4) → F21_k3 (at0 b) false h1 fun v h' => v = .int .i64 (msgC m) ∧ Ext h h' := by
    intro n1 hk
    have hg : goesP m.kind m.from_ m.to ↔ m.to = 0 ∧ rootP m.from_ := by unfold goesP; rw [if_neg hk]
    unfold F21_k3
    refine br_of (fun e => by cases e) (fun _ => br_of (fun _ => ⟨m.to, s1.cell 0 rfl rfl, br_of (fun e => k4 n1 _ _ s1 ?_) (fun e => ⟨m.from_, s1.cell 0 rfl rfl, HEnt.use (refRoot_ok m.from_ h1) ?_⟩)⟩) (fun e => by cases e))
    · have : m.to ≠ 0 := by simpa using e
      exact ⟨fun _ => .inl fun g => this (hg.1 g).1, fun _ => rfl⟩
    · have h0 : m.to = 0 := by simpa using e
      rintro _ h2 ⟨rfl, rfl⟩
      refine ⟨_, rfl, br_of (fun e => k4 n1 _ _ s1 ?_) (fun e => txn n1 (hg.2 ⟨h0, by simpa using e⟩) _ s1)⟩
      have : ¬ rootP m.from_ := by simpa using e
      exact ⟨fun _ => .inl fun g => this (hg.1 g).2, fun _ => rfl⟩
  have k1 : ∀ bb, (bb = true ↔ bad1 m) → F21_k1 (at0 b) bb h1 fun v h' => v = .int .i64 (msgC m) ∧ Ext h h' := by
    intro bb hb
    unfold F21_k1
    refine br_of (fun e => ⟨by rw [msgC_1 (hb.1 e)]; rfl, s1.ext⟩) (fun e => ?_)
    have n1 : ¬ bad1 m := fun h2 => by rw [hb.2 h2] at e; cases e
    unfold F21_k2
    refine ⟨m.kind, s1.cell 0 rfl rfl, br_of (fun e => down n1 (.inl (by simpa using e))) (fun e1 => ⟨m.kind, s1.cell 0 rfl rfl, br_of (fun e => down n1 (.inr (.inl (by simpa using e)))) (fun e2 => ⟨m.kind, s1.cell 0 rfl rfl, ?_⟩)⟩)⟩
    by_cases h4 : m.kind = 4
    · rw [show ((m.kind : Int) == 4) = true by simp [h4]]; exact down n1 (.inr (.inr h4))
    · rw [show ((m.kind : Int) == 4) = false by simp [h4]]
      refine up n1 fun e => ?_
      rcases e with e | e | e
      · simp [e] at e1
      · simp [e] at e2
      · exact h4 e
  refine ⟨m.kind, s1.cell 0 rfl rfl, br_of (fun e => k1 _ ?_) (fun e => ⟨m.kind, s1.cell 0 rfl rfl, k1 _ ?_⟩)⟩
  · exact ⟨fun _ => .inl (of_decide_eq_true e), fun _ => rfl⟩
  · rw [decide_eq_true_eq]
    exact ⟨fun h => .inr h, fun h => h.resolve_left (of_decide_eq_false e)⟩
end Go.Proofs.Ytnhnioodlciajaa
