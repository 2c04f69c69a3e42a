/- Chapter 16: participants: the two Goods, last, send, settle, list. -/
import Derived.Test.YtelddmkdclhpoaaPartF
namespace Go.Packs
open Go.Vc
structure PartV where
  root : Int
  staged : Int
  done : List Int
def partCells (p : PartV) (d : Hdr) : List Value := [.int .i64 p.root, .int .i64 p.staged, .slice d.a d.l d.c]
def goodD (s : Int) (l : List Int) : Prop := l.Nodup ∧ ∀ x ∈ l, 1 ≤ x ∧ x ≤ 1099511627776 ∧ x ≠ s
instance (s : Int) (l : List Int) : Decidable (goodD s l) := by unfold goodD; infer_instance
def goodP (p : PartV) : Prop := rootP p.root ∧ 0 ≤ p.staged ∧ p.staged ≤ 1099511627776 ∧ goodD p.staged p.done
instance (p : PartV) : Decidable (goodP p) := by unfold goodP; infer_instance
def lastN (l : List Int) : Int := l.getLast?.getD 0
theorem goodD_succ {s : Int} {l : List Int} {x : Int} : goodD s (l ++ [x]) ↔ goodD s l ∧ 1 ≤ x ∧ x ≤ 1099511627776 ∧ x ≠ s ∧ x ∉ l := by
  unfold goodD
  rw [List.nodup_append]
  constructor
  · rintro ⟨⟨h1, _, h3⟩, h4⟩
    exact ⟨⟨h1, fun y hy => h4 y (by simp [hy])⟩, (h4 x (by simp)).1, (h4 x (by simp)).2.1, (h4 x (by simp)).2.2, fun hx => h3 x hx x (by simp) rfl⟩
  · rintro ⟨⟨h1, h2⟩, h3, h4, h5, h6⟩
    refine ⟨⟨h1, by simp, fun a ha b hb e => ?_⟩, fun y hy => ?_⟩
    · simp at hb; subst hb; subst e; exact h6 ha
    · rcases List.mem_append.1 hy with hy | hy
      · exact h2 y hy
      · simp at hy; subst hy; exact ⟨h3, h4, h5⟩
theorem goodD_take {s : Int} {l : List Int} (h : goodD s l) (k : Nat) : goodD s (l.take k) := ⟨h.1.sublist (List.take_sublist _ _), fun x hx => h.2 x (List.mem_of_mem_take hx)⟩
end Go.Packs
namespace Go.Proofs.Ytelddmkdclhpoaa
open Go.Vc Go.Sha Go.Trail Go.Packs
set_option linter.unusedVariables false

theorem NumsAt.grow {h h' : Heap} {a : Option Addr} {l c : Nat} {ns : List Int} (n : NumsAt h a l c ns) (x : Ext h h') : NumsAt h' a l c ns := Tab.grow n x
theorem NumsAt.take {h : Heap} {a : Option Addr} {l c : Nat} {ns : List Int} (n : NumsAt h a l c ns) (k : Nat) (hk : k ≤ l) : NumsAt h a k c (ns.take k) := by
  have := Tab.take n k hk
  unfold nums at this
  rw [← List.map_take] at this
  exact this

theorem good_ok (p : PartV) (d : Hdr) (h : Heap) (hn : NumsAt h d.a d.l d.c p.done) (hl : d.l ≤ 1099511627776) :
    HEnt Try.prog 13 #[.agg (partCells p d).toArray] h fun v h' => v = .bool (decide (goodP p)) ∧ Ext h h' := by
  refine F13_ent _ _ _ _ _ _ _ ?_
  have hlen := hn.len
  unfold F13
  refine (St.start h).new fun b h1 s1 x1 _ => ?_
  have n1 := NumsAt.grow hn x1
  have k1 : ∀ bb, (bb = false ↔ rootP p.root ∧ 0 ≤ p.staged ∧ p.staged ≤ 1099511627776) → F13_k1 (at0 b) bb h1 fun v h' => v = .bool (decide (goodP p)) ∧ Ext h h' := by
    intro bb hb
    unfold F13_k1
    refine br_of (fun e => ⟨?_, x1⟩) (fun e => ?_)
    · rw [decide_eq_false fun g => ?_]
      have := hb.2 ⟨g.1, g.2.1, g.2.2.1⟩
      rw [this] at e; cases e
    have g0 := hb.1 e
    have hgood : goodP p ↔ goodD p.staged p.done := ⟨fun g => g.2.2.2, fun g => ⟨g0.1, g0.2.1, g0.2.2, g⟩⟩
    unfold F13_k2
    refine ⟨d.a, d.l, d.c, s1.cell 0 rfl rfl, fun x h' => ∃ k : Nat, x = k ∧ k ≤ d.l ∧ goodD p.staged (p.done.take k) ∧ h' = h1, fun x _ => (d.l - x).toNat, ⟨0, rfl, by omega, by simp [goodD], rfl⟩, ?_⟩
    rintro h2 _ ⟨k, rfl, hk, hg, rfl⟩
    unfold F13_b3
    refine br_of (fun ht => ?_) (fun hf => ?_)
    · have hk' : k < d.l := by
        have : (k : Int) < (d.l : Int) := by simpa using ht
        omega
      obtain ⟨q, x, hx, e, hc⟩ := n1.get hk'
      have k5 : ∀ bb, (bb = false ↔ 1 ≤ x ∧ x ≤ 1099511627776 ∧ x ≠ p.staged ∧ x ∉ p.done.take k) → F13_k5 (fun x h' => ∃ k : Nat, x = k ∧ k ≤ d.l ∧ goodD p.staged (p.done.take k) ∧ h' = h2) (fun x _ => (d.l - x).toNat) (((d.l : Int) - (k : Int)).toNat) (at0 b) d.a d.l d.c (d.l : Int) (k : Int) bb h2 fun v h' => v = .bool (decide (goodP p)) ∧ Ext h h' := by
        intro bb hb
        unfold F13_k5
        refine br_of (fun e => ⟨?_, x1⟩) (fun e => ?_)
        · rw [decide_eq_false fun g => ?_]
          have := goodD_take (hgood.1 g) (k + 1)
          rw [takeI_succ hx, goodD_succ] at this
          rw [hb.2 this.2] at e; cases e
        · unfold F13_k6
          rw [wrap_succ k _ hk' (by omega)]
          refine ⟨⟨k + 1, rfl, by omega, ?_, rfl⟩, less_succ _ _ hk'⟩
          rw [takeI_succ hx, goodD_succ]
          exact ⟨hg, hb.1 e⟩
      unfold F13_k4
      refine ⟨q, e, by omega, by omega, x, by rw [Int.toNat_natCast]; exact hc, br_of (fun e1 => k5 _ ?_) (fun e1 => br_of (fun e2 => k5 _ ?_) (fun e2 => ⟨p.staged, s1.cell 0 rfl rfl, br_of (fun e3 => k5 _ ?_) (fun e3 => ⟨d.a, d.l, d.c, s1.cell 0 rfl rfl, by omega, by omega, by have := Tab.cap hn; omega, ?_⟩)⟩))⟩
      · have := of_decide_eq_true e1
        exact ⟨fun h => (by cases h), fun h => by omega⟩
      · have := of_decide_eq_true e2
        exact ⟨fun h => (by cases h), fun h => by omega⟩
      · have : x = p.staged := by simpa using e3
        exact ⟨fun h => (by cases h), fun h => absurd this h.2.2.1⟩
      · have g1 := of_decide_eq_false e1
        have g2 := of_decide_eq_false e2
        have g3 : x ≠ p.staged := by simpa using e3
        rw [cutAt0]
        simp only [Int.toNat_natCast, Nat.sub_zero]
        refine HEnt.use (contains_ok d.a k d.c x (p.done.take k) h2 (n1.take k (by omega)) (by omega)) ?_
        rintro _ _ ⟨rfl, rfl⟩
        refine ⟨_, rfl, k5 _ ?_⟩
        rw [decide_eq_false_iff_not]
        exact ⟨fun h => ⟨by omega, by omega, g3, h⟩, fun h => h.2.2.2⟩
    · have hk' : k = d.l := by
        have : ¬ (k : Int) < (d.l : Int) := by simpa using hf
        omega
      rw [List.take_of_length_le (by omega)] at hg
      unfold F13_k7
      exact ⟨by rw [decide_eq_true (hgood.2 hg)], x1⟩
  refine ⟨p.root, s1.cell 0 rfl rfl, br_of (fun e1 => k1 _ ?_) (fun e1 => ⟨p.root, s1.cell 0 rfl rfl, br_of (fun e2 => k1 _ ?_) (fun e2 => ⟨p.staged, s1.cell 0 rfl rfl, br_of (fun e3 => k1 _ ?_) (fun e3 => ⟨p.staged, s1.cell 0 rfl rfl, k1 _ ?_⟩)⟩)⟩)⟩
  · have := of_decide_eq_true e1
    exact ⟨fun h => (by cases h), fun h => by unfold rootP at h; omega⟩
  · have := of_decide_eq_true e2
    exact ⟨fun h => (by cases h), fun h => by unfold rootP at h; omega⟩
  · have := of_decide_eq_true e3
    exact ⟨fun h => (by cases h), fun h => by omega⟩
  · have g1 := of_decide_eq_false e1
    have g2 := of_decide_eq_false e2
    have g3 := of_decide_eq_false e3
    rw [decide_eq_false_iff_not]
    unfold rootP
    exact ⟨fun h => by omega, fun h => by omega⟩

theorem refGood_ok (p : PartV) (d : Hdr) (h : Heap) (hn : NumsAt h d.a d.l d.c p.done) (hl : d.l ≤ 1099511627776) :
    HEnt Try.prog 14 #[.agg (partCells p d).toArray] h fun v h' => v = .bool (decide (goodP p)) ∧ Ext h h' := by
  refine F14_ent _ _ _ _ _ _ _ ?_
  have hlen := hn.len
  unfold F14
  refine (St.start h).new fun b h1 s1 x1 _ => ?_
  have n1 := NumsAt.grow hn x1
  have k1 : ∀ bb, (bb = false ↔ rootP p.root ∧ 0 ≤ p.staged ∧ p.staged ≤ 1099511627776) → F14_k1 (at0 b) bb h1 fun v h' => v = .bool (decide (goodP p)) ∧ Ext h h' := by
    intro bb hb
    unfold F14_k1
    refine br_of (fun e => ⟨?_, x1⟩) (fun e => ?_)
    · rw [decide_eq_false fun g => ?_]
      have := hb.2 ⟨g.1, g.2.1, g.2.2.1⟩
      rw [this] at e; cases e
    have g0 := hb.1 e
    have hgood : goodP p ↔ goodD p.staged p.done := ⟨fun g => g.2.2.2, fun g => ⟨g0.1, g0.2.1, g0.2.2, g⟩⟩
    unfold F14_k2
    rintro _ rfl
    refine ⟨fun x h' => ∃ k : Nat, x = k ∧ k ≤ d.l ∧ goodD p.staged (p.done.take k) ∧ h' = h1, fun x _ => (d.l - x).toNat, ⟨0, rfl, by omega, by simp [goodD], rfl⟩, ?_⟩
    rintro h2 _ ⟨k, rfl, hk, hg, rfl⟩
    have cs := s1.cell 0 rfl (k := 2) (v := .slice d.a d.l d.c) rfl
    unfold F14_b3
    refine ⟨d.a, d.l, d.c, cs, br_of (fun ht => ?_) (fun hf => ?_)⟩
    · have hk' : k < d.l := by
        have : (k : Int) < (d.l : Int) := by simpa using ht
        omega
      obtain ⟨q, x, hx, e, hc⟩ := n1.get hk'
      have hc' : Vc.cell h2 (q.add ((Int.toNat (k : Int)) * 1)) = some (.int .i64 x) := by rw [Int.toNat_natCast]; exact hc
      have k5 : ∀ bb, (bb = false ↔ 1 ≤ x ∧ x ≤ 1099511627776 ∧ x ≠ p.staged ∧ x ∉ p.done.take k) → F14_k5 (fun x h' => ∃ k : Nat, x = k ∧ k ≤ d.l ∧ goodD p.staged (p.done.take k) ∧ h' = h2) (fun x _ => (d.l - x).toNat) (((d.l : Int) - (k : Int)).toNat) (at0 b) (k : Int) bb h2 fun v h' => v = .bool (decide (goodP p)) ∧ Ext h h' := by
        intro bb hb
        unfold F14_k5
        refine br_of (fun e => ⟨?_, x1⟩) (fun e => ?_)
        · rw [decide_eq_false fun g => ?_]
          have := goodD_take (hgood.1 g) (k + 1)
          rw [takeI_succ hx, goodD_succ] at this
          rw [hb.2 this.2] at e; cases e
        · unfold F14_k6
          rintro _ rfl
          rw [wrap_succ k _ hk' (by omega)]
          refine ⟨⟨k + 1, rfl, by omega, ?_, rfl⟩, less_succ _ _ hk'⟩
          rw [takeI_succ hx, goodD_succ]
          exact ⟨hg, hb.1 e⟩
      unfold F14_k4
      refine ⟨d.a, d.l, d.c, cs, q, e, by omega, by omega, x, hc', br_of (fun e1 => ?_) (fun e1 => ⟨d.a, d.l, d.c, cs, q, e, by omega, by omega, x, hc', br_of (fun e2 => ?_) (fun e2 => ⟨d.a, d.l, d.c, cs, q, e, by omega, by omega, x, hc', p.staged, s1.cell 0 rfl rfl, br_of (fun e3 => ?_) (fun e3 => ⟨d.a, d.l, d.c, cs, by omega, by omega, by have := Tab.cap hn; omega, d.a, d.l, d.c, cs, q, e, by omega, by omega, x, hc', decide (x ∈ p.done.take k), ?_, ?_⟩)⟩)⟩)⟩
      · rintro _ rfl
        have := of_decide_eq_true e1
        exact k5 _ ⟨fun h => (by cases h), fun h => by omega⟩
      · rintro _ rfl
        have := of_decide_eq_true e2
        exact k5 _ ⟨fun h => (by cases h), fun h => by omega⟩
      · rintro _ rfl
        have : x = p.staged := by simpa using e3
        exact k5 _ ⟨fun h => (by cases h), fun h => absurd this h.2.2.1⟩
      · rintro _ rfl
        rw [cutAt0]
        simp only [Int.toNat_natCast, Nat.sub_zero]
        exact in_ok d.a k d.c x (p.done.take k) _ (n1.take k (by omega)) (by omega)
      · rintro _ rfl
        have g1 := of_decide_eq_false e1
        have g2 := of_decide_eq_false e2
        have g3 : x ≠ p.staged := by simpa using e3
        refine k5 _ ?_
        rw [decide_eq_false_iff_not]
        exact ⟨fun h => ⟨by omega, by omega, g3, h⟩, fun h => h.2.2.2⟩
    · have hk' : k = d.l := by
        have : ¬ (k : Int) < (d.l : Int) := by simpa using hf
        omega
      rw [List.take_of_length_le (by omega)] at hg
      unfold F14_k7
      exact ⟨by rw [decide_eq_true (hgood.2 hg)], x1⟩
  refine ⟨p.root, s1.cell 0 rfl rfl, HEnt.use (refRoot_ok p.root h1) ?_⟩
  rintro _ _ ⟨rfl, rfl⟩
  refine ⟨_, rfl, br_of (fun e1 => k1 _ ?_) (fun e1 => ⟨p.staged, s1.cell 0 rfl rfl, br_of (fun e3 => k1 _ ?_) (fun e3 => ⟨p.staged, s1.cell 0 rfl rfl, k1 _ ?_⟩)⟩)⟩
  · have : ¬ rootP p.root := by simpa using e1
    exact ⟨fun h => (by cases h), fun h => absurd h.1 this⟩
  · have := of_decide_eq_true e3
    exact ⟨fun h => (by cases h), fun h => by omega⟩
  · have g1 : rootP p.root := by simpa using e1
    have g3 := of_decide_eq_false e3
    rw [decide_eq_false_iff_not]
    exact ⟨fun h => ⟨g1, by omega, by omega⟩, fun h => by omega⟩

theorem last_ok (p : PartV) (d : Hdr) (h : Heap) (hn : NumsAt h d.a d.l d.c p.done) (hl : d.l ≤ 1099511627776) :
    HEnt Try.prog 34 #[.agg (partCells p d).toArray] h fun v h' => v = .int .i64 (lastN p.done) ∧ Ext h h' := by
  refine F34_ent _ _ _ _ _ _ _ ?_
  have hlen := hn.len
  unfold F34
  refine (St.start h).new fun b h1 s1 x1 _ => ?_
  have n1 := NumsAt.grow hn x1
  have cs := s1.cell 0 rfl (k := 2) (v := .slice d.a d.l d.c) rfl
  refine ⟨d.a, d.l, d.c, cs, br_of (fun e => ⟨?_, x1⟩) (fun e => ?_)⟩
  · have : (d.l : Int) = 0 := by simpa using e
    have : p.done = [] := List.eq_nil_of_length_eq_zero (by omega)
    rw [this]; rfl
  · have h0 : ¬ (d.l : Int) = 0 := by simpa using e
    obtain ⟨q, x, hx, eq, hc⟩ := n1.get (i := d.l - 1) (by omega)
    unfold F34_k1
    have hw : IntKind.i64.wrap ((d.l : Int) - 1) = ((d.l - 1 : Nat) : Int) := by rw [i64_lt _ (by omega) (by omega)]; omega
    refine ⟨d.a, d.l, d.c, cs, d.a, d.l, d.c, cs, q, eq, by rw [hw]; omega, by rw [hw]; omega, x, by rw [hw, Int.toNat_natCast]; exact hc, ?_, x1⟩
    unfold lastN
    rw [List.getLast?_eq_getElem?, hlen, hx]; rfl
end Go.Proofs.Ytelddmkdclhpoaa
