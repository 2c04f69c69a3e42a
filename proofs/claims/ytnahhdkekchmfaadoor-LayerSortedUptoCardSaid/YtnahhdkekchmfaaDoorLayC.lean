import Derived.Test.YtnahhdkekchmfaaDoorLayB
import Derived.Test.YtnahhdkekchmfaaDoorVcS

namespace Go.Proofs.YtnahhdkekchmfaaDoor
open Go.Vc Go.Sha Go.Trail Go.Lay
set_option linter.unusedVariables false
/-- the last of the entries ahead of k that hides what is below it -/
def Over (es : List EntV) (k : Nat) (s : ByteArray) : Prop :=
  (lst s = [] ∧ ∀ j < k, ¬ hides (en es j)) ∨ ∃ J, J < k ∧ hides (en es J) ∧ s = (en es J).path ∧ ∀ j, J < j → j < k → ¬ hides (en es j)
theorem Over.next {es : List EntV} {k : Nat} {s : ByteArray} (o : Over es k s) (h : ¬ hides (en es k)) : Over es (k + 1) s := by
  rcases o with ⟨h1, h2⟩ | ⟨J, h1, h2, h3, h4⟩
  · exact .inl ⟨h1, fun j hj => by by_cases e : j = k; exact e ▸ h; exact h2 j (by omega)⟩
  · exact .inr ⟨J, by omega, h2, h3, fun j g1 g2 => by by_cases e : j = k; exact e ▸ h; exact h4 j g1 (by omega)⟩
theorem Over.here {es : List EntV} {k : Nat} (h : hides (en es k)) : Over es (k + 1) (en es k).path := .inr ⟨k, by omega, h, rfl, fun j g1 g2 => by omega⟩
theorem stA_zero {e : EntV} (h : stA e = 0) : ¬ badP e.path ∧ 1 ≤ e.kind ∧ e.kind ≤ 4 ∧ 0 ≤ e.mode ∧ e.mode ≤ 511 ∧ (e.kind = 3 → e.mode = 0) ∧ (e.kind ≠ 1 → e.body.size = 0) ∧ e.body.size ≤ 256 := by
  unfold stA aloneC at h
  by_cases hp : badP e.path
  · rw [if_pos hp] at h; cases h
  rw [if_neg hp] at h
  refine ⟨hp, ?_⟩
  repeat' split at h
  all_goals first | (cases h; done) | skip
  refine ⟨by omega, by omega, by omega, by omega, by omega, by omega, by omega⟩
theorem st_zero {es : List EntV} {i : Nat} (h : st es i = 0) : stA (en es i) = 0 ∧ (0 < i → lexK (pa es (i - 1)) (pa es i) = true) ∧ ∀ j < i, hides (en es j) → inP (pa es j) (pa es i) = false := by
  unfold st at h
  by_cases h1 : stA (en es i) ≠ 0
  · rw [if_pos h1] at h; exact absurd h h1
  rw [if_neg h1] at h
  by_cases h2 : 0 < i ∧ lexK (pa es (i - 1)) (pa es i) = false
  · rw [if_pos h2] at h; cases h
  rw [if_neg h2] at h
  by_cases h3 : ∃ j, j < i ∧ hides (en es j) ∧ inP (pa es j) (pa es i) = true
  · rw [if_pos h3] at h; cases h
  refine ⟨by omega, fun g => ?_, fun j hj hh => ?_⟩
  · cases e : lexK (pa es (i - 1)) (pa es i)
    · exact absurd ⟨g, e⟩ h2
    · rfl
  · cases e : inP (pa es j) (pa es i)
    · rfl
    · exact absurd ⟨j, hj, hh, e⟩ h3
theorem lexK_asymm {p q : List Nat} (h : lexK p q = true) : lexK q p = false := by
  cases e : lexK q p
  · rfl
  · have := lexK_trans _ _ _ h e
    rw [lexK_irr] at this; cases this
theorem sorted {es : List EntV} {k : Nat} (h : ∀ i, 0 < i → i < k → lexK (pa es (i - 1)) (pa es i) = true) : ∀ i j, i < j → j < k → lexK (pa es i) (pa es j) = true := by
  intro i j
  induction j with
  | zero => intro hij; omega
  | succ j ih =>
    intro hij hj
    have h1 := h (j + 1) (by omega) hj
    rw [Nat.add_sub_cancel] at h1
    by_cases e : i = j
    · subst e; exact h1
    · exact lexK_trans _ _ _ (ih (by omega) (by omega)) h1
/-- it is enough to look at the last one that hides -/
theorem over_iff {es : List EntV} {k : Nat} {s : ByteArray} (o : Over es k s) (hz : ∀ j < k, st es j = 0) (ho : 0 < k → lexK (pa es (k - 1)) (pa es k) = true) :
    (lst s ≠ [] ∧ inP (lst s) (pa es k) = true) ↔ ∃ j, j < k ∧ hides (en es j) ∧ inP (pa es j) (pa es k) = true := by
  have srt : ∀ i j, i < j → j < k + 1 → lexK (pa es i) (pa es j) = true := sorted fun i h0 hi => by
    by_cases e : i = k
    · subst e; exact ho h0
    · exact (st_zero (hz i (by omega))).2.1 h0
  constructor
  · rintro ⟨h1, h2⟩
    rcases o with ⟨h3, _⟩ | ⟨J, h3, h4, rfl, h5⟩
    · exact absurd h3 h1
    · exact ⟨J, h3, h4, h2⟩
  · rintro ⟨j, h1, h2, h3⟩
    rcases o with ⟨_, h4⟩ | ⟨J, h4, h5, rfl, h6⟩
    · exact absurd h2 (h4 j h1)
    · have hne : pa es J ≠ [] := fun hh => (stA_zero (st_zero (hz J h4)).1).1 (.inl hh)
      refine ⟨hne, ?_⟩
      by_cases e : j = J
      · subst e; exact h3
      · have hjJ : j < J := by
          refine Nat.lt_of_not_le fun hh => h6 j (by omega) h1 h2
        have := between h3 (lexK_asymm (srt j J hjJ (by omega))) (srt J k h4 (by omega))
        rw [(st_zero (hz J h4)).2.2 j hjJ h2] at this
        cases this

theorem check_ok (a : Option Addr) (l c : Nat) (es : List EntV) (h : Heap) (w : Tab 4 h a l c (ents es)) (hs : Small es) (hl : l < 2 ^ 40) (hm : MaxAt h) :
    HEnt Tryd.prog 10 #[.slice a l c] h fun v h' => v = resC (checkC es) ∧ Ext h h' := by
  have hlen : es.length = l := by have := w.len; rwa [ents_len] at this
  refine F10_ent _ _ _ _ _ ?_
  unfold F10
  refine br_of (fun g => ?_) (fun g => ?_)
  · have g' : l > 64 := by simp at g; omega
    exact ⟨by rw [check_big (by omega)]; rfl, Ext.refl _⟩
  have g' : l ≤ 64 := by simp at g; omega
  unfold F10_k1
  refine ⟨fun s x hh => ∃ k : Nat, x = k ∧ k ≤ l ∧ Ext h hh ∧ (∀ j < k, st es j = 0) ∧ Over es k s, fun _ x _ => ((l : Int) - x).toNat, ⟨0, rfl, by omega, Ext.refl _, fun j hj => absurd hj (Nat.not_lt_zero _), .inl ⟨rfl, fun j hj => absurd hj (Nat.not_lt_zero _)⟩⟩, ?_⟩
  rintro h1 s4 _ ⟨k, rfl, hk, x1, hz, ov⟩
  unfold F10_b2
  refine br_of (fun g => ?_) (fun g => ?_)
  case refine_2 =>
    have hk' : k = l := by
      have : ¬ (k : Int) < (l : Int) := by simpa using g
      omega
    unfold F10_k11
    exact ⟨by rw [check_fine (by omega) (fun j hj => hz j (by omega))]; rfl, x1⟩
  have hk' : k < l := by simpa using g
  obtain ⟨q, eq, _, c0, c1, c2, c3⟩ := ent_get (w.grow x1) (en_get (i := k) (by omega))
  have hsm := hs _ (en_mem (es := es) (i := k) (by omega))
  have hso : s4.size < 2 ^ 30 := by
    rcases ov with ⟨h3, _⟩ | ⟨J, h3, h4, rfl, h5⟩
    · have := lst_len s4; rw [h3] at this; simp at this; omega
    · have := hs _ (en_mem (es := es) (i := J) (by omega)); omega
  unfold F10_k3
  refine ⟨q, eq, by omega, by omega, _, _, _, _, by rw [Int.toNat_natCast]; exact c0, by rw [Int.toNat_natCast]; exact c1, by rw [Int.toNat_natCast]; exact c2, by rw [Int.toNat_natCast]; exact c3, rfl, ?_⟩
  refine (St.start h1).new fun b h2 s2 x2 _ => ?_
  refine fill (vs := entA (en es k)) s2 zero30 (entA_size _) (entA_one _) fun h3 s3 o3 => ?_
  refine ⟨_, _, _, _, s3.cell 0 rfl rfl, s3.cell 0 rfl rfl, s3.cell 0 rfl rfl, s3.cell 0 rfl rfl, rfl, ?_⟩
  refine HEnt.use (alone_ok (en es k) (by omega) h3 (hm.ext (x1.trans s3.ext))) ?_
  rintro _ h4 ⟨rfl, x4⟩
  have s4' := s3.grow x4
  have x14 := x1.trans s4'.ext
  have no : ∀ n : Nat, n ≠ 0 → st es k = n → (Value.tuple #[.int .i64 (k : Int), .int .i64 (n : Int)] = resC (checkC es) ∧ Ext h h4) := fun n hn hst => by
    refine ⟨?_, x14⟩
    rw [check_bad (by omega) (by omega) (by omega) hz, hst]; rfl
  refine ⟨_, rfl, br_of (fun g2 => no (stA (en es k)) ?_ ?_) (fun g2 => ?_)⟩
  · simp at g2; omega
  · have g2' : stA (en es k) ≠ 0 := by simp at g2; omega
    unfold st; rw [if_pos g2']
  have hA : stA (en es k) = 0 := by simp at g2; omega
  -- the order
  have k6 : (0 < k → lexK (pa es (k - 1)) (pa es k) = true) → F10_k6 (fun s x hh => ∃ k : Nat, x = k ∧ k ≤ l ∧ Ext h hh ∧ (∀ j < k, st es j = 0) ∧ Over es k s) (fun _ x _ => ((l : Int) - x).toNat) ((l : Int) - (k : Int)).toNat a l c s4 k (at0 b) a l c l k h4 fun v h' => v = resC (checkC es) ∧ Ext h h' := by
    intro ho
    have hO : ¬ (0 < k ∧ lexK (pa es (k - 1)) (pa es k) = false) := fun hh => by rw [ho hh.1] at hh; cases hh.2
    have k7 : ∀ bb : Bool, (bb = true ↔ lst s4 ≠ [] ∧ inP (lst s4) (pa es k) = true) → F10_k7 (fun s x hh => ∃ k : Nat, x = k ∧ k ≤ l ∧ Ext h hh ∧ (∀ j < k, st es j = 0) ∧ Over es k s) (fun _ x _ => ((l : Int) - x).toNat) ((l : Int) - (k : Int)).toNat a l c s4 k (at0 b) a l c l k bb h4 fun v h' => v = resC (checkC es) ∧ Ext h h' := by
      intro bb hbb
      rw [over_iff ov hz ho] at hbb
      unfold F10_k7
      refine br_of (fun g3 => no 11 (by decide) ?_) (fun g3 => ?_)
      · unfold st
        rw [if_neg (by simp [hA]), if_neg hO, if_pos (hbb.1 g3)]
      · have hst : st es k = 0 := by
          unfold st
          rw [if_neg (by simp [hA]), if_neg hO, if_neg]
          intro hh; rw [hbb.2 hh] at g3; cases g3
        have hz' : ∀ j < k + 1, st es j = 0 := fun j hj => by
          by_cases e : j = k
          · subst e; exact hst
          · exact hz j (by omega)
        have k10 : ∀ s', Over es (k + 1) s' → F10_k10 (fun s x hh => ∃ k : Nat, x = k ∧ k ≤ l ∧ Ext h hh ∧ (∀ j < k, st es j = 0) ∧ Over es k s) (fun _ x _ => ((l : Int) - x).toNat) ((l : Int) - (k : Int)).toNat a l c s' a l c l k h4 fun v h' => v = resC (checkC es) ∧ Ext h h' := by
          intro s' ov'
          unfold F10_k10
          rw [i64_lt _ (by omega) (by omega)]
          exact ⟨⟨k + 1, by omega, by omega, x14, hz', ov'⟩, by show ((l : Int) - ((k : Int) + 1)).toNat < ((l : Int) - k).toNat; omega⟩
        have k9 : ∀ b2 : Bool, (b2 = true ↔ hides (en es k)) → F10_k9 (fun s x hh => ∃ k : Nat, x = k ∧ k ≤ l ∧ Ext h hh ∧ (∀ j < k, st es j = 0) ∧ Over es k s) (fun _ x _ => ((l : Int) - x).toNat) ((l : Int) - (k : Int)).toNat a l c s4 (at0 b) a l c l k b2 h4 fun v h' => v = resC (checkC es) ∧ Ext h h' := by
          intro b2 hb2
          unfold F10_k9
          refine br_of (fun g4 => ⟨_, s4'.cell 0 rfl rfl, k10 _ (Over.here (hb2.1 g4))⟩) (fun g4 => k10 _ (ov.next fun hh => by rw [hb2.2 hh] at g4; cases g4))
        unfold F10_k8
        refine ⟨_, s4'.cell 0 rfl rfl, br_of (fun g4 => k9 _ ⟨fun _ => .inl (by simpa using g4), fun _ => rfl⟩) (fun g4 => ⟨_, s4'.cell 0 rfl rfl, k9 _ ?_⟩)⟩
        have g4' : (en es k).kind ≠ 1 := by simpa using g4
        rw [beq_iff_eq]
        exact ⟨.inr, fun hh => hh.resolve_left g4'⟩
    unfold F10_k6
    rw [seq_nil]
    refine br_of (fun g3 => ?_) (fun g3 => k7 _ ?_)
    · refine ⟨_, s4'.cell 0 rfl rfl, HEnt.use (in_ok _ _ (by omega) h4) ?_⟩
      rintro _ _ ⟨rfl, rfl⟩
      refine ⟨_, rfl, k7 _ ?_⟩
      rw [Bool.not_eq_true', decide_eq_false_iff_not] at g3
      exact ⟨fun hh => ⟨g3, hh⟩, fun hh => hh.2⟩
    · rw [Bool.not_eq_false', decide_eq_true_eq] at g3
      exact ⟨fun hh => (by cases hh), fun hh => absurd g3 hh.1⟩
  have k5 : ∀ bb : Bool, (bb = true ↔ 0 < k ∧ lexK (pa es (k - 1)) (pa es k) = false) → F10_k5 (fun s x hh => ∃ k : Nat, x = k ∧ k ≤ l ∧ Ext h hh ∧ (∀ j < k, st es j = 0) ∧ Over es k s) (fun _ x _ => ((l : Int) - x).toNat) ((l : Int) - (k : Int)).toNat a l c s4 k (at0 b) a l c l k bb h4 fun v h' => v = resC (checkC es) ∧ Ext h h' := by
    intro bb hbb
    unfold F10_k5
    refine br_of (fun g3 => no 14 (by decide) ?_) (fun g3 => k6 fun h0 => ?_)
    · unfold st
      rw [if_neg (by simp [hA]), if_pos (hbb.1 g3)]
    · cases e : lexK (pa es (k - 1)) (pa es k)
      · rw [hbb.2 ⟨h0, e⟩] at g3; cases g3
      · rfl
  unfold F10_k4
  refine br_of (fun g3 => ?_) (fun g3 h6 e6 => ?_)
  · have g3' : 0 < k := by simpa using g3
    have e1 : IntKind.i64.wrap ((k : Int) - 1) = ((k - 1 : Nat) : Int) := by rw [i64_lt _ (by omega) (by omega)]; omega
    obtain ⟨q', eq', _, d0, d1, d2, d3⟩ := ent_get (w.grow x14) (en_get (i := k - 1) (by omega))
    rw [eq] at eq'; cases eq'
    have hsk := hs _ (en_mem (es := es) (i := k - 1) (by omega))
    rw [e1]
    refine ⟨q, eq, by omega, by omega, _, by rw [Int.toNat_natCast]; exact d0, _, s4'.cell 0 rfl rfl, _, fun h6 e6 => less_ok _ _ (by omega) h6, fun h6 e6 => ?_⟩
    obtain rfl : h6 = h4 := e6
    refine k5 _ ?_
    rw [Bool.not_eq_true']
    exact ⟨fun g4 => ⟨g3', g4⟩, fun g4 => g4.2⟩
  · obtain rfl : h6 = h4 := e6
    refine k5 _ ⟨fun g4 => (by cases g4), fun g4 => ?_⟩
    have := g4.1
    simp at g3; omega
end Go.Proofs.YtnahhdkekchmfaaDoor
