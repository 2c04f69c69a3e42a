import Derived.Test.YtnahhdkekchmfaaDoorLayA

namespace Go.Proofs.YtnahhdkekchmfaaDoor
open Go.Vc Go.Sha Go.Trail Go.Lay
set_option linter.unusedVariables false
def e0 : EntV := ⟨ByteArray.empty, 0, 0, ByteArray.empty⟩
/-- the i-th entry -/
def en (es : List EntV) (i : Nat) : EntV := es.getD i e0
def pa (es : List EntV) (i : Nat) : List Nat := lst (en es i).path
def hides (e : EntV) : Prop := e.kind = 1 ∨ e.kind = 3
open Classical in
/-- what is wrong with the i-th entry -/
noncomputable def st (es : List EntV) (i : Nat) : Nat :=
  if stA (en es i) ≠ 0 then stA (en es i) else if 0 < i ∧ lexK (pa es (i - 1)) (pa es i) = false then 14
  else if ∃ j, j < i ∧ hides (en es j) ∧ inP (pa es j) (pa es i) = true then 11 else 0
theorem en_get {es : List EntV} {i : Nat} (hi : i < es.length) : es[i]? = some (en es i) := by
  rw [en, List.getD_eq_getElem?_getD, List.getElem?_eq_getElem hi]; rfl
theorem en_mem {es : List EntV} {i : Nat} (hi : i < es.length) : en es i ∈ es := List.mem_of_getElem? (en_get hi)
/-- what Check tells -/
noncomputable def checkC (es : List EntV) : Nat × Nat :=
  if es.length > 64 then (0, 3) else match (List.range es.length).find? (fun i => decide (st es i ≠ 0)) with
  | none => (0, 0)
  | some i => (i, st es i)
theorem check_big {es : List EntV} (h : es.length > 64) : checkC es = (0, 3) := if_pos h
theorem check_bad {es : List EntV} (h : es.length ≤ 64) {i : Nat} (hi : i < es.length) (hs : st es i ≠ 0) (hb : ∀ j < i, st es j = 0) : checkC es = (i, st es i) := by
  unfold checkC
  rw [if_neg (by omega)]
  have : (List.range es.length).find? (fun i => decide (st es i ≠ 0)) = some i := by
    rw [List.find?_range_eq_some]
    refine ⟨by simpa using hs, by simpa using hi, fun j hj => by simpa using hb j hj⟩
  rw [this]
theorem check_fine {es : List EntV} (h : es.length ≤ 64) (hb : ∀ j < es.length, st es j = 0) : checkC es = (0, 0) := by
  unfold checkC
  rw [if_neg (by omega)]
  have : (List.range es.length).find? (fun i => decide (st es i ≠ 0)) = none := by
    rw [List.find?_range_eq_none]
    intro j hj; simpa using hb j hj
  rw [this]
theorem check_zero {es : List EntV} (h : (checkC es).2 = 0) : es.length ≤ 64 ∧ (∀ j < es.length, st es j = 0) ∧ checkC es = (0, 0) := by
  by_cases hl : es.length > 64
  · rw [check_big hl] at h; cases h
  · have hl' : es.length ≤ 64 := by omega
    by_cases g : ∀ j < es.length, st es j = 0
    · exact ⟨hl', g, check_fine hl' g⟩
    · exfalso
      have : ∃ i, i < es.length ∧ st es i ≠ 0 ∧ ∀ j < i, st es j = 0 := by
        have g' : ∃ i, i < es.length ∧ st es i ≠ 0 := by
          refine Classical.byContradiction fun hh => g fun j hj => Classical.byContradiction fun h3 => hh ⟨j, hj, h3⟩
        obtain ⟨i, hi, hs⟩ := g'
        induction i using Nat.strongRecOn with
        | ind i ih =>
          by_cases hb : ∀ j < i, st es j = 0
          · exact ⟨i, hi, hs, hb⟩
          · have : ∃ j, j < i ∧ st es j ≠ 0 := Classical.byContradiction fun hh => hb fun j hj => Classical.byContradiction fun h3 => hh ⟨j, hj, h3⟩
            obtain ⟨j, hj, h3⟩ := this
            exact ih j hj (by omega) h3
      obtain ⟨i, hi, hs, hb⟩ := this
      rw [check_bad hl' hi hs hb] at h
      exact hs h
def resC (r : Nat × Nat) : Value := .tuple #[.int .i64 r.1, .int .i64 r.2]

theorem wrong_ok (a : Option Addr) (l c : Nat) (es : List EntV) (i : Nat) (h : Heap) (w : Tab 4 h a l c (ents es)) (hs : Small es) (hi : i < l) (hl : l < 2 ^ 40) :
    HEnt Tryd.prog 30 #[.slice a l c, .int .i64 i] h fun v h' => v = .int .i64 (st es i) ∧ Ext h h' := by
  have hlen : es.length = l := by have := w.len; rwa [ents_len] at this
  have hi' : i < es.length := by omega
  have hsm := hs _ (en_mem hi')
  obtain ⟨q, eq, _, c0, c1, c2, c3⟩ := ent_get w (en_get hi')
  refine F30_ent _ _ _ _ _ _ ?_
  unfold F30
  refine ⟨q, eq, by omega, by omega, _, _, _, _, c0, c1, c2, c3, rfl, ?_⟩
  refine (St.start h).new fun b h1 s1 x1 _ => ?_
  refine fill (vs := entA (en es i)) s1 zero30 (entA_size _) (entA_one _) fun h2 s2 o2 => ?_
  refine ⟨_, s2.cell 0 rfl rfl, ?_⟩
  have fin : ∀ {h' : Heap} {cs}, St h h' [⟨b, cs, 30⟩] → ∀ n : Nat, st es i = n → (Value.int .i64 (n : Int) = .int .i64 (st es i) ∧ Ext h h') := fun s n hn => ⟨by rw [hn], s.ext⟩
  -- behind what alone asks
  have k9 : ∀ {h'}, St h h' [⟨b, entA (en es i), 30⟩] → stA (en es i) = 0 → F30_k9 a l c i (at0 b) h' fun v h' => v = .int .i64 (st es i) ∧ Ext h h' := by
    intro h' s hA
    have k11 : ∀ {h'}, St h h' [⟨b, entA (en es i), 30⟩] → ¬ (0 < i ∧ lexK (pa es (i - 1)) (pa es i) = false) → F30_k11 a l c i (at0 b) h' fun v h' => v = .int .i64 (st es i) ∧ Ext h h' := by
      intro h' s hO
      unfold F30_k11
      refine ⟨fun x hh => ∃ k : Nat, x = k ∧ k ≤ i ∧ St h hh [⟨b, entA (en es i), 30⟩] ∧ ∀ j < k, ¬ (hides (en es j) ∧ inP (pa es j) (pa es i) = true), fun x _ => ((i : Int) - x).toNat, ⟨0, rfl, by omega, s, fun j hj => absurd hj (Nat.not_lt_zero _)⟩, ?_⟩
      rintro h5 _ ⟨k, rfl, hk, s5, hno⟩
      unfold F30_b12
      refine br_of (fun g => ?_) (fun g => ?_)
      · have hk' : k < i := by simpa using g
        obtain ⟨q', eq', _, d0, d1, d2, d3⟩ := ent_get (w.grow s5.ext) (en_get (i := k) (by omega))
        rw [eq] at eq'; cases eq'
        have hsk := hs _ (en_mem (es := es) (i := k) (by omega))
        have k14 : ∀ bb : Bool, (bb = true ↔ hides (en es k) ∧ inP (pa es k) (pa es i) = true) → F30_k14 (fun x hh => ∃ k : Nat, x = k ∧ k ≤ i ∧ St h hh [⟨b, entA (en es i), 30⟩] ∧ ∀ j < k, ¬ (hides (en es j) ∧ inP (pa es j) (pa es i) = true)) (fun x _ => ((i : Int) - x).toNat) ((i : Int) - (k : Int)).toNat a l c i (at0 b) k bb h5 fun v h' => v = .int .i64 (st es i) ∧ Ext h h' := by
          intro bb hbb
          unfold F30_k14
          refine br_of (fun g2 => fin s5 11 ?_) (fun g2 => ?_)
          · unfold st
            rw [if_neg (by simp [hA]), if_neg hO, if_pos ⟨k, hk', hbb.1 g2⟩]
          · unfold F30_k15
            rw [i64_lt _ (by omega) (by omega)]
            refine ⟨⟨k + 1, by omega, by omega, s5, fun j hj => ?_⟩, by show ((i : Int) - ((k : Int) + 1)).toNat < ((i : Int) - k).toNat; omega⟩
            by_cases e : j = k
            · subst e; intro hh; rw [hbb.2 hh] at g2; cases g2
            · exact hno j (by omega)
        have asks : hides (en es k) → ∃ q94 : Addr, a = some q94 ∧ (0 : Int) ≤ k ∧ (k : Int) < (l : Int) ∧ ∃ s96 : ByteArray, Vc.cell h5 ((q94.add ((k : Int).toNat * 4)).add 0) = some (Value.string s96) ∧ ∃ s98 : ByteArray, Vc.cell h5 ((at0 b).add 0) = some (Value.string s98) ∧ ∃ b99 : Bool, (∀ h1, Cls false h5 h1 → HEnt Tryd.prog 49 #[Value.string s96, Value.string s98] h1 fun v h2 => v = Value.bool b99 ∧ Cls false h1 h2) ∧ ∀ h1, Cls false h5 h1 → F30_k14 (fun x hh => ∃ k : Nat, x = k ∧ k ≤ i ∧ St h hh [⟨b, entA (en es i), 30⟩] ∧ ∀ j < k, ¬ (hides (en es j) ∧ inP (pa es j) (pa es i) = true)) (fun x _ => ((i : Int) - x).toNat) ((i : Int) - (k : Int)).toNat a l c i (at0 b) k b99 h1 fun v h' => v = .int .i64 (st es i) ∧ Ext h h' := by
          intro hh
          refine ⟨q, eq, by omega, by omega, _, by rw [Int.toNat_natCast]; exact d0, _, s5.cell 0 rfl rfl, _, fun h6 e6 => refIn_ok _ _ (by omega) h6, fun h6 e6 => ?_⟩
          obtain rfl : h6 = h5 := e6
          exact k14 _ ⟨fun g2 => ⟨hh, g2⟩, fun g2 => g2.2⟩
        unfold F30_k13
        refine ⟨q, eq, by omega, by omega, _, by rw [Int.toNat_natCast]; exact d1, br_of (fun g2 => asks (.inl (by simpa using g2))) (fun g2 => ⟨q, eq, by omega, by omega, _, by rw [Int.toNat_natCast]; exact d1, br_of (fun g3 => asks (.inr (by simpa using g3))) (fun g3 h6 e6 => ?_)⟩)⟩
        obtain rfl : h6 = h5 := e6
        refine k14 _ ⟨fun g4 => (by cases g4), fun g4 => ?_⟩
        rcases g4.1 with g4 | g4 <;> simp [g4] at g2 g3
      · have hk' : k = i := by
          have : ¬ (k : Int) < (i : Int) := by simpa using g
          omega
        subst hk'
        unfold F30_k16
        refine fin s5 0 ?_
        unfold st
        rw [if_neg (by simp [hA]), if_neg hO, if_neg]
        rintro ⟨j, hj, hh⟩
        exact hno j hj hh
    have k10 : ∀ {h'}, St h h' [⟨b, entA (en es i), 30⟩] → ∀ bb : Bool, (bb = true ↔ 0 < i ∧ lexK (pa es (i - 1)) (pa es i) = false) → F30_k10 a l c i (at0 b) bb h' fun v h' => v = .int .i64 (st es i) ∧ Ext h h' := by
      intro h' s bb hbb
      unfold F30_k10
      refine br_of (fun g => fin s 14 ?_) (fun g => k11 s fun hh => by rw [hbb.2 hh] at g; cases g)
      unfold st
      rw [if_neg (by simp [hA]), if_pos (hbb.1 g)]
    unfold F30_k9
    refine br_of (fun g => ?_) (fun g h6 e6 => k10 (s.grow e6) _ ⟨fun g2 => (by cases g2), fun g2 => ?_⟩)
    · have g' : 0 < i := by simpa using g
      have e1 : IntKind.i64.wrap ((i : Int) - 1) = ((i - 1 : Nat) : Int) := by rw [i64_lt _ (by omega) (by omega)]; omega
      obtain ⟨q', eq', _, d0, d1, d2, d3⟩ := ent_get (w.grow s.ext) (en_get (i := i - 1) (by omega))
      rw [eq] at eq'; cases eq'
      have hsk := hs _ (en_mem (es := es) (i := i - 1) (by omega))
      rw [e1]
      refine ⟨q, eq, by omega, by omega, _, by rw [Int.toNat_natCast]; exact d0, _, s.cell 0 rfl rfl, _, fun h6 e6 => refLess_ok _ _ (by omega) (by omega) h6, fun h6 e6 => k10 (s.grow e6) _ ?_⟩
      rw [Bool.not_eq_true']
      exact ⟨fun g2 => ⟨g', g2⟩, fun g2 => g2.2⟩
    · have := g2.1
      simp at g; omega
  have bad : ∀ {h'}, St h h' [⟨b, entA (en es i), 30⟩] → ∀ n : Nat, n ≠ 0 → stA (en es i) = n → (Value.int .i64 (n : Int) = .int .i64 (st es i) ∧ Ext h h') := fun s n h0 hn => fin s n (by
    unfold st
    rw [if_pos (by omega), hn])
  have k2 : ∀ {h'}, St h h' [⟨b, entA (en es i), 30⟩] → ¬ badP (en es i).path → F30_k2 a l c i (at0 b) h' fun v h' => v = .int .i64 (st es i) ∧ Ext h h' := by
    intro h' s hp
    have c1 : Vc.cell h' ((at0 b).add 1) = some (.int .i64 (en es i).kind) := s.cell 0 rfl rfl
    have c2 : Vc.cell h' ((at0 b).add 2) = some (.int .i64 (en es i).mode) := s.cell 0 rfl rfl
    have c3 : Vc.cell h' ((at0 b).add 3) = some (.string (en es i).body) := s.cell 0 rfl rfl
    have hA : stA (en es i) = _ := if_neg hp
    have k7 : 1 ≤ (en es i).kind → (en es i).kind ≤ 4 → 0 ≤ (en es i).mode → (en es i).mode ≤ 511 → ((en es i).kind = 3 → (en es i).mode = 0) → ∀ bb : Bool, (bb = true ↔ (en es i).kind ≠ 1 ∧ (en es i).body.size ≠ 0) → F30_k7 a l c i (at0 b) bb h' fun v h' => v = .int .i64 (st es i) ∧ Ext h h' := by
      intro g1 g2 g3 g4 g5 bb hbb
      unfold F30_k7
      refine br_of (fun g => bad s 5 (by decide) ?_) (fun g => ?_)
      · have := hbb.1 g
        rw [hA]
        repeat' split
        all_goals first | rfl | omega
      · have hb' : ¬ ((en es i).kind ≠ 1 ∧ (en es i).body.size ≠ 0) := fun hh => by rw [hbb.2 hh] at g; cases g
        unfold F30_k8
        refine ⟨_, c3, br_of (fun g6 => bad s 3 (by decide) ?_) (fun g6 => k9 s ?_)⟩ <;> simp at g6 <;> rw [hA] <;> repeat' split
        all_goals first | rfl | omega
    have k5 : 1 ≤ (en es i).kind → (en es i).kind ≤ 4 → ∀ bb : Bool, (bb = true ↔ (en es i).mode < 0 ∨ (en es i).mode > 511 ∨ ((en es i).kind = 3 ∧ (en es i).mode ≠ 0)) → F30_k5 a l c i (at0 b) bb h' fun v h' => v = .int .i64 (st es i) ∧ Ext h h' := by
      intro g1 g2 bb hbb
      unfold F30_k5
      refine br_of (fun g => bad s 2 (by decide) ?_) (fun g => ?_)
      · have := hbb.1 g
        rw [hA]
        repeat' split
        all_goals first | rfl | omega
      · have hb' : ¬ ((en es i).mode < 0 ∨ (en es i).mode > 511 ∨ ((en es i).kind = 3 ∧ (en es i).mode ≠ 0)) := fun hh => by rw [hbb.2 hh] at g; cases g
        unfold F30_k6
        refine ⟨_, c1, br_of (fun g6 => ⟨_, c3, k7 g1 g2 (by omega) (by omega) (by omega) _ ?_⟩) (fun g6 => k7 g1 g2 (by omega) (by omega) (by omega) _ ?_)⟩
        · have g6' : (en es i).kind ≠ 1 := by simpa using g6
          rw [seq0, Bool.not_eq_true', decide_eq_false_iff_not]
          exact ⟨fun hh => ⟨g6', hh⟩, fun hh => hh.2⟩
        · have g6' : (en es i).kind = 1 := by simpa using g6
          exact ⟨fun hh => (by cases hh), fun hh => absurd g6' hh.1⟩
    have k3 : ∀ bb : Bool, (bb = true ↔ (en es i).kind < 1 ∨ (en es i).kind > 4) → F30_k3 a l c i (at0 b) bb h' fun v h' => v = .int .i64 (st es i) ∧ Ext h h' := by
      intro bb hbb
      unfold F30_k3
      refine br_of (fun g => bad s 13 (by decide) ?_) (fun g => ?_)
      · have := hbb.1 g
        rw [hA]
        repeat' split
        all_goals first | rfl | omega
      · have hb' : ¬ ((en es i).kind < 1 ∨ (en es i).kind > 4) := fun hh => by rw [hbb.2 hh] at g; cases g
        unfold F30_k4
        refine ⟨_, c2, br_of (fun g6 => k5 (by omega) (by omega) _ ?_) (fun g6 => ⟨_, c2, br_of (fun g7 => k5 (by omega) (by omega) _ ?_) (fun g7 => ⟨_, c1, br_of (fun g8 => ⟨_, c2, k5 (by omega) (by omega) _ ?_⟩) (fun g8 => k5 (by omega) (by omega) _ ?_)⟩)⟩)⟩
        all_goals simp only [decide_eq_true_eq, decide_eq_false_iff_not] at *
        · simp; omega
        · simp; omega
        · simp at g8; simp; omega
        · simp at g8; simp; omega
    unfold F30_k2
    refine ⟨_, c1, br_of (fun g => k3 _ ?_) (fun g => ⟨_, c1, k3 _ ?_⟩)⟩
    · simp at g; simp; omega
    · simp at g; simp; omega
  have k1 : ∀ {h'}, St h h' [⟨b, entA (en es i), 30⟩] → ∀ bb : Bool, (bb = true ↔ badP (en es i).path) → F30_k1 a l c i (at0 b) bb h' fun v h' => v = .int .i64 (st es i) ∧ Ext h h' := by
    intro h' s bb hbb
    unfold F30_k1
    refine br_of (fun g => bad s 12 (by decide) (if_pos (hbb.1 g))) (fun g => k2 s fun hh => by rw [hbb.2 hh] at g; cases g)
  rw [seq_nil]
  refine br_of (fun g => k1 s2 _ ?_) (fun g => ⟨_, s2.cell 0 rfl rfl, ?_⟩)
  · exact ⟨fun _ => .inl (of_decide_eq_true g), fun _ => rfl⟩
  · refine HEnt.use (refIs_ok _ (by omega) h2) ?_
    rintro _ h3 ⟨rfl, x3⟩
    refine ⟨_, rfl, k1 (s2.grow x3) _ ?_⟩
    rw [Bool.not_eq_true', decide_eq_false_iff_not]
    exact ⟨.inr, fun hh => hh.resolve_left (of_decide_eq_false g)⟩

theorem refCheck_ok (a : Option Addr) (l c : Nat) (es : List EntV) (h : Heap) (w : Tab 4 h a l c (ents es)) (hs : Small es) (hl : l < 2 ^ 40) :
    HEnt Tryd.prog 16 #[.slice a l c] h fun v h' => v = resC (checkC es) ∧ Ext h h' := by
  have hlen : es.length = l := by have := w.len; rwa [ents_len] at this
  refine F16_ent _ _ _ _ _ ?_
  unfold F16
  refine br_of (fun g => ?_) (fun g => ?_)
  · have g' : l > 64 := by simp at g; omega
    exact ⟨by rw [check_big (by omega)]; rfl, Ext.refl _⟩
  have g' : l ≤ 64 := by simp at g; omega
  unfold F16_k1
  rintro _ rfl
  refine ⟨fun x hh => ∃ k : Nat, x = k ∧ k ≤ l ∧ Ext h hh ∧ ∀ j < k, st es j = 0, fun x _ => ((l : Int) - x).toNat, ⟨0, rfl, by omega, Ext.refl _, fun j hj => absurd hj (Nat.not_lt_zero _)⟩, ?_⟩
  rintro h1 _ ⟨k, rfl, hk, x1, hz⟩
  unfold F16_b2
  refine br_of (fun g => ?_) (fun g => ?_)
  · have hk' : k < l := by simpa using g
    unfold F16_k3
    refine HEnt.use (wrong_ok a l c es k h1 (w.grow x1) hs hk' hl) ?_
    rintro _ h2 ⟨rfl, x2⟩
    refine ⟨_, rfl, br_of (fun g2 => ?_) (fun g2 => ?_)⟩
    · have g2' : st es k ≠ 0 := by simp at g2; omega
      exact ⟨by rw [check_bad (by omega) (by omega) g2' hz]; rfl, x1.trans x2⟩
    · have g2' : st es k = 0 := by simp at g2; omega
      unfold F16_k4
      rintro _ rfl
      rw [i64_lt _ (by omega) (by omega)]
      refine ⟨⟨k + 1, by omega, by omega, x1.trans x2, fun j hj => ?_⟩, by show ((l : Int) - ((k : Int) + 1)).toNat < ((l : Int) - k).toNat; omega⟩
      by_cases e : j = k
      · subst e; exact g2'
      · exact hz j (by omega)
  · have hk' : k = l := by
      have : ¬ (k : Int) < (l : Int) := by simpa using g
      omega
    unfold F16_k5
    exact ⟨by rw [check_fine (by omega) (fun j hj => hz j (by omega))]; rfl, x1⟩
end Go.Proofs.YtnahhdkekchmfaaDoor
