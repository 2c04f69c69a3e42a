import Derived.Test.YtcfegbpoailbdaaDoorVopD
import Derived.Test.YtcfegbpoailbdaaDoorOvlTj
import Derived.Test.YtcfegbpoailbdaaDoorVcW
import Derived.Test.YtcfegbpoailbdaaDoorVcS
import Derived.Test.YtcfegbpoailbdaaDoorVcX

namespace Go.Lay
open Go.Vc Go.Sha Go.Trail
/-- an entry of a layer -/
structure EntV where
  path : ByteArray
  kind : Int
  mode : Int
  body : ByteArray
def entC (e : EntV) : List Value := [.string e.path, .int .i64 e.kind, .int .i64 e.mode, .string e.body]
def ents (es : List EntV) : List (List Value) := es.map entC
theorem entC_one (e : EntV) : ∀ u ∈ entC e, one u = true := by
  intro u hu; simp only [entC, List.mem_cons, List.not_mem_nil, or_false] at hu
  rcases hu with rfl | rfl | rfl | rfl <;> rfl
def entA (e : EntV) : Array Value := #[.string e.path, .int .i64 e.kind, .int .i64 e.mode, .string e.body]
theorem entA_size (e : EntV) : (entA e).size = 4 := rfl
theorem entA_one (e : EntV) : ∀ u ∈ (entA e).toList, one u = true := entC_one e
theorem ents_len (es : List EntV) : (ents es).length = es.length := by simp [ents]
def Small (es : List EntV) : Prop := ∀ e ∈ es, e.path.size < 2 ^ 29 ∧ e.body.size < 2 ^ 29
theorem ent_get {h : Heap} {a : Option Addr} {l c : Nat} {es : List EntV} (w : Tab 4 h a l c (ents es)) {i : Nat} {e : EntV} (hi : es[i]? = some e) :
    ∃ q, a = some q ∧ i < l ∧ Vc.cell h ((q.add (i * 4)).add 0) = some (.string e.path) ∧ Vc.cell h ((q.add (i * 4)).add 1) = some (.int .i64 e.kind) ∧ Vc.cell h ((q.add (i * 4)).add 2) = some (.int .i64 e.mode) ∧ Vc.cell h ((q.add (i * 4)).add 3) = some (.string e.body) := by
  obtain ⟨q, e1, h1, h2⟩ := w.get (i := i) (r := entC e) (by simp [ents, hi])
  exact ⟨q, e1, h1, h2 0 _ rfl, h2 1 _ rfl, h2 2 _ rfl, h2 3 _ rfl⟩
/-- the last made local, written whole -/
theorem fill {h0 h : Heap} {b : Nat} {cs vs : Array Value} {t : TypeId} {L : List Vc.Loc} {K : Heap → Prop} {n : Nat} (s : St h0 h (⟨b, cs, t⟩ :: L)) (hs : cs.size = n) (hn : vs.size = n) (h1 : ∀ u ∈ vs.toList, one u = true)
    (hK : ∀ h', St h0 h' (⟨b, vs, t⟩ :: L) → Only b h h' → K h') : storeK n h (at0 b) (.agg vs) K :=
  s.storeAll 0 rfl hn hs h1 fun h' s' o => hK h' s' o
open Classical in
/-- what is wrong with an entry by itself -/
noncomputable def aloneC (badPath : Prop) (e : EntV) : Nat :=
  if badPath then 12 else if e.kind < 1 ∨ e.kind > 4 then 13 else if e.mode < 0 ∨ e.mode > 511 ∨ (e.kind = 3 ∧ e.mode ≠ 0) then 2
  else if e.kind ≠ 1 ∧ e.body.size ≠ 0 then 5 else if e.body.size > 256 then 3 else 0
end Go.Lay
namespace Go.Proofs.YtcfegbpoailbdaaDoor
open Go.Vc Go.Sha Go.Trail Go.Lay
set_option linter.unusedVariables false

theorem zero38 : (zeroC Tryd.prog 38).size = 4 := by kernel_rfl
theorem seq0 (s : ByteArray) : seq s ⟨#[]⟩ = decide (s.size = 0) := by
  rw [seq_nil, Bool.eq_iff_iff, decide_eq_true_eq, decide_eq_true_eq, ← lst_len, List.length_eq_zero_iff]
def badP (s : ByteArray) : Prop := lst s = [] ∨ ¬ good (lst s)
theorem badP_clean (s : ByteArray) : badP s ↔ (clean (lst s)).2 ≠ 0 ∨ (clean (lst s)).1 ≠ lst s ∨ (clean (lst s)).1 = [] := by
  unfold badP
  rw [good_iff]
  constructor
  · rintro (h | h)
    · by_cases g : (clean (lst s)).2 ≠ 0
      · exact .inl g
      · by_cases g2 : (clean (lst s)).1 = lst s
        · exact .inr (.inr (g2.trans h))
        · exact .inr (.inl g2)
    · by_cases g : (clean (lst s)).2 ≠ 0
      · exact .inl g
      · by_cases g2 : (clean (lst s)).1 = lst s
        · exact absurd (Prod.ext g2 (by omega)) h
        · exact .inr (.inl g2)
  · intro h
    by_cases g : clean (lst s) = (lst s, 0)
    · rw [g] at h; simp at h; exact .inl h
    · exact .inr g
noncomputable def stA (e : EntV) : Nat := aloneC (badP e.path) e
theorem alone_ok (e : EntV) (hs : e.path.size < 2 ^ 30) (h : Heap) (hm : MaxAt h) : HEnt Tryd.prog 40 #[.agg #[.string e.path, .int .i64 e.kind, .int .i64 e.mode, .string e.body]] h fun v h' => v = .int .i64 (stA e) ∧ Ext h h' := by
  refine F40_ent _ _ _ _ _ _ ?_
  unfold F40
  refine (St.start h).new fun b h1 s1 x1 _ => ?_
  refine ⟨e.path, s1.cell 0 rfl rfl, ?_⟩
  refine HEnt.use (clean_ok _ hs h1 (hm.ext x1)) ?_
  rintro _ h2 ⟨rfl, x2⟩
  have s2 := s1.grow x2
  have hlt := clean_lt (lst e.path)
  have c1 : Vc.cell h2 ((at0 b).add 1) = some (.int .i64 e.kind) := s2.cell 0 rfl rfl
  have c2 : Vc.cell h2 ((at0 b).add 2) = some (.int .i64 e.mode) := s2.cell 0 rfl rfl
  have c3 : Vc.cell h2 ((at0 b).add 3) = some (.string e.body) := s2.cell 0 rfl rfl
  have fin : ∀ n : Nat, stA e = n → (Value.int .i64 (n : Int) = .int .i64 (stA e) ∧ Ext h h2) := fun n hn => ⟨by rw [hn], s2.ext⟩
  have k6 : ¬ badP e.path → 1 ≤ e.kind → e.kind ≤ 4 → e.kind ≠ 1 → 0 ≤ e.mode → e.mode ≤ 511 → (e.kind = 3 → e.mode = 0) → F40_k6 (at0 b) h2 fun v h' => v = .int .i64 (stA e) ∧ Ext h h' := by
    intro hp g1 g2 g3 g4 g5 g6
    unfold F40_k6
    refine ⟨_, c3, ?_⟩
    rw [seq0]
    refine br_of (fun g => fin 5 ?_) (fun g => fin 0 ?_) <;> simp only [Bool.not_eq_true', Bool.not_eq_false', decide_eq_false_iff_not, decide_eq_true_eq] at g <;> simp only [stA, aloneC, if_neg hp] <;> repeat' split
    all_goals first | rfl | omega
  have k4 : ∀ x5 : Int, ¬ badP e.path → (e.kind = 3 ∧ x5 = 0 ∨ (e.kind = 2 ∨ e.kind = 4) ∧ x5 = 511) → F40_k4 (at0 b) x5 h2 fun v h' => v = .int .i64 (stA e) ∧ Ext h h' := by
    intro x5 hp g
    unfold F40_k4
    have bad : e.mode < 0 ∨ e.mode > x5 → F40_k5 (at0 b) true h2 fun v h' => v = .int .i64 (stA e) ∧ Ext h h' := by
      intro g2
      unfold F40_k5
      refine br_of (fun _ => fin 2 ?_) (fun hb => by cases hb)
      simp only [stA, aloneC, if_neg hp]
      repeat' split
      all_goals first | rfl | omega
    refine ⟨_, c2, br_of (fun g2 => bad (.inl (of_decide_eq_true g2))) (fun g2 => ⟨_, c2, ?_⟩)⟩
    have g2' := of_decide_eq_false g2
    by_cases g3 : e.mode > x5
    · rw [decide_eq_true g3]; exact bad (.inr g3)
    · rw [decide_eq_false g3]
      unfold F40_k5
      refine br_of (fun hb => by cases hb) (fun _ => k6 hp (by omega) (by omega) (by omega) (by omega) (by omega) (by omega))
  have k2 : ¬ badP e.path → F40_k2 (at0 b) h2 fun v h' => v = .int .i64 (stA e) ∧ Ext h h' := by
    intro hp
    unfold F40_k2
    refine ⟨_, c1, br_of (fun g => ?_) (fun g => ?_)⟩
    · unfold F40_k3
      exact k4 0 hp (.inl ⟨by simpa using g, rfl⟩)
    · have g' : e.kind ≠ 3 := by simpa using g
      unfold F40_k8
      have k9 : ∀ bb : Bool, (bb = true ↔ e.kind = 2 ∨ e.kind = 4) → F40_k9 (at0 b) 511 e.kind bb h2 fun v h' => v = .int .i64 (stA e) ∧ Ext h h' := by
        intro bb hbb
        unfold F40_k9
        refine br_of (fun g2 => k4 511 hp (.inr ⟨hbb.1 g2, rfl⟩)) (fun g2 => ?_)
        have g3 : ¬ (e.kind = 2 ∨ e.kind = 4) := fun hh => by rw [hbb.2 hh] at g2; cases g2
        unfold F40_k10
        refine br_of (fun g4 => ?_) (fun g4 => ?_)
        · have g4' : e.kind = 1 := by simpa using g4
          unfold F40_k11
          have bad : e.mode < 0 ∨ e.mode > 511 → F40_k12 (at0 b) true h2 fun v h' => v = .int .i64 (stA e) ∧ Ext h h' := by
            intro g5
            unfold F40_k12
            refine br_of (fun _ => fin 2 ?_) (fun hb => by cases hb)
            simp only [stA, aloneC, if_neg hp]
            repeat' split
            all_goals first | rfl | omega
          refine ⟨_, c2, br_of (fun g5 => bad (.inl (of_decide_eq_true g5))) (fun g5 => ⟨_, c2, ?_⟩)⟩
          have g5' := of_decide_eq_false g5
          by_cases g6 : e.mode > 511
          · rw [decide_eq_true g6]; exact bad (.inr g6)
          · rw [decide_eq_false g6]
            unfold F40_k12
            refine br_of (fun hb => by cases hb) (fun _ => ?_)
            unfold F40_k13
            refine ⟨_, c3, br_of (fun g7 => fin 3 ?_) (fun g7 => fin 0 ?_)⟩ <;> simp at g7 <;> simp only [stA, aloneC, if_neg hp] <;> repeat' split
            all_goals first | rfl | omega
        · have g4' : e.kind ≠ 1 := by simpa using g4
          unfold F40_k14
          refine fin 13 ?_
          simp only [stA, aloneC, if_neg hp]
          repeat' split
          all_goals first | rfl | omega
      refine br_of (fun g2 => k9 _ ?_) (fun g2 => k9 _ ?_)
      · have : e.kind = 2 := by simpa using g2
        simp [this]
      · have : e.kind ≠ 2 := by simpa using g2
        simp [this]
  have k1 : ∀ bb : Bool, (bb = true ↔ badP e.path) → F40_k1 (at0 b) bb h2 fun v h' => v = .int .i64 (stA e) ∧ Ext h h' := by
    intro bb hbb
    unfold F40_k1
    refine br_of (fun g => fin 12 ?_) (fun g => k2 fun hh => by rw [hbb.2 hh] at g; cases g)
    simp only [stA, aloneC, if_pos (hbb.1 g)]
  refine ⟨_, _, rfl, br_of (fun g => k1 true ?_) (fun g => ⟨e.path, s2.cell 0 rfl rfl, br_of (fun g2 => k1 true ?_) (fun g2 => k1 _ ?_)⟩)⟩
  · rw [badP_clean]
    refine ⟨fun _ => .inl ?_, fun _ => rfl⟩
    simp at g; omega
  · rw [badP_clean]
    refine ⟨fun _ => .inr (.inl ?_), fun _ => rfl⟩
    rw [seq_str _ hlt] at g2; simpa using g2
  · rw [badP_clean, seq_str_nil _ hlt, decide_eq_true_eq]
    rw [seq_str _ hlt] at g2
    simp at g g2
    refine ⟨fun hh => .inr (.inr hh), ?_⟩
    rintro (hh | hh | hh)
    · omega
    · exact absurd g2 hh
    · exact hh
end Go.Proofs.YtcfegbpoailbdaaDoor

namespace Go.Proofs.YtcfegbpoailbdaaDoor
open Go.Vc Go.Sha Go.Trail Go.Lay
set_option linter.unusedVariables false
def e0 : EntV := ⟨ByteArray.empty, 0, 0, ByteArray.empty⟩
/-- the i-th entry -/
def en (es : List EntV) (i : Nat) : EntV := es.getD i e0
def pa (es : List EntV) (i : Nat) : List Nat := lst (en es i).path
def hides (e : EntV) : Prop := e.kind = 1 ∨ e.kind = 3
open Classical in
/-- what is wrong with the i-th entry -/
noncomputable def st (es : List EntV) (i : Nat) : Nat :=
  if stA (en es i) ≠ 0 then stA (en es i) else if 0 < i ∧ lexK (pa es (i - 1)) (pa es i) = false then 14
  else if ∃ j, j < i ∧ hides (en es j) ∧ inP (pa es j) (pa es i) = true then 11 else 0
theorem en_get {es : List EntV} {i : Nat} (hi : i < es.length) : es[i]? = some (en es i) := by
  rw [en, List.getD_eq_getElem?_getD, List.getElem?_eq_getElem hi]; rfl
theorem en_mem {es : List EntV} {i : Nat} (hi : i < es.length) : en es i ∈ es := List.mem_of_getElem? (en_get hi)
/-- what Check tells -/
noncomputable def checkC (es : List EntV) : Nat × Nat :=
  if es.length > 64 then (0, 3) else match (List.range es.length).find? (fun i => decide (st es i ≠ 0)) with
  | none => (0, 0)
  | some i => (i, st es i)
theorem check_big {es : List EntV} (h : es.length > 64) : checkC es = (0, 3) := if_pos h
theorem check_bad {es : List EntV} (h : es.length ≤ 64) {i : Nat} (hi : i < es.length) (hs : st es i ≠ 0) (hb : ∀ j < i, st es j = 0) : checkC es = (i, st es i) := by
  unfold checkC
  rw [if_neg (by omega)]
  have : (List.range es.length).find? (fun i => decide (st es i ≠ 0)) = some i := by
    rw [List.find?_range_eq_some]
    refine ⟨by simpa using hs, by simpa using hi, fun j hj => by simpa using hb j hj⟩
  rw [this]
theorem check_fine {es : List EntV} (h : es.length ≤ 64) (hb : ∀ j < es.length, st es j = 0) : checkC es = (0, 0) := by
  unfold checkC
  rw [if_neg (by omega)]
  have : (List.range es.length).find? (fun i => decide (st es i ≠ 0)) = none := by
    rw [List.find?_range_eq_none]
    intro j hj; simpa using hb j hj
  rw [this]
theorem check_zero {es : List EntV} (h : (checkC es).2 = 0) : es.length ≤ 64 ∧ (∀ j < es.length, st es j = 0) ∧ checkC es = (0, 0) := by
  by_cases hl : es.length > 64
  · rw [check_big hl] at h; cases h
  · have hl' : es.length ≤ 64 := by omega
    by_cases g : ∀ j < es.length, st es j = 0
    · exact ⟨hl', g, check_fine hl' g⟩
    · exfalso
      have : ∃ i, i < es.length ∧ st es i ≠ 0 ∧ ∀ j < i, st es j = 0 := by
        have g' : ∃ i, i < es.length ∧ st es i ≠ 0 := by
          refine Classical.byContradiction fun hh => g fun j hj => Classical.byContradiction fun h3 => hh ⟨j, hj, h3⟩
        obtain ⟨i, hi, hs⟩ := g'
        induction i using Nat.strongRecOn with
        | ind i ih =>
          by_cases hb : ∀ j < i, st es j = 0
          · exact ⟨i, hi, hs, hb⟩
          · have : ∃ j, j < i ∧ st es j ≠ 0 := Classical.byContradiction fun hh => hb fun j hj => Classical.byContradiction fun h3 => hh ⟨j, hj, h3⟩
            obtain ⟨j, hj, h3⟩ := this
            exact ih j hj (by omega) h3
      obtain ⟨i, hi, hs, hb⟩ := this
      rw [check_bad hl' hi hs hb] at h
      exact hs h
def resC (r : Nat × Nat) : Value := .tuple #[.int .i64 r.1, .int .i64 r.2]

theorem wrong_ok (a : Option Addr) (l c : Nat) (es : List EntV) (i : Nat) (h : Heap) (w : Tab 4 h a l c (ents es)) (hs : Small es) (hi : i < l) (hl : l < 2 ^ 40) :
    HEnt Tryd.prog 48 #[.slice a l c, .int .i64 i] h fun v h' => v = .int .i64 (st es i) ∧ Ext h h' := by
  have hlen : es.length = l := by have := w.len; rwa [ents_len] at this
  have hi' : i < es.length := by omega
  have hsm := hs _ (en_mem hi')
  obtain ⟨q, eq, _, c0, c1, c2, c3⟩ := ent_get w (en_get hi')
  refine F48_ent _ _ _ _ _ _ ?_
  unfold F48
  refine ⟨q, eq, by omega, by omega, _, _, _, _, c0, c1, c2, c3, rfl, ?_⟩
  refine (St.start h).new fun b h1 s1 x1 _ => ?_
  refine fill (vs := entA (en es i)) s1 zero38 (entA_size _) (entA_one _) fun h2 s2 o2 => ?_
  refine ⟨_, s2.cell 0 rfl rfl, ?_⟩
  have fin : ∀ {h' : Heap} {cs}, St h h' [⟨b, cs, 38⟩] → ∀ n : Nat, st es i = n → (Value.int .i64 (n : Int) = .int .i64 (st es i) ∧ Ext h h') := fun s n hn => ⟨by rw [hn], s.ext⟩
  -- behind what alone asks
  have k9 : ∀ {h'}, St h h' [⟨b, entA (en es i), 38⟩] → stA (en es i) = 0 → F48_k9 a l c i (at0 b) h' fun v h' => v = .int .i64 (st es i) ∧ Ext h h' := by
    intro h' s hA
    have k11 : ∀ {h'}, St h h' [⟨b, entA (en es i), 38⟩] → ¬ (0 < i ∧ lexK (pa es (i - 1)) (pa es i) = false) → F48_k11 a l c i (at0 b) h' fun v h' => v = .int .i64 (st es i) ∧ Ext h h' := by
      intro h' s hO
      unfold F48_k11
      refine ⟨fun x hh => ∃ k : Nat, x = k ∧ k ≤ i ∧ St h hh [⟨b, entA (en es i), 38⟩] ∧ ∀ j < k, ¬ (hides (en es j) ∧ inP (pa es j) (pa es i) = true), fun x _ => ((i : Int) - x).toNat, ⟨0, rfl, by omega, s, fun j hj => absurd hj (Nat.not_lt_zero _)⟩, ?_⟩
      rintro h5 _ ⟨k, rfl, hk, s5, hno⟩
      unfold F48_b12
      refine br_of (fun g => ?_) (fun g => ?_)
      · have hk' : k < i := by simpa using g
        obtain ⟨q', eq', _, d0, d1, d2, d3⟩ := ent_get (w.grow s5.ext) (en_get (i := k) (by omega))
        rw [eq] at eq'; cases eq'
        have hsk := hs _ (en_mem (es := es) (i := k) (by omega))
        have k14 : ∀ bb : Bool, (bb = true ↔ hides (en es k) ∧ inP (pa es k) (pa es i) = true) → F48_k14 (fun x hh => ∃ k : Nat, x = k ∧ k ≤ i ∧ St h hh [⟨b, entA (en es i), 38⟩] ∧ ∀ j < k, ¬ (hides (en es j) ∧ inP (pa es j) (pa es i) = true)) (fun x _ => ((i : Int) - x).toNat) ((i : Int) - (k : Int)).toNat a l c i (at0 b) k bb h5 fun v h' => v = .int .i64 (st es i) ∧ Ext h h' := by
          intro bb hbb
          unfold F48_k14
          refine br_of (fun g2 => fin s5 11 ?_) (fun g2 => ?_)
          · unfold st
            rw [if_neg (by simp [hA]), if_neg hO, if_pos ⟨k, hk', hbb.1 g2⟩]
          · unfold F48_k15
            rw [i64_lt _ (by omega) (by omega)]
            refine ⟨⟨k + 1, by omega, by omega, s5, fun j hj => ?_⟩, by show ((i : Int) - ((k : Int) + 1)).toNat < ((i : Int) - k).toNat; omega⟩
            by_cases e : j = k
            · subst e; intro hh; rw [hbb.2 hh] at g2; cases g2
            · exact hno j (by omega)
        have asks : hides (en es k) → ∃ q94 : Addr, a = some q94 ∧ (0 : Int) ≤ k ∧ (k : Int) < (l : Int) ∧ ∃ s96 : ByteArray, Vc.cell h5 ((q94.add ((k : Int).toNat * 4)).add 0) = some (Value.string s96) ∧ ∃ s98 : ByteArray, Vc.cell h5 ((at0 b).add 0) = some (Value.string s98) ∧ ∃ b99 : Bool, (∀ h1, Cls false h5 h1 → HEnt Tryd.prog 53 #[Value.string s96, Value.string s98] h1 fun v h2 => v = Value.bool b99 ∧ Cls false h1 h2) ∧ ∀ h1, Cls false h5 h1 → F48_k14 (fun x hh => ∃ k : Nat, x = k ∧ k ≤ i ∧ St h hh [⟨b, entA (en es i), 38⟩] ∧ ∀ j < k, ¬ (hides (en es j) ∧ inP (pa es j) (pa es i) = true)) (fun x _ => ((i : Int) - x).toNat) ((i : Int) - (k : Int)).toNat a l c i (at0 b) k b99 h1 fun v h' => v = .int .i64 (st es i) ∧ Ext h h' := by
          intro hh
          refine ⟨q, eq, by omega, by omega, _, by rw [Int.toNat_natCast]; exact d0, _, s5.cell 0 rfl rfl, _, fun h6 e6 => refIn_ok _ _ (by omega) h6, fun h6 e6 => ?_⟩
          obtain rfl : h6 = h5 := e6
          exact k14 _ ⟨fun g2 => ⟨hh, g2⟩, fun g2 => g2.2⟩
        unfold F48_k13
        refine ⟨q, eq, by omega, by omega, _, by rw [Int.toNat_natCast]; exact d1, br_of (fun g2 => asks (.inl (by simpa using g2))) (fun g2 => ⟨q, eq, by omega, by omega, _, by rw [Int.toNat_natCast]; exact d1, br_of (fun g3 => asks (.inr (by simpa using g3))) (fun g3 h6 e6 => ?_)⟩)⟩
        obtain rfl : h6 = h5 := e6
        refine k14 _ ⟨fun g4 => (by cases g4), fun g4 => ?_⟩
        rcases g4.1 with g4 | g4 <;> simp [g4] at g2 g3
      · have hk' : k = i := by
          have : ¬ (k : Int) < (i : Int) := by simpa using g
          omega
        subst hk'
        unfold F48_k16
        refine fin s5 0 ?_
        unfold st
        rw [if_neg (by simp [hA]), if_neg hO, if_neg]
        rintro ⟨j, hj, hh⟩
        exact hno j hj hh
    have k10 : ∀ {h'}, St h h' [⟨b, entA (en es i), 38⟩] → ∀ bb : Bool, (bb = true ↔ 0 < i ∧ lexK (pa es (i - 1)) (pa es i) = false) → F48_k10 a l c i (at0 b) bb h' fun v h' => v = .int .i64 (st es i) ∧ Ext h h' := by
      intro h' s bb hbb
      unfold F48_k10
      refine br_of (fun g => fin s 14 ?_) (fun g => k11 s fun hh => by rw [hbb.2 hh] at g; cases g)
      unfold st
      rw [if_neg (by simp [hA]), if_pos (hbb.1 g)]
    unfold F48_k9
    refine br_of (fun g => ?_) (fun g h6 e6 => k10 (s.grow e6) _ ⟨fun g2 => (by cases g2), fun g2 => ?_⟩)
    · have g' : 0 < i := by simpa using g
      have e1 : IntKind.i64.wrap ((i : Int) - 1) = ((i - 1 : Nat) : Int) := by rw [i64_lt _ (by omega) (by omega)]; omega
      obtain ⟨q', eq', _, d0, d1, d2, d3⟩ := ent_get (w.grow s.ext) (en_get (i := i - 1) (by omega))
      rw [eq] at eq'; cases eq'
      have hsk := hs _ (en_mem (es := es) (i := i - 1) (by omega))
      rw [e1]
      refine ⟨q, eq, by omega, by omega, _, by rw [Int.toNat_natCast]; exact d0, _, s.cell 0 rfl rfl, _, fun h6 e6 => refLess_ok _ _ (by omega) (by omega) h6, fun h6 e6 => k10 (s.grow e6) _ ?_⟩
      rw [Bool.not_eq_true']
      exact ⟨fun g2 => ⟨g', g2⟩, fun g2 => g2.2⟩
    · have := g2.1
      simp at g; omega
  have bad : ∀ {h'}, St h h' [⟨b, entA (en es i), 38⟩] → ∀ n : Nat, n ≠ 0 → stA (en es i) = n → (Value.int .i64 (n : Int) = .int .i64 (st es i) ∧ Ext h h') := fun s n h0 hn => fin s n (by
    unfold st
    rw [if_pos (by omega), hn])
  have k2 : ∀ {h'}, St h h' [⟨b, entA (en es i), 38⟩] → ¬ badP (en es i).path → F48_k2 a l c i (at0 b) h' fun v h' => v = .int .i64 (st es i) ∧ Ext h h' := by
    intro h' s hp
    have c1 : Vc.cell h' ((at0 b).add 1) = some (.int .i64 (en es i).kind) := s.cell 0 rfl rfl
    have c2 : Vc.cell h' ((at0 b).add 2) = some (.int .i64 (en es i).mode) := s.cell 0 rfl rfl
    have c3 : Vc.cell h' ((at0 b).add 3) = some (.string (en es i).body) := s.cell 0 rfl rfl
    have hA : stA (en es i) = _ := if_neg hp
    have k7 : 1 ≤ (en es i).kind → (en es i).kind ≤ 4 → 0 ≤ (en es i).mode → (en es i).mode ≤ 511 → ((en es i).kind = 3 → (en es i).mode = 0) → ∀ bb : Bool, (bb = true ↔ (en es i).kind ≠ 1 ∧ (en es i).body.size ≠ 0) → F48_k7 a l c i (at0 b) bb h' fun v h' => v = .int .i64 (st es i) ∧ Ext h h' := by
      intro g1 g2 g3 g4 g5 bb hbb
      unfold F48_k7
      refine br_of (fun g => bad s 5 (by decide) ?_) (fun g => ?_)
      · have := hbb.1 g
        rw [hA]
        repeat' split
        all_goals first | rfl | omega
      · have hb' : ¬ ((en es i).kind ≠ 1 ∧ (en es i).body.size ≠ 0) := fun hh => by rw [hbb.2 hh] at g; cases g
        unfold F48_k8
        refine ⟨_, c3, br_of (fun g6 => bad s 3 (by decide) ?_) (fun g6 => k9 s ?_)⟩ <;> simp at g6 <;> rw [hA] <;> repeat' split
        all_goals first | rfl | omega
    have k5 : 1 ≤ (en es i).kind → (en es i).kind ≤ 4 → ∀ bb : Bool, (bb = true ↔ (en es i).mode < 0 ∨ (en es i).mode > 511 ∨ ((en es i).kind = 3 ∧ (en es i).mode ≠ 0)) → F48_k5 a l c i (at0 b) bb h' fun v h' => v = .int .i64 (st es i) ∧ Ext h h' := by
      intro g1 g2 bb hbb
      unfold F48_k5
      refine br_of (fun g => bad s 2 (by decide) ?_) (fun g => ?_)
      · have := hbb.1 g
        rw [hA]
        repeat' split
        all_goals first | rfl | omega
      · have hb' : ¬ ((en es i).mode < 0 ∨ (en es i).mode > 511 ∨ ((en es i).kind = 3 ∧ (en es i).mode ≠ 0)) := fun hh => by rw [hbb.2 hh] at g; cases g
        unfold F48_k6
        refine ⟨_, c1, br_of (fun g6 => ⟨_, c3, k7 g1 g2 (by omega) (by omega) (by omega) _ ?_⟩) (fun g6 => k7 g1 g2 (by omega) (by omega) (by omega) _ ?_)⟩
        · have g6' : (en es i).kind ≠ 1 := by simpa using g6
          rw [seq0, Bool.not_eq_true', decide_eq_false_iff_not]
          exact ⟨fun hh => ⟨g6', hh⟩, fun hh => hh.2⟩
        · have g6' : (en es i).kind = 1 := by simpa using g6
          exact ⟨fun hh => (by cases hh), fun hh => absurd g6' hh.1⟩
    have k3 : ∀ bb : Bool, (bb = true ↔ (en es i).kind < 1 ∨ (en es i).kind > 4) → F48_k3 a l c i (at0 b) bb h' fun v h' => v = .int .i64 (st es i) ∧ Ext h h' := by
      intro bb hbb
      unfold F48_k3
      refine br_of (fun g => bad s 13 (by decide) ?_) (fun g => ?_)
      · have := hbb.1 g
        rw [hA]
        repeat' split
        all_goals first | rfl | omega
      · have hb' : ¬ ((en es i).kind < 1 ∨ (en es i).kind > 4) := fun hh => by rw [hbb.2 hh] at g; cases g
        unfold F48_k4
        refine ⟨_, c2, br_of (fun g6 => k5 (by omega) (by omega) _ ?_) (fun g6 => ⟨_, c2, br_of (fun g7 => k5 (by omega) (by omega) _ ?_) (fun g7 => ⟨_, c1, br_of (fun g8 => ⟨_, c2, k5 (by omega) (by omega) _ ?_⟩) (fun g8 => k5 (by omega) (by omega) _ ?_)⟩)⟩)⟩
        all_goals simp only [decide_eq_true_eq, decide_eq_false_iff_not] at *
        · simp; omega
        · simp; omega
        · simp at g8; simp; omega
        · simp at g8; simp; omega
    unfold F48_k2
    refine ⟨_, c1, br_of (fun g => k3 _ ?_) (fun g => ⟨_, c1, k3 _ ?_⟩)⟩
    · simp at g; simp; omega
    · simp at g; simp; omega
  have k1 : ∀ {h'}, St h h' [⟨b, entA (en es i), 38⟩] → ∀ bb : Bool, (bb = true ↔ badP (en es i).path) → F48_k1 a l c i (at0 b) bb h' fun v h' => v = .int .i64 (st es i) ∧ Ext h h' := by
    intro h' s bb hbb
    unfold F48_k1
    refine br_of (fun g => bad s 12 (by decide) (if_pos (hbb.1 g))) (fun g => k2 s fun hh => by rw [hbb.2 hh] at g; cases g)
  rw [seq_nil]
  refine br_of (fun g => k1 s2 _ ?_) (fun g => ⟨_, s2.cell 0 rfl rfl, ?_⟩)
  · exact ⟨fun _ => .inl (of_decide_eq_true g), fun _ => rfl⟩
  · refine HEnt.use (refIs_ok _ (by omega) h2) ?_
    rintro _ h3 ⟨rfl, x3⟩
    refine ⟨_, rfl, k1 (s2.grow x3) _ ?_⟩
    rw [Bool.not_eq_true', decide_eq_false_iff_not]
    exact ⟨.inr, fun hh => hh.resolve_left (of_decide_eq_false g)⟩

theorem refCheck_ok (a : Option Addr) (l c : Nat) (es : List EntV) (h : Heap) (w : Tab 4 h a l c (ents es)) (hs : Small es) (hl : l < 2 ^ 40) :
    HEnt Tryd.prog 29 #[.slice a l c] h fun v h' => v = resC (checkC es) ∧ Ext h h' := by
  have hlen : es.length = l := by have := w.len; rwa [ents_len] at this
  refine F29_ent _ _ _ _ _ ?_
  unfold F29
  refine br_of (fun g => ?_) (fun g => ?_)
  · have g' : l > 64 := by simp at g; omega
    exact ⟨by rw [check_big (by omega)]; rfl, Ext.refl _⟩
  have g' : l ≤ 64 := by simp at g; omega
  unfold F29_k1
  rintro _ rfl
  refine ⟨fun x hh => ∃ k : Nat, x = k ∧ k ≤ l ∧ Ext h hh ∧ ∀ j < k, st es j = 0, fun x _ => ((l : Int) - x).toNat, ⟨0, rfl, by omega, Ext.refl _, fun j hj => absurd hj (Nat.not_lt_zero _)⟩, ?_⟩
  rintro h1 _ ⟨k, rfl, hk, x1, hz⟩
  unfold F29_b2
  refine br_of (fun g => ?_) (fun g => ?_)
  · have hk' : k < l := by simpa using g
    unfold F29_k3
    refine HEnt.use (wrong_ok a l c es k h1 (w.grow x1) hs hk' hl) ?_
    rintro _ h2 ⟨rfl, x2⟩
    refine ⟨_, rfl, br_of (fun g2 => ?_) (fun g2 => ?_)⟩
    · have g2' : st es k ≠ 0 := by simp at g2; omega
      exact ⟨by rw [check_bad (by omega) (by omega) g2' hz]; rfl, x1.trans x2⟩
    · have g2' : st es k = 0 := by simp at g2; omega
      unfold F29_k4
      rintro _ rfl
      rw [i64_lt _ (by omega) (by omega)]
      refine ⟨⟨k + 1, by omega, by omega, x1.trans x2, fun j hj => ?_⟩, by show ((l : Int) - ((k : Int) + 1)).toNat < ((l : Int) - k).toNat; omega⟩
      by_cases e : j = k
      · subst e; exact g2'
      · exact hz j (by omega)
  · have hk' : k = l := by
      have : ¬ (k : Int) < (l : Int) := by simpa using g
      omega
    unfold F29_k5
    exact ⟨by rw [check_fine (by omega) (fun j hj => hz j (by omega))]; rfl, x1⟩
end Go.Proofs.YtcfegbpoailbdaaDoor

namespace Go.Proofs.YtcfegbpoailbdaaDoor
open Go.Vc Go.Sha Go.Trail Go.Lay
set_option linter.unusedVariables false
/-- the last of the entries ahead of k that hides what is below it -/
def Over (es : List EntV) (k : Nat) (s : ByteArray) : Prop :=
  (lst s = [] ∧ ∀ j < k, ¬ hides (en es j)) ∨ ∃ J, J < k ∧ hides (en es J) ∧ s = (en es J).path ∧ ∀ j, J < j → j < k → ¬ hides (en es j)
theorem Over.next {es : List EntV} {k : Nat} {s : ByteArray} (o : Over es k s) (h : ¬ hides (en es k)) : Over es (k + 1) s := by
  rcases o with ⟨h1, h2⟩ | ⟨J, h1, h2, h3, h4⟩
  · exact .inl ⟨h1, fun j hj => by by_cases e : j = k; exact e ▸ h; exact h2 j (by omega)⟩
  · exact .inr ⟨J, by omega, h2, h3, fun j g1 g2 => by by_cases e : j = k; exact e ▸ h; exact h4 j g1 (by omega)⟩
theorem Over.here {es : List EntV} {k : Nat} (h : hides (en es k)) : Over es (k + 1) (en es k).path := .inr ⟨k, by omega, h, rfl, fun j g1 g2 => by omega⟩
theorem stA_zero {e : EntV} (h : stA e = 0) : ¬ badP e.path ∧ 1 ≤ e.kind ∧ e.kind ≤ 4 ∧ 0 ≤ e.mode ∧ e.mode ≤ 511 ∧ (e.kind = 3 → e.mode = 0) ∧ (e.kind ≠ 1 → e.body.size = 0) ∧ e.body.size ≤ 256 := by
  unfold stA aloneC at h
  by_cases hp : badP e.path
  · rw [if_pos hp] at h; cases h
  rw [if_neg hp] at h
  refine ⟨hp, ?_⟩
  repeat' split at h
  all_goals first | (cases h; done) | skip
  refine ⟨by omega, by omega, by omega, by omega, by omega, by omega, by omega⟩
theorem st_zero {es : List EntV} {i : Nat} (h : st es i = 0) : stA (en es i) = 0 ∧ (0 < i → lexK (pa es (i - 1)) (pa es i) = true) ∧ ∀ j < i, hides (en es j) → inP (pa es j) (pa es i) = false := by
  unfold st at h
  by_cases h1 : stA (en es i) ≠ 0
  · rw [if_pos h1] at h; exact absurd h h1
  rw [if_neg h1] at h
  by_cases h2 : 0 < i ∧ lexK (pa es (i - 1)) (pa es i) = false
  · rw [if_pos h2] at h; cases h
  rw [if_neg h2] at h
  by_cases h3 : ∃ j, j < i ∧ hides (en es j) ∧ inP (pa es j) (pa es i) = true
  · rw [if_pos h3] at h; cases h
  refine ⟨by omega, fun g => ?_, fun j hj hh => ?_⟩
  · cases e : lexK (pa es (i - 1)) (pa es i)
    · exact absurd ⟨g, e⟩ h2
    · rfl
  · cases e : inP (pa es j) (pa es i)
    · rfl
    · exact absurd ⟨j, hj, hh, e⟩ h3
theorem lexK_asymm {p q : List Nat} (h : lexK p q = true) : lexK q p = false := by
  cases e : lexK q p
  · rfl
  · have := lexK_trans _ _ _ h e
    rw [lexK_irr] at this; cases this
theorem sorted {es : List EntV} {k : Nat} (h : ∀ i, 0 < i → i < k → lexK (pa es (i - 1)) (pa es i) = true) : ∀ i j, i < j → j < k → lexK (pa es i) (pa es j) = true := by
  intro i j
  induction j with
  | zero => intro hij; omega
  | succ j ih =>
    intro hij hj
    have h1 := h (j + 1) (by omega) hj
    rw [Nat.add_sub_cancel] at h1
    by_cases e : i = j
    · subst e; exact h1
    · exact lexK_trans _ _ _ (ih (by omega) (by omega)) h1
/-- it is enough to look at the last one that hides -/
theorem over_iff {es : List EntV} {k : Nat} {s : ByteArray} (o : Over es k s) (hz : ∀ j < k, st es j = 0) (ho : 0 < k → lexK (pa es (k - 1)) (pa es k) = true) :
    (lst s ≠ [] ∧ inP (lst s) (pa es k) = true) ↔ ∃ j, j < k ∧ hides (en es j) ∧ inP (pa es j) (pa es k) = true := by
  have srt : ∀ i j, i < j → j < k + 1 → lexK (pa es i) (pa es j) = true := sorted fun i h0 hi => by
    by_cases e : i = k
    · subst e; exact ho h0
    · exact (st_zero (hz i (by omega))).2.1 h0
  constructor
  · rintro ⟨h1, h2⟩
    rcases o with ⟨h3, _⟩ | ⟨J, h3, h4, rfl, h5⟩
    · exact absurd h3 h1
    · exact ⟨J, h3, h4, h2⟩
  · rintro ⟨j, h1, h2, h3⟩
    rcases o with ⟨_, h4⟩ | ⟨J, h4, h5, rfl, h6⟩
    · exact absurd h2 (h4 j h1)
    · have hne : pa es J ≠ [] := fun hh => (stA_zero (st_zero (hz J h4)).1).1 (.inl hh)
      refine ⟨hne, ?_⟩
      by_cases e : j = J
      · subst e; exact h3
      · have hjJ : j < J := by
          refine Nat.lt_of_not_le fun hh => h6 j (by omega) h1 h2
        have := between h3 (lexK_asymm (srt j J hjJ (by omega))) (srt J k h4 (by omega))
        rw [(st_zero (hz J h4)).2.2 j hjJ h2] at this
        cases this

theorem check_ok (a : Option Addr) (l c : Nat) (es : List EntV) (h : Heap) (w : Tab 4 h a l c (ents es)) (hs : Small es) (hl : l < 2 ^ 40) (hm : MaxAt h) :
    HEnt Tryd.prog 22 #[.slice a l c] h fun v h' => v = resC (checkC es) ∧ Ext h h' := by
  have hlen : es.length = l := by have := w.len; rwa [ents_len] at this
  refine F22_ent _ _ _ _ _ ?_
  unfold F22
  refine br_of (fun g => ?_) (fun g => ?_)
  · have g' : l > 64 := by simp at g; omega
    exact ⟨by rw [check_big (by omega)]; rfl, Ext.refl _⟩
  have g' : l ≤ 64 := by simp at g; omega
  unfold F22_k1
  refine ⟨fun s x hh => ∃ k : Nat, x = k ∧ k ≤ l ∧ Ext h hh ∧ (∀ j < k, st es j = 0) ∧ Over es k s, fun _ x _ => ((l : Int) - x).toNat, ⟨0, rfl, by omega, Ext.refl _, fun j hj => absurd hj (Nat.not_lt_zero _), .inl ⟨rfl, fun j hj => absurd hj (Nat.not_lt_zero _)⟩⟩, ?_⟩
  rintro h1 s4 _ ⟨k, rfl, hk, x1, hz, ov⟩
  unfold F22_b2
  refine br_of (fun g => ?_) (fun g => ?_)
  case refine_2 =>
    have hk' : k = l := by
      have : ¬ (k : Int) < (l : Int) := by simpa using g
      omega
    unfold F22_k11
    exact ⟨by rw [check_fine (by omega) (fun j hj => hz j (by omega))]; rfl, x1⟩
  have hk' : k < l := by simpa using g
  obtain ⟨q, eq, _, c0, c1, c2, c3⟩ := ent_get (w.grow x1) (en_get (i := k) (by omega))
  have hsm := hs _ (en_mem (es := es) (i := k) (by omega))
  have hso : s4.size < 2 ^ 30 := by
    rcases ov with ⟨h3, _⟩ | ⟨J, h3, h4, rfl, h5⟩
    · have := lst_len s4; rw [h3] at this; simp at this; omega
    · have := hs _ (en_mem (es := es) (i := J) (by omega)); omega
  unfold F22_k3
  refine ⟨q, eq, by omega, by omega, _, _, _, _, by rw [Int.toNat_natCast]; exact c0, by rw [Int.toNat_natCast]; exact c1, by rw [Int.toNat_natCast]; exact c2, by rw [Int.toNat_natCast]; exact c3, rfl, ?_⟩
  refine (St.start h1).new fun b h2 s2 x2 _ => ?_
  refine fill (vs := entA (en es k)) s2 zero38 (entA_size _) (entA_one _) fun h3 s3 o3 => ?_
  refine ⟨_, _, _, _, s3.cell 0 rfl rfl, s3.cell 0 rfl rfl, s3.cell 0 rfl rfl, s3.cell 0 rfl rfl, rfl, ?_⟩
  refine HEnt.use (alone_ok (en es k) (by omega) h3 (hm.ext (x1.trans s3.ext))) ?_
  rintro _ h4 ⟨rfl, x4⟩
  have s4' := s3.grow x4
  have x14 := x1.trans s4'.ext
  have no : ∀ n : Nat, n ≠ 0 → st es k = n → (Value.tuple #[.int .i64 (k : Int), .int .i64 (n : Int)] = resC (checkC es) ∧ Ext h h4) := fun n hn hst => by
    refine ⟨?_, x14⟩
    rw [check_bad (by omega) (by omega) (by omega) hz, hst]; rfl
  refine ⟨_, rfl, br_of (fun g2 => no (stA (en es k)) ?_ ?_) (fun g2 => ?_)⟩
  · simp at g2; omega
  · have g2' : stA (en es k) ≠ 0 := by simp at g2; omega
    unfold st; rw [if_pos g2']
  have hA : stA (en es k) = 0 := by simp at g2; omega
  -- the order
  have k6 : (0 < k → lexK (pa es (k - 1)) (pa es k) = true) → F22_k6 (fun s x hh => ∃ k : Nat, x = k ∧ k ≤ l ∧ Ext h hh ∧ (∀ j < k, st es j = 0) ∧ Over es k s) (fun _ x _ => ((l : Int) - x).toNat) ((l : Int) - (k : Int)).toNat a l c s4 k (at0 b) a l c l k h4 fun v h' => v = resC (checkC es) ∧ Ext h h' := by
    intro ho
    have hO : ¬ (0 < k ∧ lexK (pa es (k - 1)) (pa es k) = false) := fun hh => by rw [ho hh.1] at hh; cases hh.2
    have k7 : ∀ bb : Bool, (bb = true ↔ lst s4 ≠ [] ∧ inP (lst s4) (pa es k) = true) → F22_k7 (fun s x hh => ∃ k : Nat, x = k ∧ k ≤ l ∧ Ext h hh ∧ (∀ j < k, st es j = 0) ∧ Over es k s) (fun _ x _ => ((l : Int) - x).toNat) ((l : Int) - (k : Int)).toNat a l c s4 k (at0 b) a l c l k bb h4 fun v h' => v = resC (checkC es) ∧ Ext h h' := by
      intro bb hbb
      rw [over_iff ov hz ho] at hbb
      unfold F22_k7
      refine br_of (fun g3 => no 11 (by decide) ?_) (fun g3 => ?_)
      · unfold st
        rw [if_neg (by simp [hA]), if_neg hO, if_pos (hbb.1 g3)]
      · have hst : st es k = 0 := by
          unfold st
          rw [if_neg (by simp [hA]), if_neg hO, if_neg]
          intro hh; rw [hbb.2 hh] at g3; cases g3
        have hz' : ∀ j < k + 1, st es j = 0 := fun j hj => by
          by_cases e : j = k
          · subst e; exact hst
          · exact hz j (by omega)
        have k10 : ∀ s', Over es (k + 1) s' → F22_k10 (fun s x hh => ∃ k : Nat, x = k ∧ k ≤ l ∧ Ext h hh ∧ (∀ j < k, st es j = 0) ∧ Over es k s) (fun _ x _ => ((l : Int) - x).toNat) ((l : Int) - (k : Int)).toNat a l c s' a l c l k h4 fun v h' => v = resC (checkC es) ∧ Ext h h' := by
          intro s' ov'
          unfold F22_k10
          rw [i64_lt _ (by omega) (by omega)]
          exact ⟨⟨k + 1, by omega, by omega, x14, hz', ov'⟩, by show ((l : Int) - ((k : Int) + 1)).toNat < ((l : Int) - k).toNat; omega⟩
        have k9 : ∀ b2 : Bool, (b2 = true ↔ hides (en es k)) → F22_k9 (fun s x hh => ∃ k : Nat, x = k ∧ k ≤ l ∧ Ext h hh ∧ (∀ j < k, st es j = 0) ∧ Over es k s) (fun _ x _ => ((l : Int) - x).toNat) ((l : Int) - (k : Int)).toNat a l c s4 (at0 b) a l c l k b2 h4 fun v h' => v = resC (checkC es) ∧ Ext h h' := by
          intro b2 hb2
          unfold F22_k9
          refine br_of (fun g4 => ⟨_, s4'.cell 0 rfl rfl, k10 _ (Over.here (hb2.1 g4))⟩) (fun g4 => k10 _ (ov.next fun hh => by rw [hb2.2 hh] at g4; cases g4))
        unfold F22_k8
        refine ⟨_, s4'.cell 0 rfl rfl, br_of (fun g4 => k9 _ ⟨fun _ => .inl (by simpa using g4), fun _ => rfl⟩) (fun g4 => ⟨_, s4'.cell 0 rfl rfl, k9 _ ?_⟩)⟩
        have g4' : (en es k).kind ≠ 1 := by simpa using g4
        rw [beq_iff_eq]
        exact ⟨.inr, fun hh => hh.resolve_left g4'⟩
    unfold F22_k6
    rw [seq_nil]
    refine br_of (fun g3 => ?_) (fun g3 => k7 _ ?_)
    · refine ⟨_, s4'.cell 0 rfl rfl, HEnt.use (in_ok _ _ (by omega) h4) ?_⟩
      rintro _ _ ⟨rfl, rfl⟩
      refine ⟨_, rfl, k7 _ ?_⟩
      rw [Bool.not_eq_true', decide_eq_false_iff_not] at g3
      exact ⟨fun hh => ⟨g3, hh⟩, fun hh => hh.2⟩
    · rw [Bool.not_eq_false', decide_eq_true_eq] at g3
      exact ⟨fun hh => (by cases hh), fun hh => absurd g3 hh.1⟩
  have k5 : ∀ bb : Bool, (bb = true ↔ 0 < k ∧ lexK (pa es (k - 1)) (pa es k) = false) → F22_k5 (fun s x hh => ∃ k : Nat, x = k ∧ k ≤ l ∧ Ext h hh ∧ (∀ j < k, st es j = 0) ∧ Over es k s) (fun _ x _ => ((l : Int) - x).toNat) ((l : Int) - (k : Int)).toNat a l c s4 k (at0 b) a l c l k bb h4 fun v h' => v = resC (checkC es) ∧ Ext h h' := by
    intro bb hbb
    unfold F22_k5
    refine br_of (fun g3 => no 14 (by decide) ?_) (fun g3 => k6 fun h0 => ?_)
    · unfold st
      rw [if_neg (by simp [hA]), if_pos (hbb.1 g3)]
    · cases e : lexK (pa es (k - 1)) (pa es k)
      · rw [hbb.2 ⟨h0, e⟩] at g3; cases g3
      · rfl
  unfold F22_k4
  refine br_of (fun g3 => ?_) (fun g3 h6 e6 => ?_)
  · have g3' : 0 < k := by simpa using g3
    have e1 : IntKind.i64.wrap ((k : Int) - 1) = ((k - 1 : Nat) : Int) := by rw [i64_lt _ (by omega) (by omega)]; omega
    obtain ⟨q', eq', _, d0, d1, d2, d3⟩ := ent_get (w.grow x14) (en_get (i := k - 1) (by omega))
    rw [eq] at eq'; cases eq'
    have hsk := hs _ (en_mem (es := es) (i := k - 1) (by omega))
    rw [e1]
    refine ⟨q, eq, by omega, by omega, _, by rw [Int.toNat_natCast]; exact d0, _, s4'.cell 0 rfl rfl, _, fun h6 e6 => less_ok _ _ (by omega) h6, fun h6 e6 => ?_⟩
    obtain rfl : h6 = h4 := e6
    refine k5 _ ?_
    rw [Bool.not_eq_true']
    exact ⟨fun g4 => ⟨g3', g4⟩, fun g4 => g4.2⟩
  · obtain rfl : h6 = h4 := e6
    refine k5 _ ⟨fun g4 => (by cases g4), fun g4 => ?_⟩
    have := g4.1
    simp at g3; omega
end Go.Proofs.YtcfegbpoailbdaaDoor

namespace Go.Proofs.YtcfegbpoailbdaaDoor
open Go.Vc Go.Sha Go.Trail Go.Lay
set_option linter.unusedVariables false
set_option maxRecDepth 20000
set_option linter.unusedSimpArgs false
def eqE (e f : EntV) : Bool := e.path == f.path && e.kind == f.kind && e.mode == f.mode && e.body == f.body
theorem beq_bytes (a b : ByteArray) : (a == b) = true ↔ a = b := by
  obtain ⟨a⟩ := a
  obtain ⟨b⟩ := b
  show (a == b) = true ↔ _
  simp
theorem eqE_iff (e f : EntV) : eqE e f = true ↔ e = f := by
  obtain ⟨e1, e2, e3, e4⟩ := e
  obtain ⟨f1, f2, f3, f4⟩ := f
  simp only [eqE, Bool.and_eq_true, beq_bytes, beq_iff_eq, EntV.mk.injEq, and_assoc]
theorem held30 : Tryd.prog.stoodInHeld 38 = false := by kernel_rfl
theorem eqg30 : Tryd.prog.eqGuardType Tryd.prog.depth 38 = false := by kernel_rfl
theorem part30s (e : EntV) (w : World) : (part 9 (entA e) 0).run Tryd.prog w = .ok (.string e.path) w := Vc.run_part_plain Tryd.underlying9 rfl rfl w
theorem part30k (e : EntV) (w : World) : (part 3 (entA e) 1).run Tryd.prog w = .ok (.int .i64 e.kind) w := Vc.run_part_plain Tryd.underlying3 rfl rfl w
theorem part30m (e : EntV) (w : World) : (part 3 (entA e) 2).run Tryd.prog w = .ok (.int .i64 e.mode) w := Vc.run_part_plain Tryd.underlying3 rfl rfl w
theorem part30b (e : EntV) (w : World) : (part 9 (entA e) 3).run Tryd.prog w = .ok (.string e.body) w := Vc.run_part_plain Tryd.underlying9 rfl rfl w
theorem run_equal_str (d : Nat) (a b : ByteArray) (w : World) : (Op.equalIn (d + 1) 9 (.string a) (.string b)).run Tryd.prog w = .ok (a == b) w := by
  simp [Op.equalIn, run_underlying Tryd.underlying9]
theorem run_equal_ent (e f : EntV) (w : World) : (Op.equal 38 (.agg (entA e)) (.agg (entA f))).run Tryd.prog w = .ok (eqE e f) w := by
  have e0 : ∀ (a b : ByteArray) w, (Op.equalIn 9999 9 (.string a) (.string b)).run Tryd.prog w = .ok (a == b) w := fun a b w => run_equal_str 9998 a b w
  have e1 : ∀ (a b : Int) w, (Op.equalIn 9999 3 (.int .i64 a) (.int .i64 b)).run Tryd.prog w = .ok (a == b) w := fun a b w => run_equal_int Tryd.underlying3 9998 a b w
  show (Op.equalIn (9999 + 1) 38 _ _).run Tryd.prog w = _
  generalize 9999 = dd at e0 e1
  simp only [Op.equalIn, Sem.run_bind, run_underlying Tryd.underlying38, Result.andThen_ok, held30, Bool.false_eq_true, if_false]
  simp only [List.forIn_toArray, List.forIn_cons, List.forIn_nil, Sem.run_bind, part30s, part30k, part30m, part30b, e0, e1, Result.andThen_ok, Sem.run_ite, Sem.run_pure]
  unfold eqE
  have hst' : ¬ (Tryd.prog.stoodInHeld 38 = true) := by rw [held30]; decide
  rcases Bool.eq_false_or_eq_true (e.path == f.path) with h1 | h1
  · rcases Bool.eq_false_or_eq_true (e.kind == f.kind) with h2 | h2
    · rcases Bool.eq_false_or_eq_true (e.mode == f.mode) with h3 | h3
      · rcases Bool.eq_false_or_eq_true (e.body == f.body) with h4 | h4 <;> simp [h1, h2, h3, h4, hst', part30s, part30k, part30m, part30b, e0, e1]
      · simp [h1, h2, h3, hst', part30s, part30k, part30m, part30b, e0, e1]
    · simp [h1, h2, hst', part30s, part30k, part30m, part30b, e0, e1]
  · simp [h1, hst', part30s, part30k, part30m, part30b, e0, e1]

/-- what a layer is charged for -/
def sizeC (es : List EntV) : Nat := (es.map fun e => e.path.size + e.body.size).sum
theorem sizeC_cons (e : EntV) (es : List EntV) : sizeC (e :: es) = e.path.size + e.body.size + sizeC es := by simp [sizeC]
theorem sizeC_snoc (es : List EntV) (e : EntV) : sizeC (es ++ [e]) = sizeC es + (e.path.size + e.body.size) := by simp [sizeC]
theorem sizeC_le {es : List EntV} (h : Small es) : sizeC es ≤ es.length * 2 ^ 30 := by
  induction es with
  | nil => simp [sizeC]
  | cons e es ih =>
    have := h e (by simp)
    have := ih fun x hx => h x (List.mem_cons_of_mem _ hx)
    rw [sizeC_cons, List.length_cons, Nat.succ_mul]; omega
theorem take_en {es : List EntV} {k : Nat} (h : k < es.length) : es.take (k + 1) = es.take k ++ [en es k] := by
  rw [List.take_add_one, en_get h]; rfl
theorem small_take {es : List EntV} (h : Small es) (k : Nat) : Small (es.take k) := fun e he => h e (List.mem_of_mem_take he)
theorem size_bound {es : List EntV} (h : Small es) (hl : es.length < 2 ^ 20) (k : Nat) : sizeC (es.take k) < 2 ^ 50 := by
  have := sizeC_le (small_take h k)
  have h2 : (es.take k).length ≤ es.length := List.length_take_le' k es
  have := Nat.mul_le_mul_right (2 ^ 30) h2
  omega

theorem same_ok (a : Option Addr) (l c : Nat) (es : List EntV) (a' : Option Addr) (l' c' : Nat) (fs : List EntV) (h : Heap) (w : Tab 4 h a l c (ents es)) (w' : Tab 4 h a' l' c' (ents fs)) (hl : l < 2 ^ 40) :
    HEnt Tryd.prog 16 #[.slice a l c, .slice a' l' c'] h fun v h' => (∃ b, v = .bool b ∧ (b = true ↔ es = fs)) ∧ h' = h := by
  have hlen : es.length = l := by have := w.len; rwa [ents_len] at this
  have hlen' : fs.length = l' := by have := w'.len; rwa [ents_len] at this
  refine F16_ent _ _ _ _ _ _ _ _ ?_
  unfold F16
  refine br_of (fun g => ⟨⟨_, rfl, fun e => (by cases e), fun e => ?_⟩, rfl⟩) (fun g => ?_)
  · have : l ≠ l' := by simp at g; omega
    rw [e] at hlen; omega
  have hll : l = l' := by simp at g; omega
  subst hll
  unfold F16_k1
  rintro _ rfl
  refine ⟨fun x hh => ∃ k : Nat, x = k ∧ k ≤ l ∧ hh = h ∧ es.take k = fs.take k, fun x _ => ((l : Int) - x).toNat, ⟨0, rfl, by omega, rfl, rfl⟩, ?_⟩
  rintro h1 _ ⟨k, rfl, hk, rfl, ht⟩
  unfold F16_b2
  refine br_of (fun g => ?_) (fun g => ?_)
  · have hk' : k < l := by simpa using g
    obtain ⟨q, eq, _, c0, c1, c2, c3⟩ := ent_get w (en_get (i := k) (by omega))
    obtain ⟨q', eq', _, d0, d1, d2, d3⟩ := ent_get w' (en_get (i := k) (by omega))
    unfold F16_k3
    refine ⟨q, eq, by omega, by omega, _, _, _, _, by rw [Int.toNat_natCast]; exact c0, by rw [Int.toNat_natCast]; exact c1, by rw [Int.toNat_natCast]; exact c2, by rw [Int.toNat_natCast]; exact c3, rfl, ?_⟩
    refine ⟨q', eq', by omega, by omega, _, _, _, _, by rw [Int.toNat_natCast]; exact d0, by rw [Int.toNat_natCast]; exact d1, by rw [Int.toNat_natCast]; exact d2, by rw [Int.toNat_natCast]; exact d3, rfl, ?_⟩
    refine ⟨eqE (en es k) (en fs k), fun w => run_equal_ent _ _ w, eqg30, fun h2 e2 => ?_⟩
    obtain rfl : h2 = h1 := e2
    refine br_of (fun g2 => ⟨⟨_, rfl, fun e => (by cases e), fun e => ?_⟩, rfl⟩) (fun g2 => ?_)
    · subst e
      have := (eqE_iff (en es k) (en es k)).2 rfl
      rw [this] at g2; cases g2
    · have g3 : en es k = en fs k := (eqE_iff _ _).1 (by simpa using g2)
      unfold F16_k4
      rintro _ rfl
      rw [i64_lt ((k : Int) + 1) (by omega) (by omega)]
      exact ⟨⟨k + 1, by omega, by omega, rfl, by rw [take_en (by omega), take_en (by omega), ht, g3]⟩, by show ((l : Int) - ((k : Int) + 1)).toNat < ((l : Int) - k).toNat; omega⟩
  · have hk' : k = l := by
      have : ¬ (k : Int) < (l : Int) := by simpa using g
      omega
    unfold F16_k5
    refine ⟨⟨_, rfl, fun _ => ?_, fun _ => rfl⟩, rfl⟩
    rw [hk', List.take_of_length_le (by omega), List.take_of_length_le (by omega)] at ht
    exact ht

theorem cells38 : Tryd.prog.cellsOf 38 = 4 := by kernel_rfl
theorem zeroR30 : (((Tryd.prog.info? 38).bind (·.zero)).getD undef).cells.size = 4 := by kernel_rfl
theorem bytes38 : Tryd.prog.bytesOf 38 = 48 := by kernel_rfl
theorem ents_row (es : List EntV) : ∀ r ∈ ents es, r.length = 4 := by
  intro r hr
  obtain ⟨e, _, rfl⟩ := List.mem_map.1 hr
  rfl
theorem ents_one (es : List EntV) : ∀ r ∈ ents es, ∀ u ∈ r, one u = true := by
  intro r hr
  obtain ⟨e, _, rfl⟩ := List.mem_map.1 hr
  exact entC_one e
end Go.Proofs.YtcfegbpoailbdaaDoor
