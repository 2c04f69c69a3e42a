import Derived.Test.YtnahhdkekchmfaaDoorVlpB
import Derived.Test.YtnahhdkekchmfaaDoorLayTj
import Derived.Test.YtnahhdkekchmfaaDoorVcW

namespace Go.Lay
open Go.Vc Go.Sha Go.Trail
/-- an entry of a layer -/
structure EntV where
  path : ByteArray
  kind : Int
  mode : Int
  body : ByteArray
def entC (e : EntV) : List Value := [.string e.path, .int .i64 e.kind, .int .i64 e.mode, .string e.body]
def ents (es : List EntV) : List (List Value) := es.map entC
theorem entC_one (e : EntV) : ∀ u ∈ entC e, one u = true := by
  intro u hu; simp only [entC, List.mem_cons, List.not_mem_nil, or_false] at hu
  rcases hu with rfl | rfl | rfl | rfl <;> rfl
def entA (e : EntV) : Array Value := #[.string e.path, .int .i64 e.kind, .int .i64 e.mode, .string e.body]
theorem entA_size (e : EntV) : (entA e).size = 4 := rfl
theorem entA_one (e : EntV) : ∀ u ∈ (entA e).toList, one u = true := entC_one e
theorem ents_len (es : List EntV) : (ents es).length = es.length := by simp [ents]
def Small (es : List EntV) : Prop := ∀ e ∈ es, e.path.size < 2 ^ 29 ∧ e.body.size < 2 ^ 29
theorem ent_get {h : Heap} {a : Option Addr} {l c : Nat} {es : List EntV} (w : Tab 4 h a l c (ents es)) {i : Nat} {e : EntV} (hi : es[i]? = some e) :
    ∃ q, a = some q ∧ i < l ∧ Vc.cell h ((q.add (i * 4)).add 0) = some (.string e.path) ∧ Vc.cell h ((q.add (i * 4)).add 1) = some (.int .i64 e.kind) ∧ Vc.cell h ((q.add (i * 4)).add 2) = some (.int .i64 e.mode) ∧ Vc.cell h ((q.add (i * 4)).add 3) = some (.string e.body) := by
  obtain ⟨q, e1, h1, h2⟩ := w.get (i := i) (r := entC e) (by simp [ents, hi])
  exact ⟨q, e1, h1, h2 0 _ rfl, h2 1 _ rfl, h2 2 _ rfl, h2 3 _ rfl⟩
/-- the last made local, written whole -/
theorem fill {h0 h : Heap} {b : Nat} {cs vs : Array Value} {t : TypeId} {L : List Vc.Loc} {K : Heap → Prop} {n : Nat} (s : St h0 h (⟨b, cs, t⟩ :: L)) (hs : cs.size = n) (hn : vs.size = n) (h1 : ∀ u ∈ vs.toList, one u = true)
    (hK : ∀ h', St h0 h' (⟨b, vs, t⟩ :: L) → Only b h h' → K h') : storeK n h (at0 b) (.agg vs) K :=
  s.storeAll 0 rfl hn hs h1 fun h' s' o => hK h' s' o
open Classical in
/-- what is wrong with an entry by itself -/
noncomputable def aloneC (badPath : Prop) (e : EntV) : Nat :=
  if badPath then 12 else if e.kind < 1 ∨ e.kind > 4 then 13 else if e.mode < 0 ∨ e.mode > 511 ∨ (e.kind = 3 ∧ e.mode ≠ 0) then 2
  else if e.kind ≠ 1 ∧ e.body.size ≠ 0 then 5 else if e.body.size > 256 then 3 else 0
end Go.Lay
namespace Go.Proofs.YtnahhdkekchmfaaDoor
open Go.Vc Go.Sha Go.Trail Go.Lay
set_option linter.unusedVariables false

theorem zero30 : (zeroC Tryd.prog 30).size = 4 := by kernel_rfl
theorem seq0 (s : ByteArray) : seq s ⟨#[]⟩ = decide (s.size = 0) := by
  rw [seq_nil, Bool.eq_iff_iff, decide_eq_true_eq, decide_eq_true_eq, ← lst_len, List.length_eq_zero_iff]
def badP (s : ByteArray) : Prop := lst s = [] ∨ ¬ good (lst s)
theorem badP_clean (s : ByteArray) : badP s ↔ (clean (lst s)).2 ≠ 0 ∨ (clean (lst s)).1 ≠ lst s ∨ (clean (lst s)).1 = [] := by
  unfold badP
  rw [good_iff]
  constructor
  · rintro (h | h)
    · by_cases g : (clean (lst s)).2 ≠ 0
      · exact .inl g
      · by_cases g2 : (clean (lst s)).1 = lst s
        · exact .inr (.inr (g2.trans h))
        · exact .inr (.inl g2)
    · by_cases g : (clean (lst s)).2 ≠ 0
      · exact .inl g
      · by_cases g2 : (clean (lst s)).1 = lst s
        · exact absurd (Prod.ext g2 (by omega)) h
        · exact .inr (.inl g2)
  · intro h
    by_cases g : clean (lst s) = (lst s, 0)
    · rw [g] at h; simp at h; exact .inl h
    · exact .inr g
noncomputable def stA (e : EntV) : Nat := aloneC (badP e.path) e
theorem alone_ok (e : EntV) (hs : e.path.size < 2 ^ 30) (h : Heap) (hm : MaxAt h) : HEnt Tryd.prog 26 #[.agg #[.string e.path, .int .i64 e.kind, .int .i64 e.mode, .string e.body]] h fun v h' => v = .int .i64 (stA e) ∧ Ext h h' := by
  refine F26_ent _ _ _ _ _ _ ?_
  unfold F26
  refine (St.start h).new fun b h1 s1 x1 _ => ?_
  refine ⟨e.path, s1.cell 0 rfl rfl, ?_⟩
  refine HEnt.use (clean_ok _ hs h1 (hm.ext x1)) ?_
  rintro _ h2 ⟨rfl, x2⟩
  have s2 := s1.grow x2
  have hlt := clean_lt (lst e.path)
  have c1 : Vc.cell h2 ((at0 b).add 1) = some (.int .i64 e.kind) := s2.cell 0 rfl rfl
  have c2 : Vc.cell h2 ((at0 b).add 2) = some (.int .i64 e.mode) := s2.cell 0 rfl rfl
  have c3 : Vc.cell h2 ((at0 b).add 3) = some (.string e.body) := s2.cell 0 rfl rfl
  have fin : ∀ n : Nat, stA e = n → (Value.int .i64 (n : Int) = .int .i64 (stA e) ∧ Ext h h2) := fun n hn => ⟨by rw [hn], s2.ext⟩
  have k6 : ¬ badP e.path → 1 ≤ e.kind → e.kind ≤ 4 → e.kind ≠ 1 → 0 ≤ e.mode → e.mode ≤ 511 → (e.kind = 3 → e.mode = 0) → F26_k6 (at0 b) h2 fun v h' => v = .int .i64 (stA e) ∧ Ext h h' := by
    intro hp g1 g2 g3 g4 g5 g6
    unfold F26_k6
    refine ⟨_, c3, ?_⟩
    rw [seq0]
    refine br_of (fun g => fin 5 ?_) (fun g => fin 0 ?_) <;> simp only [Bool.not_eq_true', Bool.not_eq_false', decide_eq_false_iff_not, decide_eq_true_eq] at g <;> simp only [stA, aloneC, if_neg hp] <;> repeat' split
    all_goals first | rfl | omega
  have k4 : ∀ x5 : Int, ¬ badP e.path → (e.kind = 3 ∧ x5 = 0 ∨ (e.kind = 2 ∨ e.kind = 4) ∧ x5 = 511) → F26_k4 (at0 b) x5 h2 fun v h' => v = .int .i64 (stA e) ∧ Ext h h' := by
    intro x5 hp g
    unfold F26_k4
    have bad : e.mode < 0 ∨ e.mode > x5 → F26_k5 (at0 b) true h2 fun v h' => v = .int .i64 (stA e) ∧ Ext h h' := by
      intro g2
      unfold F26_k5
      refine br_of (fun _ => fin 2 ?_) (fun hb => by cases hb)
      simp only [stA, aloneC, if_neg hp]
      repeat' split
      all_goals first | rfl | omega
    refine ⟨_, c2, br_of (fun g2 => bad (.inl (of_decide_eq_true g2))) (fun g2 => ⟨_, c2, ?_⟩)⟩
    have g2' := of_decide_eq_false g2
    by_cases g3 : e.mode > x5
    · rw [decide_eq_true g3]; exact bad (.inr g3)
    · rw [decide_eq_false g3]
      unfold F26_k5
      refine br_of (fun hb => by cases hb) (fun _ => k6 hp (by omega) (by omega) (by omega) (by omega) (by omega) (by omega))
  have k2 : ¬ badP e.path → F26_k2 (at0 b) h2 fun v h' => v = .int .i64 (stA e) ∧ Ext h h' := by
    intro hp
    unfold F26_k2
    refine ⟨_, c1, br_of (fun g => ?_) (fun g => ?_)⟩
    · unfold F26_k3
      exact k4 0 hp (.inl ⟨by simpa using g, rfl⟩)
    · have g' : e.kind ≠ 3 := by simpa using g
      unfold F26_k8
      have k9 : ∀ bb : Bool, (bb = true ↔ e.kind = 2 ∨ e.kind = 4) → F26_k9 (at0 b) 511 e.kind bb h2 fun v h' => v = .int .i64 (stA e) ∧ Ext h h' := by
        intro bb hbb
        unfold F26_k9
        refine br_of (fun g2 => k4 511 hp (.inr ⟨hbb.1 g2, rfl⟩)) (fun g2 => ?_)
        have g3 : ¬ (e.kind = 2 ∨ e.kind = 4) := fun hh => by rw [hbb.2 hh] at g2; cases g2
        unfold F26_k10
        refine br_of (fun g4 => ?_) (fun g4 => ?_)
        · have g4' : e.kind = 1 := by simpa using g4
          unfold F26_k11
          have bad : e.mode < 0 ∨ e.mode > 511 → F26_k12 (at0 b) true h2 fun v h' => v = .int .i64 (stA e) ∧ Ext h h' := by
            intro g5
            unfold F26_k12
            refine br_of (fun _ => fin 2 ?_) (fun hb => by cases hb)
            simp only [stA, aloneC, if_neg hp]
            repeat' split
            all_goals first | rfl | omega
          refine ⟨_, c2, br_of (fun g5 => bad (.inl (of_decide_eq_true g5))) (fun g5 => ⟨_, c2, ?_⟩)⟩
          have g5' := of_decide_eq_false g5
          by_cases g6 : e.mode > 511
          · rw [decide_eq_true g6]; exact bad (.inr g6)
          · rw [decide_eq_false g6]
            unfold F26_k12
            refine br_of (fun hb => by cases hb) (fun _ => ?_)
            unfold F26_k13
            refine ⟨_, c3, br_of (fun g7 => fin 3 ?_) (fun g7 => fin 0 ?_)⟩ <;> simp at g7 <;> simp only [stA, aloneC, if_neg hp] <;> repeat' split
            all_goals first | rfl | omega
        · have g4' : e.kind ≠ 1 := by simpa using g4
          unfold F26_k14
          refine fin 13 ?_
          simp only [stA, aloneC, if_neg hp]
          repeat' split
          all_goals first | rfl | omega
      refine br_of (fun g2 => k9 _ ?_) (fun g2 => k9 _ ?_)
      · have : e.kind = 2 := by simpa using g2
        simp [this]
      · have : e.kind ≠ 2 := by simpa using g2
        simp [this]
  have k1 : ∀ bb : Bool, (bb = true ↔ badP e.path) → F26_k1 (at0 b) bb h2 fun v h' => v = .int .i64 (stA e) ∧ Ext h h' := by
    intro bb hbb
    unfold F26_k1
    refine br_of (fun g => fin 12 ?_) (fun g => k2 fun hh => by rw [hbb.2 hh] at g; cases g)
    simp only [stA, aloneC, if_pos (hbb.1 g)]
  refine ⟨_, _, rfl, br_of (fun g => k1 true ?_) (fun g => ⟨e.path, s2.cell 0 rfl rfl, br_of (fun g2 => k1 true ?_) (fun g2 => k1 _ ?_)⟩)⟩
  · rw [badP_clean]
    refine ⟨fun _ => .inl ?_, fun _ => rfl⟩
    simp at g; omega
  · rw [badP_clean]
    refine ⟨fun _ => .inr (.inl ?_), fun _ => rfl⟩
    rw [seq_str _ hlt] at g2; simpa using g2
  · rw [badP_clean, seq_str_nil _ hlt, decide_eq_true_eq]
    rw [seq_str _ hlt] at g2
    simp at g g2
    refine ⟨fun hh => .inr (.inr hh), ?_⟩
    rintro (hh | hh | hh)
    · omega
    · exact absurd g2 hh
    · exact hh
end Go.Proofs.YtnahhdkekchmfaaDoor
