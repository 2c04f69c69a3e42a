import Derived.Test.YtpehbcfoddggoaaDoorTrailF

namespace Go.Proofs.YtpehbcfoddggoaaDoor
open Go.Vc Go.Sha Go.Trail Go.RowKit
set_option linter.unusedVariables false

theorem works_ok (h : Heap) (hm : MaxAt h) : HEnt Tryd.prog 15 #[] h fun v h' => v = .bool true ∧ Ext h h' := by
  refine F15_ent _ _ ?_
  unfold F15
  refine HEnt.use (clean_ok _ (by decide) h hm) ?_
  have e : clean (lst (⟨#[47, 117, 115, 114, 47, 47, 46, 47, 108, 105, 98, 47, 46, 46, 47, 98, 105, 110, 47]⟩ : ByteArray)) = ([117, 115, 114, 47, 98, 105, 110], 0) := by decide +kernel
  rw [e]
  rintro _ h1 ⟨rfl, x1⟩
  refine ⟨_, _, rfl, ?_⟩
  refine br_of (fun _ => ?_) (fun hb => ?_)
  · refine br_of (fun _ => ?_) (fun hb => by cases hb)
    refine HEnt.use (in_ok _ _ (by decide) h1) ?_
    have e2 : inP (lst (⟨#[117, 115, 114]⟩ : ByteArray)) (lst (str [117, 115, 114, 47, 98, 105, 110])) = true := by decide +kernel
    rw [e2]
    rintro _ _ ⟨rfl, rfl⟩
    refine ⟨true, rfl, br_of (fun _ => ?_) (fun hb => by cases hb)⟩
    refine HEnt.use (in_ok _ _ (by decide) _) ?_
    have e3 : inP (lst (⟨#[117, 115, 114]⟩ : ByteArray)) (lst (⟨#[117, 115, 114, 120]⟩ : ByteArray)) = false := by decide +kernel
    rw [e3]
    rintro _ _ ⟨rfl, rfl⟩
    refine ⟨false, rfl, br_of (fun _ => ?_) (fun hb => by cases hb)⟩
    refine HEnt.use (less_ok _ _ (by decide) _) ?_
    have e4 : lexK (lst (⟨#[97, 47, 98]⟩ : ByteArray)) (lst (⟨#[97, 45, 98]⟩ : ByteArray)) = true := by decide +kernel
    rw [e4]
    rintro _ _ ⟨rfl, rfl⟩
    exact ⟨true, rfl, rfl, x1⟩
  · have : seq (str [117, 115, 114, 47, 98, 105, 110]) (⟨#[117, 115, 114, 47, 98, 105, 110]⟩ : ByteArray) = true := by rw [seq_lst]; decide +kernel
    rw [this] at hb; cases hb

theorem orders_ok (s t : ByteArray) (hs : s.size < 2 ^ 40) (ht : t.size < 2 ^ 40) (h : Heap) (hm : MaxAt h) : HEnt Tryd.prog 3 #[.string s, .string t] h fun v h' => v = .bool true ∧ Ext h h' := by
  refine F3_ent _ _ _ _ ?_
  unfold F3
  refine HEnt.use (less_ok s t (by omega) h) ?_
  rintro _ _ ⟨rfl, rfl⟩
  refine ⟨_, rfl, HEnt.use (refLess_ok s t hs ht _) ?_⟩
  rintro _ h2 ⟨rfl, x2⟩
  refine ⟨_, rfl, br_of (fun _ => ?_) (fun hb => by simp at hb)⟩
  refine HEnt.use (less_ok t s (by omega) h2) ?_
  rintro _ _ ⟨rfl, rfl⟩
  refine ⟨_, rfl, HEnt.use (refLess_ok t s ht hs _) ?_⟩
  rintro _ h4 ⟨rfl, x4⟩
  refine ⟨_, rfl, br_of (fun _ => ?_) (fun hb => by simp at hb)⟩
  refine HEnt.use (in_ok s t (by omega) h4) ?_
  rintro _ _ ⟨rfl, rfl⟩
  refine ⟨_, rfl, HEnt.use (refIn_ok s t (by omega) _) ?_⟩
  rintro _ _ ⟨rfl, rfl⟩
  refine ⟨_, rfl, br_of (fun _ => ?_) (fun hb => by simp at hb)⟩
  refine HEnt.use (in_ok t s (by omega) _) ?_
  rintro _ _ ⟨rfl, rfl⟩
  refine ⟨_, rfl, HEnt.use (refIn_ok t s (by omega) _) ?_⟩
  rintro _ _ ⟨rfl, rfl⟩
  refine ⟨_, rfl, br_of (fun _ => ?_) (fun hb => by simp at hb)⟩
  refine HEnt.use (works_ok _ (hm.ext (x2.trans x4))) ?_
  rintro _ h5 ⟨rfl, x5⟩
  exact ⟨true, rfl, rfl, (x2.trans x4).trans x5⟩
end Go.Proofs.YtpehbcfoddggoaaDoor
namespace Go.Proofs.YtpehbcfoddggoaaDoor
open Go.Vc Go.Sha Go.Trail Go.RowKit
theorem one_ok (a b c : ByteArray) (ha : a.size < 2 ^ 40) (hb : b.size < 2 ^ 40) (h : Heap) (hm : MaxAt h) : HEnt Tryd.prog 4 #[.string a, .string b, .string c] h fun v h' => v = .bool true ∧ Ext h h' := by
  refine F4_ent _ _ _ _ _ ?_
  have last : F4_k1 a b false h fun v h' => v = .bool true ∧ Ext h h' := by
    unfold F4_k1
    refine br_of (fun hb => by cases hb) (fun _ => ?_)
    unfold F4_k2
    refine HEnt.use (less_ok a a (by omega) h) ?_
    rw [lexK_irr]
    rintro _ _ ⟨rfl, rfl⟩
    refine ⟨_, rfl, br_of (fun _ => ?_) (fun hb => by cases hb)⟩
    refine HEnt.use (less_ok a b (by omega) _) ?_
    rintro _ _ ⟨rfl, rfl⟩
    refine ⟨_, rfl, HEnt.use (less_ok b a (by omega) _) ?_⟩
    rintro _ _ ⟨rfl, rfl⟩
    refine ⟨_, rfl, br_of (fun _ => ?_) (fun hf => ?_)⟩
    · refine HEnt.use (works_ok _ hm) ?_
      rintro _ h5 ⟨rfl, x5⟩
      exact ⟨true, rfl, rfl, x5⟩
    · exfalso
      rw [seq_lst] at hf
      by_cases e : lst a = lst b
      · rw [e] at hf; simp at hf
      · have := lexK_total _ _ e
        rw [decide_eq_false e] at hf
        cases h1 : lexK (lst a) (lst b) <;> cases h2 : lexK (lst b) (lst a) <;> rw [h1, h2] at hf this <;> simp at hf this
  unfold F4
  refine HEnt.use (less_ok a b (by omega) h) ?_
  rintro _ _ ⟨rfl, rfl⟩
  refine ⟨_, rfl, br_of (fun h1 => ?_) (fun _ => last)⟩
  refine HEnt.use (less_ok b c (by omega) _) ?_
  rintro _ _ ⟨rfl, rfl⟩
  refine ⟨_, rfl, br_of (fun h2 => ?_) (fun _ => last)⟩
  refine HEnt.use (less_ok a c (by omega) _) ?_
  rw [lexK_trans _ _ _ h1 h2]
  rintro _ _ ⟨rfl, rfl⟩
  exact ⟨_, rfl, last⟩
end Go.Proofs.YtpehbcfoddggoaaDoor
