import Derived.Test.YtpehbcfoddggoaaDoorVpT
import Derived.Test.YtpehbcfoddggoaaDoorTrailD

namespace Go.Proofs.YtpehbcfoddggoaaDoor
open Go.Vc Go.Sha Go.Trail Go.RowKit
set_option linter.unusedVariables false

def okP (c : Nat) : Prop := (97 ≤ c ∧ c ≤ 122) ∨ (48 ≤ c ∧ c ≤ 57) ∨ c = 95 ∨ c = 45 ∨ c = 46
instance (c : Nat) : Decidable (okP c) := by unfold okP; infer_instance
def partP (x : List Nat) : Prop := x ≠ [] ∧ x.length ≤ 24 ∧ x ≠ [46] ∧ x ≠ [46, 46] ∧ ∀ c ∈ x, okP c
instance (x : List Nat) : Decidable (partP x) := by unfold partP; infer_instance

theorem lst_dot : lst ⟨#[46]⟩ = [46] := rfl
theorem lst_dots : lst ⟨#[46, 46]⟩ = [46, 46] := rfl
theorem take_succ_getD (l : List Nat) (k : Nat) (hk : k < l.length) : l.take (k + 1) = l.take k ++ [l.getD k 0] := by
  rw [List.take_succ_eq_append_getElem hk, List.getD_eq_getElem?_getD, List.getElem?_eq_getElem hk]; rfl

theorem part_ok (s : ByteArray) (hs : s.size < 2 ^ 40) (h : Heap) : HEnt Tryd.prog 28 #[.string s] h fun v h' => v = .bool (decide (partP (lst s))) ∧ h' = h := by
  refine F28_ent _ _ _ ?_
  have ls := lst_len s
  have no : ¬ partP (lst s) → F28_k1 s true h fun v h' => v = .bool (decide (partP (lst s))) ∧ h' = h := fun hn => by
    unfold F28_k1
    exact br_of (fun _ => ⟨by rw [decide_eq_false hn], rfl⟩) (fun hb => by cases hb)
  unfold F28
  rw [seq_nil, seq_lst, seq_lst, lst_dot, lst_dots]
  refine br_of (fun h0 => no fun hp => hp.1 (of_decide_eq_true h0)) (fun h0 => ?_)
  refine br_of (fun h1 => no fun hp => ?_) (fun h1 => ?_)
  · have : (s.size : Int) > 24 := by simpa using h1
    have := hp.2.1; omega
  refine br_of (fun h2 => no fun hp => hp.2.2.1 (of_decide_eq_true h2)) (fun h2 => ?_)
  have h0' := of_decide_eq_false h0
  have h1' : ¬ (s.size : Int) > 24 := by simpa using h1
  have h2' := of_decide_eq_false h2
  unfold F28_k1
  refine br_of (fun h3 => ?_) (fun h3 => ?_)
  · have := of_decide_eq_true h3
    exact ⟨by rw [decide_eq_false fun hp => hp.2.2.2.1 this], rfl⟩
  have h3' := of_decide_eq_false h3
  unfold F28_k2
  refine ⟨fun x h' => ∃ k : Nat, x = k ∧ k ≤ s.size ∧ (∀ c ∈ (lst s).take k, okP c) ∧ h' = h, fun x _ => (s.size - x).toNat, ⟨0, rfl, by omega, by simp, rfl⟩, ?_⟩
  rintro h4 _ ⟨k, rfl, hk, hok, rfl⟩
  unfold F28_b3
  refine br_of (fun ht => ?_) (fun hf => ?_)
  · have hk' : k < s.size := by
      have : (k : Int) < (s.size : Int) := by simpa using ht
      omega
    have key : ∀ b : Bool, (b = false ↔ okP ((lst s).getD k 0)) → F28_k5 (fun x h' => ∃ k : Nat, x = k ∧ k ≤ s.size ∧ (∀ c ∈ (lst s).take k, okP c) ∧ h' = h4) (fun x _ => (s.size - x).toNat) (((s.size : Int) - (k : Int)).toNat) s (s.size : Int) (k : Int) b h4 fun v h' => v = .bool (decide (partP (lst s))) ∧ h' = h4 := by
      intro b hb
      unfold F28_k5
      refine br_of (fun hbt => ⟨?_, rfl⟩) (fun hbf => ?_)
      · have hno : ¬ okP ((lst s).getD k 0) := fun ho => by rw [hb.2 ho] at hbt; cases hbt
        have hmem : (lst s).getD k 0 ∈ lst s := by
          rw [List.getD_eq_getElem?_getD, List.getElem?_eq_getElem (by omega)]; exact List.getElem_mem _
        rw [decide_eq_false fun hp => hno (hp.2.2.2.2 _ hmem)]
      · have ho := hb.1 hbf
        unfold F28_k6
        have e1 : IntKind.i64.wrap ((k : Int) + 1) = ((k + 1 : Nat) : Int) := by rw [i64_lt _ (by omega) (by omega)]; omega
        rw [e1]
        refine ⟨⟨k + 1, rfl, by omega, ?_, rfl⟩, by show ((s.size : Int) - ((k + 1 : Nat) : Int)).toNat < ((s.size : Int) - (k : Int)).toNat; omega⟩
        rw [take_succ_getD _ _ (by omega)]
        intro c hc
        rcases List.mem_append.1 hc with hc | hc
        · exact hok c hc
        · rw [List.mem_singleton] at hc; rw [hc]; exact ho
    unfold F28_k4
    rw [bt_lst]
    generalize (lst s).getD k 0 = c at *
    refine ⟨by omega, by omega, ?_⟩
    repeat' (with_reducible refine br_of (fun _ => ?_) (fun _ => ?_))
    all_goals (refine key _ ?_; unfold okP; simp only [decide_eq_true_eq, decide_eq_false_iff_not, beq_iff_eq, beq_eq_false_iff_ne, ne_eq, Bool.not_eq_false', true_iff] at *; omega)
  · have hk' : k = s.size := by
      have : ¬ (k : Int) < (s.size : Int) := by simpa using hf
      omega
    unfold F28_k7
    rw [List.take_of_length_le (by omega)] at hok
    exact ⟨by rw [decide_eq_true (show partP (lst s) from ⟨h0', by omega, h2', h3', hok⟩)], rfl⟩
end Go.Proofs.YtpehbcfoddggoaaDoor
