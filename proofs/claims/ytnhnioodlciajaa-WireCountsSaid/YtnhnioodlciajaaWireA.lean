import Derived.Test.YtnhnioodlciajaaVwpA
import Derived.Test.YtnhnioodlciajaaPacks

namespace Go.Proofs.Ytnhnioodlciajaa
open Go.Vc Go.Sha Go.Trail Go.Packs
set_option linter.unusedVariables false

theorem i64_lt (n : Int) (h : -9223372036854775808 ≤ n) (h' : n < 9223372036854775808) : IntKind.i64.wrap n = n := IntWalk.i64_in _ (by omega)
theorem take_succ_getD (l : List Nat) (k : Nat) (hk : k < l.length) : l.take (k + 1) = l.take k ++ [l.getD k 0] := by
  rw [List.take_succ_eq_append_getElem hk, List.getD_eq_getElem?_getD, List.getElem?_eq_getElem hk]; rfl
theorem mem_getD (l : List Nat) (k : Nat) (hk : k < l.length) : l.getD k 0 ∈ l := by
  rw [List.getD_eq_getElem?_getD, List.getElem?_eq_getElem hk]; exact List.getElem_mem hk
theorem wrap_succ (k n : Nat) (h : k < n) (hn : n < 9223372036854775808) : IntKind.i64.wrap ((k : Int) + 1) = ((k + 1 : Nat) : Int) := by rw [i64_lt _ (by omega) (by omega)]; omega
theorem less_succ (k n : Nat) (h : k < n) : ((n : Int) - ((k + 1 : Nat) : Int)).toNat < ((n : Int) - (k : Int)).toNat := by omega

theorem name_ok (s : ByteArray) (hs : s.size < 9223372036854775808) (h : Heap) : HEnt Try.prog 61 #[.string s] h fun v h' => v = .bool (decide (nameP (lst s))) ∧ h' = h := by
  refine F61_ent _ _ _ ?_
  have ls := lst_len s
  unfold F61
  refine ⟨fun x h' => ∃ k : Nat, x = k ∧ k ≤ s.size ∧ (∀ c ∈ (lst s).take k, nameC c) ∧ h' = h, fun x _ => (s.size - x).toNat, ⟨0, rfl, by omega, by simp, rfl⟩, ?_⟩
  rintro h1 _ ⟨k, rfl, hk, hok, rfl⟩
  unfold F61_b1
  refine br_of (fun ht => ?_) (fun hf => ?_)
  · have hk' : k < s.size := by
      have : (k : Int) < (s.size : Int) := by simpa using ht
      omega
    have key : ∀ b : Bool, (b = false ↔ nameC ((lst s).getD k 0)) → F61_k3 (fun x h' => ∃ k : Nat, x = k ∧ k ≤ s.size ∧ (∀ c ∈ (lst s).take k, nameC c) ∧ h' = h1) (fun x _ => (s.size - x).toNat) (((s.size : Int) - (k : Int)).toNat) s (s.size : Int) (k : Int) b h1 fun v h' => v = .bool (decide (nameP (lst s))) ∧ h' = h1 := by
      intro b hb
      unfold F61_k3
      refine br_of (fun hbt => ⟨?_, rfl⟩) (fun hbf => ?_)
      · have hno : ¬ nameC ((lst s).getD k 0) := fun ho => by rw [hb.2 ho] at hbt; cases hbt
        rw [decide_eq_false fun hp => hno (hp.2.2 _ (mem_getD _ _ (by omega)))]
      · have ho := hb.1 hbf
        unfold F61_k4
        rw [wrap_succ k _ hk' hs]
        refine ⟨⟨k + 1, rfl, by omega, ?_, rfl⟩, less_succ _ _ hk'⟩
        rw [take_succ_getD _ _ (by omega)]
        intro c hc
        rcases List.mem_append.1 hc with hc | hc
        · exact hok c hc
        · rw [List.mem_singleton] at hc; rw [hc]; exact ho
    unfold F61_k2
    rw [bt_lst]
    generalize (lst s).getD k 0 = c at *
    refine ⟨by omega, by omega, ?_⟩
    repeat' (with_reducible refine br_of (fun _ => ?_) (fun _ => ?_))
    all_goals (refine key _ ?_; unfold nameC; simp only [decide_eq_true_eq, decide_eq_false_iff_not, beq_iff_eq, beq_eq_false_iff_ne, ne_eq, Bool.not_eq_false', true_iff] at *; omega)
  · have hk' : k = s.size := by
      have : ¬ (k : Int) < (s.size : Int) := by simpa using hf
      omega
    rw [List.take_of_length_le (by omega)] at hok
    unfold F61_k5
    refine br_of (fun h0 => ⟨?_, rfl⟩) (fun h0 => ⟨?_, rfl⟩)
    · have h0' : (s.size : Int) > 0 := by simpa using h0
      congr 1
      refine decide_eq_decide.2 ⟨fun h => ⟨by omega, by omega, hok⟩, fun h => by have := h.2.1; omega⟩
    · have h0' : ¬ (s.size : Int) > 0 := by simpa using h0
      congr 1
      exact (decide_eq_false fun hp => by have := hp.1; omega).symm

theorem refName_ok (s : ByteArray) (hs : s.size < 9223372036854775808) (h : Heap) : HEnt Try.prog 63 #[.string s] h fun v h' => v = .bool (decide (nameP (lst s))) ∧ h' = h := by
  refine F63_ent _ _ _ ?_
  have ls := lst_len s
  unfold F63
  rintro _ rfl
  refine ⟨fun x h' => ∃ k : Nat, x = k ∧ k ≤ s.size ∧ (∀ c ∈ (lst s).take k, nameC c) ∧ h' = h, fun x _ => (s.size - x).toNat, ⟨0, rfl, by omega, by simp, rfl⟩, ?_⟩
  rintro h1 _ ⟨k, rfl, hk, hok, rfl⟩
  unfold F63_b1
  refine br_of (fun ht => ?_) (fun hf => ?_)
  · have hk' : k < s.size := by
      have : (k : Int) < (s.size : Int) := by simpa using ht
      omega
    have key : ∀ b : Bool, (b = false ↔ nameC ((lst s).getD k 0)) → F63_k5 (fun x h' => ∃ k : Nat, x = k ∧ k ≤ s.size ∧ (∀ c ∈ (lst s).take k, nameC c) ∧ h' = h1) (fun x _ => (s.size - x).toNat) (((s.size : Int) - (k : Int)).toNat) s (k : Int) b h1 fun v h' => v = .bool (decide (nameP (lst s))) ∧ h' = h1 := by
      intro b hb
      unfold F63_k5
      refine br_of (fun hbt => ⟨?_, rfl⟩) (fun hbf => ?_)
      · have hno : ¬ nameC ((lst s).getD k 0) := fun ho => by rw [hb.2 ho] at hbt; cases hbt
        rw [decide_eq_false fun hp => hno (hp.2.2 _ (mem_getD _ _ (by omega)))]
      · have ho := hb.1 hbf
        unfold F63_k6
        rintro _ rfl
        rw [wrap_succ k _ hk' hs]
        refine ⟨⟨k + 1, rfl, by omega, ?_, rfl⟩, less_succ _ _ hk'⟩
        rw [take_succ_getD _ _ (by omega)]
        intro c hc
        rcases List.mem_append.1 hc with hc | hc
        · exact hok c hc
        · rw [List.mem_singleton] at hc; rw [hc]; exact ho
    have hbt := bt_lst s k
    have last : ∀ b4 b5 : Bool, b4 = decide (97 ≤ (lst s).getD k 0 ∧ (lst s).getD k 0 ≤ 122) → b5 = decide (48 ≤ (lst s).getD k 0 ∧ (lst s).getD k 0 ≤ 57) → F63_k4 (fun x h' => ∃ k : Nat, x = k ∧ k ≤ s.size ∧ (∀ c ∈ (lst s).take k, nameC c) ∧ h' = h1) (fun x _ => (s.size - x).toNat) (((s.size : Int) - (k : Int)).toNat) s (k : Int) b4 b5 h1 fun v h' => v = .bool (decide (nameP (lst s))) ∧ h' = h1 := by
      rintro _ _ rfl rfl
      unfold F63_k4
      rw [hbt]
      generalize (lst s).getD k 0 = c at *
      refine br_of (fun g1 => br_of (fun g2 => ⟨by omega, by omega, br_of (fun g3 => ⟨by omega, by omega, key _ ?_⟩) (fun g3 => key _ ?_)⟩) (fun g2 => key _ ?_)) (fun g1 => key _ ?_) <;>
        (unfold nameC; simp only [Bool.not_eq_true', Bool.not_eq_false', decide_eq_true_eq, decide_eq_false_iff_not, bne_iff_ne, ne_eq, bne_eq_false_iff_eq, true_iff] at *; omega)
    have mid : ∀ b4 : Bool, b4 = decide (97 ≤ (lst s).getD k 0 ∧ (lst s).getD k 0 ≤ 122) → F63_k3 (fun x h' => ∃ k : Nat, x = k ∧ k ≤ s.size ∧ (∀ c ∈ (lst s).take k, nameC c) ∧ h' = h1) (fun x _ => (s.size - x).toNat) (((s.size : Int) - (k : Int)).toNat) s (k : Int) b4 h1 fun v h' => v = .bool (decide (nameP (lst s))) ∧ h' = h1 := by
      intro b4 h4
      unfold F63_k3
      rw [hbt]
      refine ⟨by omega, by omega, br_of (fun g1 => ⟨by omega, by omega, last _ _ h4 ?_⟩) (fun g1 => last _ _ h4 ?_)⟩
      · have g1' := of_decide_eq_true g1
        exact decide_eq_decide.2 (by omega)
      · have g1' := of_decide_eq_false g1
        exact (decide_eq_false (by omega)).symm
    unfold F63_k2
    rw [hbt]
    refine ⟨by omega, by omega, br_of (fun g1 => ⟨by omega, by omega, mid _ ?_⟩) (fun g1 => mid _ ?_)⟩
    · have g1' := of_decide_eq_true g1
      exact decide_eq_decide.2 (by omega)
    · have g1' := of_decide_eq_false g1
      exact (decide_eq_false (by omega)).symm
  · have hk' : k = s.size := by
      have : ¬ (k : Int) < (s.size : Int) := by simpa using hf
      omega
    rw [List.take_of_length_le (by omega)] at hok
    unfold F63_k7
    refine br_of (fun h0 => ⟨?_, rfl⟩) (fun h0 => ⟨?_, rfl⟩)
    · have h0' : (s.size : Int) ≥ 1 := by simpa using h0
      congr 1
      refine decide_eq_decide.2 ⟨fun h => ⟨by omega, by omega, hok⟩, fun h => by have := h.2.1; omega⟩
    · have h0' : ¬ (s.size : Int) ≥ 1 := by simpa using h0
      congr 1
      exact (decide_eq_false fun hp => by have := hp.1; omega).symm

/-! ### lists of numbers -/

end Go.Proofs.Ytnhnioodlciajaa
