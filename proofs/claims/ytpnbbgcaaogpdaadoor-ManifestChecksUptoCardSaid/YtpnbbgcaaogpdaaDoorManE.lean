import Derived.Test.YtpnbbgcaaogpdaaDoorManD
import Derived.Test.YtpnbbgcaaogpdaaDoorVxpE
import Derived.Test.YtpnbbgcaaogpdaaDoorVcW
import Derived.Test.YtpnbbgcaaogpdaaDoorVcV

namespace Go.Proofs.YtpnbbgcaaogpdaaDoor
open Go.Vc Go.Sha Go.Trail Go.RowKit Go.Man
set_option linter.unusedVariables false
set_option linter.unusedSimpArgs false
set_option maxRecDepth 4000
def okN (c : Nat) : Prop := (97 ≤ c ∧ c ≤ 122) ∨ (48 ≤ c ∧ c ≤ 57) ∨ c = 45 ∨ c = 46
instance (c : Nat) : Decidable (okN c) := by unfold okN; infer_instance
def allN (x : List Nat) : Bool := x.all fun c => decide (okN c)
def nameB (x : List Nat) : Bool := allN x && (decide (1 ≤ x.length) && decide (x.length ≤ 16))
theorem allN_take {x : List Nat} {k : Nat} (hk : k < x.length) : allN (x.take (k + 1)) = (allN (x.take k) && decide (okN (x.getD k 0))) := by
  rw [take_succ_getD _ _ hk]; simp [allN]
theorem allN_not {x : List Nat} {k : Nat} (hk : k < x.length) (h : ¬ okN (x.getD k 0)) : allN x = false := by
  cases e : allN x
  · rfl
  · exfalso; apply h
    unfold allN at e
    rw [List.all_eq_true] at e
    have := e (x.getD k 0) (by rw [List.getD_eq_getElem?_getD, List.getElem?_eq_getElem hk]; exact List.getElem_mem _)
    exact of_decide_eq_true this
theorem name_ok (s : ByteArray) (hs : s.size < 2 ^ 40) (h : Heap) : HEnt Tryd.prog 26 #[.string s] h fun v h' => v = .bool (nameB (lst s)) ∧ h' = h := by
  refine F26_ent _ _ _ ?_
  have ls := lst_len s
  unfold F26
  refine ⟨fun x h' => ∃ k : Nat, x = k ∧ k ≤ s.size ∧ allN ((lst s).take k) = true ∧ h' = h, fun x _ => (s.size - x).toNat, ⟨0, rfl, by omega, rfl, rfl⟩, ?_⟩
  rintro h1 _ ⟨k, rfl, hk, ha, rfl⟩
  unfold F26_b1
  refine br_of (fun ht => ?_) (fun hf => ?_)
  · have hk' : k < s.size := by
      have : (k : Int) < (s.size : Int) := by simpa using ht
      omega
    have hkl : k < (lst s).length := by omega
    have e1 : IntKind.i64.wrap ((k : Int) + 1) = ((k + 1 : Nat) : Int) := by rw [i64_lt _ (by omega) (by omega)]; omega
    have key : ∀ b : Bool, (b = true ↔ ¬ okN ((lst s).getD k 0)) → F26_k3 (fun x h' => ∃ k : Nat, x = k ∧ k ≤ s.size ∧ allN ((lst s).take k) = true ∧ h' = h1) (fun x _ => (s.size - x).toNat) (((s.size : Int) - (k : Int)).toNat) s (s.size : Int) (k : Int) b h1 fun v h' => v = .bool (nameB (lst s)) ∧ h' = h1 := by
      intro b hb
      unfold F26_k3
      refine br_of (fun hbt => ⟨?_, rfl⟩) (fun hbf => ?_)
      · have := allN_not hkl (hb.1 hbt)
        unfold nameB; rw [this]; rfl
      · unfold F26_k4
        rw [e1]
        have hd : okN ((lst s).getD k 0) := Decidable.byContradiction fun hn => by rw [hb.2 hn] at hbf; cases hbf
        exact ⟨⟨k + 1, rfl, by omega, by rw [allN_take hkl, ha, decide_eq_true hd]; rfl, rfl⟩, by show ((s.size : Int) - ((k + 1 : Nat) : Int)).toNat < ((s.size : Int) - (k : Int)).toNat; omega⟩
    unfold F26_k2
    rw [bt_lst]
    generalize (lst s).getD k 0 = c at key ⊢
    have yes : okN c → (false = true ↔ ¬ okN c) := fun h => by simp [h]
    have e46 : ∀ b : Bool, b = (!((c : Int) == 46)) → ¬ (97 ≤ c ∧ c ≤ 122) → ¬ (48 ≤ c ∧ c ≤ 57) → c ≠ 45 → (b = true ↔ ¬ okN c) := fun b hb h1 h2 h3 => by
      subst hb; unfold okN; simp; omega
    refine ⟨by omega, by omega, br_of (fun g1 => br_of (fun g2 => key _ (yes ?_)) (fun g2 => br_of (fun g3 => br_of (fun g4 => key _ (yes ?_)) (fun g4 => br_of (fun g5 => key _ (yes ?_)) (fun g5 => key _ (e46 _ rfl ?_ ?_ ?_)))) (fun g3 => br_of (fun g5 => key _ (yes ?_)) (fun g5 => key _ (e46 _ rfl ?_ ?_ ?_)))))
      (fun g1 => br_of (fun g3 => br_of (fun g4 => key _ (yes ?_)) (fun g4 => br_of (fun g5 => key _ (yes ?_)) (fun g5 => key _ (e46 _ rfl ?_ ?_ ?_)))) (fun g3 => br_of (fun g5 => key _ (yes ?_)) (fun g5 => key _ (e46 _ rfl ?_ ?_ ?_))))⟩
    all_goals first
      | (unfold okN; simp at *; omega)
      | (simp at *; omega)
  · have hk' : k = s.size := by
      have : ¬ (k : Int) < (s.size : Int) := by simpa using hf
      omega
    unfold F26_k5
    rw [List.take_of_length_le (by omega)] at ha
    refine br_of (fun g => ⟨?_, rfl⟩) (fun g => ⟨?_, rfl⟩)
    · have g' : (s.size : Int) > 0 := by simpa using g
      unfold nameB; rw [ha, ls, decide_eq_true (show 1 ≤ s.size by omega)]
      simp only [Bool.true_and]
      congr 1
      exact decide_eq_decide.2 (by omega)
    · have g' : ¬ (s.size : Int) > 0 := by simpa using g
      unfold nameB; rw [ha, ls, decide_eq_false (show ¬ 1 ≤ s.size by omega)]; rfl
theorem refName_ok (s : ByteArray) (hs : s.size < 2 ^ 40) (h : Heap) : HEnt Tryd.prog 27 #[.string s] h fun v h' => v = .bool (nameB (lst s)) ∧ h' = h := by
  refine F27_ent _ _ _ ?_
  have ls := lst_len s
  unfold F27
  rintro _ rfl
  refine ⟨fun x h' => ∃ k : Nat, x = k ∧ k ≤ s.size ∧ allN ((lst s).take k) = true ∧ h' = h, fun x _ => (s.size - x).toNat, ⟨0, rfl, by omega, rfl, rfl⟩, ?_⟩
  rintro h1 _ ⟨k, rfl, hk, ha, rfl⟩
  unfold F27_b1
  refine br_of (fun ht => ?_) (fun hf => ?_)
  · have hk' : k < s.size := by
      have : (k : Int) < (s.size : Int) := by simpa using ht
      omega
    have hkl : k < (lst s).length := by omega
    have e1 : IntKind.i64.wrap ((k : Int) + 1) = ((k + 1 : Nat) : Int) := by rw [i64_lt _ (by omega) (by omega)]; omega
    have key : ∀ b : Bool, (b = true ↔ ¬ okN ((lst s).getD k 0)) → F27_k5 (fun x h' => ∃ k : Nat, x = k ∧ k ≤ s.size ∧ allN ((lst s).take k) = true ∧ h' = h1) (fun x _ => (s.size - x).toNat) (((s.size : Int) - (k : Int)).toNat) s (k : Int) b h1 fun v h' => v = .bool (nameB (lst s)) ∧ h' = h1 := by
      intro b hb
      unfold F27_k5
      refine br_of (fun hbt => ⟨?_, rfl⟩) (fun hbf => ?_)
      · have := allN_not hkl (hb.1 hbt)
        unfold nameB; rw [this]; rfl
      · unfold F27_k6
        rintro _ rfl
        rw [e1]
        have hd : okN ((lst s).getD k 0) := Decidable.byContradiction fun hn => by rw [hb.2 hn] at hbf; cases hbf
        exact ⟨⟨k + 1, rfl, by omega, by rw [allN_take hkl, ha, decide_eq_true hd]; rfl, rfl⟩, by show ((s.size : Int) - ((k + 1 : Nat) : Int)).toNat < ((s.size : Int) - (k : Int)).toNat; omega⟩
    unfold F27_k2
    rw [bt_lst]
    have k4 : ∀ b4 b5 : Bool, (b4 = true ↔ 97 ≤ (lst s).getD k 0 ∧ (lst s).getD k 0 ≤ 122) → (b5 = true ↔ 48 ≤ (lst s).getD k 0 ∧ (lst s).getD k 0 ≤ 57) → F27_k4 (fun x h' => ∃ k : Nat, x = k ∧ k ≤ s.size ∧ allN ((lst s).take k) = true ∧ h' = h1) (fun x _ => (s.size - x).toNat) (((s.size : Int) - (k : Int)).toNat) s (k : Int) b4 b5 h1 fun v h' => v = .bool (nameB (lst s)) ∧ h' = h1 := by
      intro b4 b5 h4 h5
      unfold F27_k4
      rw [bt_lst]
      generalize (lst s).getD k 0 = c at key h4 h5 ⊢
      have yes : okN c → (false = true ↔ ¬ okN c) := fun h => by simp [h]
      refine br_of (fun g4 => br_of (fun g5 => ⟨by omega, by omega, br_of (fun g6 => ⟨by omega, by omega, key _ ?_⟩) (fun g6 => key _ (yes ?_))⟩) (fun g5 => key _ (yes ?_))) (fun g4 => key _ (yes ?_))
      · have q4 : ¬ (97 ≤ c ∧ c ≤ 122) := fun e => by rw [h4.2 e] at g4; cases g4
        have q5 : ¬ (48 ≤ c ∧ c ≤ 57) := fun e => by rw [h5.2 e] at g5; cases g5
        have q6 : ¬ (c : Int) = 45 := by simpa using g6
        unfold okN; simp; omega
      · have q6 : (c : Int) = 45 := by simpa using g6
        unfold okN; omega
      · have := h5.1 (by simpa using g5); unfold okN; omega
      · have := h4.1 (by simpa using g4); unfold okN; omega
    have k3 : ∀ b4 : Bool, (b4 = true ↔ 97 ≤ (lst s).getD k 0 ∧ (lst s).getD k 0 ≤ 122) → F27_k3 (fun x h' => ∃ k : Nat, x = k ∧ k ≤ s.size ∧ allN ((lst s).take k) = true ∧ h' = h1) (fun x _ => (s.size - x).toNat) (((s.size : Int) - (k : Int)).toNat) s (k : Int) b4 h1 fun v h' => v = .bool (nameB (lst s)) ∧ h' = h1 := by
      intro b4 h4
      unfold F27_k3
      rw [bt_lst]
      refine ⟨by omega, by omega, br_of (fun g => ⟨by omega, by omega, k4 _ _ h4 ?_⟩) (fun g => k4 _ _ h4 ?_)⟩
      · have : (((lst s).getD k 0 : Nat) : Int) ≥ 48 := by simpa using g
        rw [decide_eq_true_eq]; omega
      · have : ¬ (((lst s).getD k 0 : Nat) : Int) ≥ 48 := by simpa using g
        constructor
        · intro e; cases e
        · intro e; omega
    refine ⟨by omega, by omega, br_of (fun g => ⟨by omega, by omega, k3 _ ?_⟩) (fun g => k3 _ ?_)⟩
    · have : (((lst s).getD k 0 : Nat) : Int) ≥ 97 := by simpa using g
      rw [decide_eq_true_eq]; omega
    · have : ¬ (((lst s).getD k 0 : Nat) : Int) ≥ 97 := by simpa using g
      constructor
      · intro e; cases e
      · intro e; omega
  · have hk' : k = s.size := by
      have : ¬ (k : Int) < (s.size : Int) := by simpa using hf
      omega
    unfold F27_k7
    rw [List.take_of_length_le (by omega)] at ha
    refine br_of (fun g => ⟨?_, rfl⟩) (fun g => ⟨?_, rfl⟩)
    · have g' : (s.size : Int) ≥ 1 := by simpa using g
      unfold nameB; rw [ha, ls, decide_eq_true (show 1 ≤ s.size by omega)]
      simp only [Bool.true_and]
      congr 1
      exact decide_eq_decide.2 (by omega)
    · have g' : ¬ (s.size : Int) ≥ 1 := by simpa using g
      unfold nameB; rw [ha, ls, decide_eq_false (show ¬ 1 ≤ s.size by omega)]; rfl
end Go.Proofs.YtpnbbgcaaogpdaaDoor
