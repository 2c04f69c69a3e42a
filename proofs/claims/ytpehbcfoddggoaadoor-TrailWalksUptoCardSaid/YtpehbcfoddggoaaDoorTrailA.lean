import Derived.Test.YtpehbcfoddggoaaDoorVpT
import Derived.Test.YtpehbcfoddggoaaDoorTrailSpec
import Derived.Test.YtpehbcfoddggoaaDoorVcT

namespace Go.Proofs.YtpehbcfoddggoaaDoor
open Go.Vc Go.Sha Go.Trail
set_option linter.unusedVariables false

theorem i64_lt (n : Int) (h : -9223372036854775808 ≤ n) (h' : n < 9223372036854775808) : IntKind.i64.wrap n = n := IntWalk.i64_in _ (by omega)
theorem seq_nil (s : ByteArray) : seq s ⟨#[]⟩ = decide (lst s = []) := seq_lst s _
theorem lt_of_lst {s : ByteArray} {i : Nat} (h : i < s.size) : i < (lst s).length := by rw [lst_len]; exact h

theorem less_ok (s t : ByteArray) (hs : s.size < 2 ^ 62) (h : Heap) : HEnt Tryd.prog 11 #[.string s, .string t] h fun v h' => v = .bool (lexK (lst s) (lst t)) ∧ h' = h := by
  refine F11_ent _ _ _ _ ?_
  unfold F11
  have ls := lst_len s
  have lt := lst_len t
  have main : F11_k2 s t h fun v h' => v = .bool (lexK (lst s) (lst t)) ∧ h' = h := by
    unfold F11_k2
    have em : minI (s.size : Int) (t.size : Int) = ((min s.size t.size : Nat) : Int) := by unfold minI; split <;> omega
    rw [em]
    refine ⟨fun x h' => ∃ k : Nat, x = k ∧ k ≤ min s.size t.size ∧ lexK ((lst s).drop k) ((lst t).drop k) = lexK (lst s) (lst t) ∧ h' = h, fun x _ => (min s.size t.size - x).toNat, ⟨0, rfl, by omega, rfl, rfl⟩, ?_⟩
    rintro _ _ ⟨k, rfl, hk, he, rfl⟩
    unfold F11_b3
    refine br_of (fun ht => ?_) (fun hf => ?_)
    · have hk' : k < min s.size t.size := by
        have : (k : Int) < ((min s.size t.size : Nat) : Int) := by simpa using ht
        omega
      have ds : (lst s).drop k = (lst s).getD k 0 :: (lst s).drop (k + 1) := by
        rw [List.drop_eq_getElem_cons (by omega), List.getD_eq_getElem?_getD, List.getElem?_eq_getElem (by omega)]; rfl
      have dt : (lst t).drop k = (lst t).getD k 0 :: (lst t).drop (k + 1) := by
        rw [List.drop_eq_getElem_cons (by omega), List.getD_eq_getElem?_getD, List.getElem?_eq_getElem (by omega)]; rfl
      rw [ds, dt, lexK] at he
      unfold F11_k4
      refine ⟨by omega, by omega, by omega, by omega, ?_⟩
      intro h1 hcl; obtain rfl := hcl.eq
      rw [bt_lst, bt_lst]
      generalize (lst s).getD k 0 = a at *
      generalize (lst t).getD k 0 = b at *
      refine br_of (fun hab => ?_) (fun hab => ?_)
      · have hab' : a = b := by
          have : (a : Int) = b := by simpa using hab
          omega
        rw [if_pos hab'] at he
        unfold F11_k5
        have e1 : IntKind.i64.wrap ((k : Int) + 1) = ((k + 1 : Nat) : Int) := by rw [i64_lt _ (by omega) (by omega)]; omega
        rw [e1]
        exact ⟨⟨k + 1, rfl, by omega, he, rfl⟩, by show (((min s.size t.size : Nat) : Int) - ((k + 1 : Nat) : Int)).toNat < (((min s.size t.size : Nat) : Int) - (k : Int)).toNat; omega⟩
      · have hab' : ¬ a = b := by
          have : ¬ (a : Int) = b := by simpa using hab
          omega
        rw [if_neg hab'] at he
        rw [← he]
        unfold F11_k6
        refine br_of (fun ha => ?_) (fun ha => ?_)
        · have ha' : a = 47 := by
            have : (a : Int) = 47 := by simpa using ha
            omega
          unfold F11_k7
          refine br_of (fun _ => ⟨?_, rfl⟩) (fun hb => by cases hb)
          rw [if_pos ha', ha']; rfl
        · have ha' : ¬ a = 47 := by
            have : ¬ (a : Int) = 47 := by simpa using ha
            omega
          rw [if_neg ha']
          unfold F11_k7
          refine br_of (fun hb => ?_) (fun hb => ?_)
          · have hb' : b = 47 := by
              have : (b : Int) = 47 := by simpa using hb
              omega
            rw [if_pos hb', ha]; exact ⟨rfl, rfl⟩
          · have hb' : ¬ b = 47 := by
              have : ¬ (b : Int) = 47 := by simpa using hb
              omega
            rw [if_neg hb']
            unfold F11_k8
            exact ⟨by congr 1; exact decide_eq_decide.2 (by omega), rfl⟩
    · have hk' : k = min s.size t.size := by
        have : ¬ (k : Int) < ((min s.size t.size : Nat) : Int) := by simpa using hf
        omega
      unfold F11_k9
      refine ⟨?_, rfl⟩
      rw [← he]
      congr 1
      by_cases hlt : s.size < t.size
      · rw [List.drop_of_length_le (l := lst s) (by omega), List.drop_eq_getElem_cons (l := lst t) (by omega)]
        simp [lexK, hlt]
      · rw [List.drop_of_length_le (l := lst t) (by omega)]
        have : decide ((s.size : Int) < (t.size : Int)) = false := decide_eq_false (by omega)
        rw [this]
        cases (lst s).drop k <;> rfl
  rw [seq_nil, seq_nil]
  refine br_of (fun hs0 => ?_) (fun hs0 => ?_)
  · have h0 := of_decide_eq_true hs0
    unfold F11_k1
    refine br_of (fun _ => br_of (fun _ => ⟨?_, rfl⟩) (fun hb => ?_)) (fun hb => by cases hb)
    · rw [h0, seq_nil t]
      by_cases ht : lst t = []
      · rw [ht]; rfl
      · cases hl : lst t with
        | nil => exact absurd hl ht
        | cons b q => rfl
    · rw [seq_nil, h0] at hb; simp at hb
  · have h0 := of_decide_eq_false hs0
    unfold F11_k1
    refine br_of (fun ht0 => br_of (fun hb => ?_) (fun _ => ⟨?_, rfl⟩)) (fun _ => main)
    · rw [seq_nil, decide_eq_true_eq] at hb; exact absurd hb h0
    · have h1 := of_decide_eq_true ht0
      rw [h1]
      cases hl : lst s with
      | nil => exact absurd hl h0
      | cons a p => rfl

/-- p, or what lies below it -/
def inP (p q : List Nat) : Bool := decide (p = []) || decide (q = p) || decide (q.take (p.length + 1) = p ++ [47])
theorem in_ok (s t : ByteArray) (hs : s.size < 2 ^ 62) (h : Heap) : HEnt Tryd.prog 13 #[.string s, .string t] h fun v h' => v = .bool (inP (lst s) (lst t)) ∧ h' = h := by
  refine F13_ent _ _ _ _ ?_
  unfold F13 inP
  have ls := lst_len s
  have lt := lst_len t
  rw [seq_nil, seq_lst t s]
  refine br_of (fun h0 => ⟨by rw [h0]; simp, rfl⟩) (fun h0 => ?_)
  refine br_of (fun h1 => ⟨by rw [h1]; simp, rfl⟩) (fun h1 => ?_)
  rw [h0, h1, Bool.false_or, Bool.false_or]
  refine br_of (fun h2 => ?_) (fun h2 => ⟨?_, rfl⟩)
  · have h2' : s.size < t.size := by
      have : (t.size : Int) > (s.size : Int) := by simpa using h2
      omega
    refine ⟨by omega, by omega, by omega, ?_⟩
    have e : (lst t).take ((lst s).length + 1) = (lst t).take (lst s).length ++ [(lst t).getD (lst s).length 0] := by
      rw [List.take_succ_eq_append_getElem (by omega), List.getD_eq_getElem?_getD, List.getElem?_eq_getElem (by omega)]; rfl
    rw [e, seq_lst, Int.toNat_natCast, lst_cut, List.drop_zero, Nat.sub_zero, ← ls]
    refine br_of (fun h3 => ⟨by omega, by omega, ?_, rfl⟩) (fun h3 => ⟨?_, rfl⟩)
    · have h3' := of_decide_eq_true h3
      rw [h3', bt_lst]
      congr 1
      rw [Bool.eq_iff_iff]
      simp only [beq_iff_eq, decide_eq_true_eq, List.append_cancel_left_eq, List.cons.injEq, and_true]
      omega
    · have h3' := of_decide_eq_false h3
      congr 1
      refine (decide_eq_false fun hh => h3' ?_).symm
      exact (List.append_inj' hh rfl).1
  · have h2' : ¬ s.size < t.size := by
      have : ¬ (t.size : Int) > (s.size : Int) := by simpa using h2
      omega
    congr 1
    refine (decide_eq_false fun hh => ?_).symm
    have := congrArg List.length hh
    rw [List.length_take, List.length_append] at this
    simp at this; omega
theorem refIn_ok (s t : ByteArray) (hs : s.size < 2 ^ 62) (h : Heap) : HEnt Tryd.prog 14 #[.string s, .string t] h fun v h' => v = .bool (inP (lst s) (lst t)) ∧ h' = h := by
  refine F14_ent _ _ _ _ ?_
  unfold F14 inP
  have ls := lst_len s
  have lt := lst_len t
  have last : lst s ≠ [] → ¬ lst t = lst s → F14_k2 s t h fun v h' => v = .bool (decide (lst s = []) || decide (lst t = lst s) || decide ((lst t).take ((lst s).length + 1) = lst s ++ [47])) ∧ h' = h := by
    intro h0 h1
    rw [decide_eq_false h0, decide_eq_false h1, Bool.false_or, Bool.false_or]
    unfold F14_k2
    have ew : IntKind.i64.wrap ((s.size : Int) + 1) = ((s.size + 1 : Nat) : Int) := by rw [i64_lt _ (by omega) (by omega)]; omega
    rw [ew]
    refine br_of (fun h2 => ?_) (fun h2 => ⟨?_, rfl⟩)
    · have h2' : s.size < t.size := by
        have : (t.size : Int) > (s.size : Int) := by simpa using h2
        omega
      refine ⟨by omega, by omega, by omega, by show s.size + 1 ≤ _; omega, ?_, rfl⟩
      rw [seq_lst, Int.toNat_natCast, lst_cut, List.drop_zero, Nat.sub_zero, lst_append, ← ls]; rfl
    · have h2' : ¬ s.size < t.size := by
        have : ¬ (t.size : Int) > (s.size : Int) := by simpa using h2
        omega
      congr 1
      refine (decide_eq_false fun hh => ?_).symm
      have := congrArg List.length hh
      rw [List.length_take, List.length_append] at this
      simp at this; omega
  rw [seq_nil, seq_lst s t]
  refine br_of (fun h0 => ?_) (fun h0 => ?_)
  · unfold F14_k1
    exact br_of (fun _ => ⟨by rw [h0]; simp, rfl⟩) (fun hb => by cases hb)
  · unfold F14_k1
    refine br_of (fun h1 => ⟨?_, rfl⟩) (fun h1 => last (of_decide_eq_false h0) (fun e => (of_decide_eq_false h1) e.symm))
    have := of_decide_eq_true h1
    rw [this]; simp
end Go.Proofs.YtpehbcfoddggoaaDoor
