import Derived.Test.YtpnbbgcaaogpdaaDoorManS

set_option linter.unusedVariables false
set_option linter.unusedSimpArgs false
namespace Go.Man
theorem cmpL_len : ∀ (x y u v : List Nat), x.length = y.length → cmpL (x ++ u) (y ++ v) = if cmpL x y = 0 then cmpL u v else cmpL x y
  | [], [], u, v, _ => by simp [cmpL, lexO]
  | a :: x, b :: y, u, v, h => by
    have ih := cmpL_len x y u v (by simpa using h)
    simp only [cmpL] at ih ⊢
    simp only [List.cons_append, lexO]
    by_cases h0 : ncmp a b = 0
    · simp only [if_pos h0]; exact ih
    · simp only [if_neg h0]
  | [], b :: y, u, v, h => by simp at h
  | a :: x, [], u, v, h => by simp at h
/-- the program's way -/
theorem pieceC_eq (x y : List Nat) : pieceC x y =
    if digs x ≠ digs y then (if digs x then -1 else 1)
    else if digs x ∧ (trim x).length ≠ (trim y).length then (if (trim x).length < (trim y).length then -1 else 1)
    else if digs x ∧ trim x ≠ trim y then cmpL (trim x) (trim y)
    else cmpL x y := by
  unfold pieceC key
  cases hx : digs x <;> cases hy : digs y
  · simp only [Bool.false_eq_true, if_false, ne_eq, not_true_eq_false, false_and]
    simp [cmpL, lexO, ncmp]
  · simp [cmpL, lexO, ncmp]
  · simp [cmpL, lexO, ncmp]
  · simp only [if_true, ne_eq, not_true_eq_false, if_false, true_and]
    by_cases hl : (trim x).length = (trim y).length
    · rw [if_neg (by simpa using hl), hl]
      rw [List.append_assoc, List.append_assoc, show cmpL ([0, (trim y).length] ++ (trim x ++ x)) ([0, (trim y).length] ++ (trim y ++ y)) = cmpL (trim x ++ x) (trim y ++ y) from lex_prefix ncmp_cmp _ _ _]
      rw [cmpL_len _ _ _ _ hl]
      by_cases ht : trim x = trim y
      · rw [if_pos ((cmpL_cmp.zero _ _).2 ht), if_neg (by simpa using ht)]
      · rw [if_neg (fun h => ht ((cmpL_cmp.zero _ _).1 h)), if_pos (by simpa using ht)]
    · rw [if_pos (by simpa using hl)]
      simp only [List.cons_append, List.nil_append, cmpL, lexO]
      rw [if_pos (by simp [ncmp])]
      have : ncmp (trim x).length (trim y).length ≠ 0 := fun h => hl ((ncmp_cmp.zero _ _).1 h)
      rw [if_neg this]
      unfold ncmp
      by_cases h1 : (trim x).length < (trim y).length
      · simp [h1]
      · simp [h1, show (trim y).length < (trim x).length by omega]
def pad (x : List Nat) (n : Nat) : List Nat := List.replicate (n - x.length) 48 ++ x
theorem trim_split : ∀ x : List Nat, x = List.replicate (x.length - (trim x).length) 48 ++ trim x ∧ (trim x).length ≤ x.length
  | [] => by simp [trim]
  | a :: x => by
    obtain ⟨h1, h2⟩ := trim_split x
    by_cases ha : a = 48
    · subst ha
      have e : trim (48 :: x) = trim x := by simp [trim]
      rw [e]
      refine ⟨?_, by simp; omega⟩
      have : (48 :: x).length - (trim x).length = (x.length - (trim x).length) + 1 := by simp; omega
      rw [this, List.replicate_succ, List.cons_append, ← h1]
    · have e : trim (a :: x) = a :: x := by simp [trim, ha]
      rw [e]; simp
theorem trim_head {x t : List Nat} {c : Nat} (h : trim x = c :: t) : c ≠ 48 ∧ c ∈ x := by
  have h1 : c ∈ trim x := by rw [h]; simp
  refine ⟨?_, (List.dropWhile_sublist _).subset h1⟩
  intro e
  subst e
  have := List.head?_dropWhile_not (· == 48) x
  unfold trim at h
  rw [h] at this
  simp at this
theorem pad_trim (x : List Nat) (n : Nat) (hn : x.length ≤ n) : pad x n = List.replicate (n - (trim x).length) 48 ++ trim x := by
  obtain ⟨h1, h2⟩ := trim_split x
  unfold pad
  conv => lhs; rw [h1]
  rw [← List.append_assoc, List.replicate_append_replicate]
  congr 2
  rw [List.length_append, List.length_replicate]
  omega
theorem pad_shorter {x y : List Nat} {n : Nat} (hx : x.length ≤ n) (hy : y.length ≤ n) (hd : ∀ c ∈ y, 48 ≤ c) (h : (trim x).length < (trim y).length) : cmpL (pad x n) (pad y n) = -1 := by
  rw [pad_trim x n hx, pad_trim y n hy]
  have h1 := (trim_split y).2
  obtain ⟨k, hk⟩ : ∃ k, n - (trim x).length = (n - (trim y).length) + (k + 1) := ⟨(trim y).length - (trim x).length - 1, by omega⟩
  rw [hk, ← List.replicate_append_replicate, List.append_assoc]
  rw [show cmpL (List.replicate (n - (trim y).length) 48 ++ (List.replicate (k + 1) 48 ++ trim x)) (List.replicate (n - (trim y).length) 48 ++ trim y) = cmpL (List.replicate (k + 1) 48 ++ trim x) (trim y) from lex_prefix ncmp_cmp _ _ _]
  cases ht : trim y with
  | nil => rw [ht] at h; simp at h
  | cons c t =>
    obtain ⟨h2, h3⟩ := trim_head ht
    have := hd c h3
    rw [List.replicate_succ, List.cons_append]
    simp only [cmpL, lexO]
    have : ncmp 48 c = -1 := by unfold ncmp; rw [if_pos (by omega)]
    rw [this]; simp
theorem digs_ge {x : List Nat} (h : digs x = true) : ∀ c ∈ x, 48 ≤ c := by
  unfold digs at h
  simp only [Bool.and_eq_true, List.all_eq_true, decide_eq_true_eq] at h
  exact fun c hc => (h.2 c hc).1
/-- the document's way -/
def refP (x y : List Nat) : Int :=
  if digs x ∧ ¬ digs y then -1 else if digs y ∧ ¬ digs x then 1
  else if digs x ∧ cmpL (pad x (x.length + y.length)) (pad y (x.length + y.length)) ≠ 0 then cmpL (pad x (x.length + y.length)) (pad y (x.length + y.length))
  else cmpL x y
theorem refP_eq (x y : List Nat) : refP x y = pieceC x y := by
  rw [pieceC_eq]
  unfold refP
  cases hx : digs x <;> cases hy : digs y
  · simp
  · simp
  · simp
  · simp only [not_true_eq_false, and_false, if_false, ne_eq, true_and]
    have hx' := digs_ge hx
    have hy' := digs_ge hy
    by_cases hl : (trim x).length = (trim y).length
    · rw [if_neg (show ¬ ¬ (trim x).length = (trim y).length by simpa using hl)]
      have e : cmpL (pad x (x.length + y.length)) (pad y (x.length + y.length)) = cmpL (trim x) (trim y) := by
        rw [pad_trim x _ (by omega), pad_trim y _ (by omega), hl]
        exact lex_prefix ncmp_cmp _ _ _
      rw [e]
      by_cases ht : trim x = trim y
      · rw [if_neg (by simpa using (cmpL_cmp.zero _ _).2 ht), if_neg (by simpa using ht)]
      · rw [if_pos (fun h => ht ((cmpL_cmp.zero _ _).1 h)), if_pos ht]
    · rw [if_pos hl]
      by_cases h1 : (trim x).length < (trim y).length
      · rw [pad_shorter (by omega) (by omega) hy' h1]; simp [h1]
      · have := pad_shorter (n := x.length + y.length) (by omega) (by omega) hx' (show (trim y).length < (trim x).length by omega)
        have e : cmpL (pad x (x.length + y.length)) (pad y (x.length + y.length)) = 1 := by
          have h2 := cmpL_cmp.anti (pad y (x.length + y.length)) (pad x (x.length + y.length))
          omega
        rw [e]; simp [h1]
/-- a number's signs -/
def dig : Nat → Nat → List Nat
  | 0, n => [48 + n % 10]
  | f + 1, n => if n < 10 then [48 + n] else dig f (n / 10) ++ [48 + n % 10]
theorem dig_next : ∀ n, n < 1000 → pieceC (dig 3 n) (dig 3 (n + 1)) = -1 := by decide +kernel
theorem dig_dots (f n : Nat) : ∀ c ∈ dig f n, c ≠ 46 := by
  induction f generalizing n with
  | zero => intro c hc; simp [dig] at hc; omega
  | succ f ih =>
    intro c hc
    unfold dig at hc
    split at hc
    · simp at hc; omega
    · rcases List.mem_append.1 hc with hc | hc
      · exact ih _ c hc
      · simp at hc; omega
theorem grows (hd : List Nat) (n : Nat) (hn : n < 1000) (tl : List Nat) :
    orderC (hd ++ 46 :: dig 3 n) (hd ++ 46 :: dig 3 (n + 1)) = -1 ∧ orderC ((hd ++ 46 :: dig 3 n) ++ 46 :: tl) (hd ++ 46 :: dig 3 (n + 1)) = -1 ∧ orderC (hd ++ 46 :: dig 3 n) ((hd ++ 46 :: dig 3 n) ++ 46 :: tl) = -1 := by
  unfold orderC
  have h1 := dig_next n hn
  rw [pcs_cat (hd ++ 46 :: dig 3 n) tl, pcs_cat, pcs_cat, pcs_whole _ (dig_dots 3 n), pcs_whole _ (dig_dots 3 (n + 1))]
  refine ⟨?_, ?_, ?_⟩
  · rw [lex_prefix pieceC_cmp]; simp [lexO, h1]
  · rw [List.append_assoc, lex_prefix pieceC_cmp]; simp [lexO, h1]
  · obtain ⟨p, ps, hp⟩ := pcs_ne tl
    exact lex_longer pieceC_cmp _ _ (by rw [hp]; simp)
end Go.Man
