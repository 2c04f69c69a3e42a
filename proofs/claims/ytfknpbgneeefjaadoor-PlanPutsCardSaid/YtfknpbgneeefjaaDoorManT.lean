import Derived.Test.YtfknpbgneeefjaaDoorTrailSpec

set_option linter.unusedVariables false
set_option linter.unusedSimpArgs false
namespace Go.Man
/-- one list beside another, by what c says of two elements -/
def lexO {α : Type} (c : α → α → Int) : List α → List α → Int
  | [], [] => 0
  | [], _ :: _ => -1
  | _ :: _, [] => 1
  | x :: xs, y :: ys => if c x y = 0 then lexO c xs ys else c x y
structure Cmp {α : Type} (c : α → α → Int) : Prop where
  sgn : ∀ x y, c x y = -1 ∨ c x y = 0 ∨ c x y = 1
  zero : ∀ x y, c x y = 0 ↔ x = y
  anti : ∀ x y, c y x = - c x y
  trans : ∀ x y z, c x y = -1 → c y z = -1 → c x z = -1
theorem Cmp.self {α : Type} {c : α → α → Int} (h : Cmp c) (x : α) : c x x = 0 := (h.zero x x).2 rfl
theorem lex_cmp {α : Type} {c : α → α → Int} (h : Cmp c) : Cmp (lexO c) where
  sgn := by
    intro x
    induction x with
    | nil => intro y; cases y <;> simp [lexO]
    | cons a x ih =>
      intro y
      cases y with
      | nil => simp [lexO]
      | cons b y =>
        simp only [lexO]
        split
        · exact ih y
        · exact h.sgn a b
  zero := by
    intro x
    induction x with
    | nil => intro y; cases y <;> simp [lexO]
    | cons a x ih =>
      intro y
      cases y with
      | nil => simp [lexO]
      | cons b y =>
        simp only [lexO]
        split
        · rename_i h0
          rw [ih y, (h.zero a b).1 h0]; simp
        · rename_i h0
          have : a ≠ b := fun e => h0 ((h.zero a b).2 e)
          simp [h0, this]
  anti := by
    intro x
    induction x with
    | nil => intro y; cases y <;> simp [lexO]
    | cons a x ih =>
      intro y
      cases y with
      | nil => simp [lexO]
      | cons b y =>
        simp only [lexO]
        have := h.anti a b
        by_cases h0 : c a b = 0
        · rw [if_pos h0, if_pos (by omega), ih y]
        · rw [if_neg h0, if_neg (by omega), this]
  trans := by
    intro x
    induction x with
    | nil =>
      intro y z h1 h2
      cases y with
      | nil => simp [lexO] at h1
      | cons b y =>
        cases z with
        | nil => simp [lexO] at h2
        | cons d z => simp [lexO]
    | cons a x ih =>
      intro y z h1 h2
      cases y with
      | nil => simp [lexO] at h1
      | cons b y =>
        cases z with
        | nil => simp [lexO] at h2
        | cons d z =>
          simp only [lexO] at h1 h2 ⊢
          by_cases e1 : c a b = 0
          · rw [if_pos e1] at h1
            obtain rfl := (h.zero a b).1 e1
            by_cases e2 : c a d = 0
            · rw [if_pos e2] at h2 ⊢; exact ih y z h1 h2
            · rw [if_neg e2] at h2 ⊢; exact h2
          · rw [if_neg e1] at h1
            by_cases e2 : c b d = 0
            · obtain rfl := (h.zero b d).1 e2
              rw [if_neg e1]; exact h1
            · rw [if_neg e2] at h2
              have := h.trans a b d h1 h2
              rw [if_neg (by omega)]; exact this
theorem lex_prefix {α : Type} {c : α → α → Int} (h : Cmp c) : ∀ (p x y : List α), lexO c (p ++ x) (p ++ y) = lexO c x y
  | [], x, y => rfl
  | a :: p, x, y => by simp only [List.cons_append, lexO, h.self, if_pos]; exact lex_prefix h p x y
theorem lex_longer {α : Type} {c : α → α → Int} (h : Cmp c) (p x : List α) (hx : x ≠ []) : lexO c p (p ++ x) = -1 := by
  have := lex_prefix h p [] x
  rw [List.append_nil] at this
  rw [this]
  cases x with
  | nil => exact absurd rfl hx
  | cons a x => rfl
def ncmp (a b : Nat) : Int := if a < b then -1 else if b < a then 1 else 0
theorem ncmp_cmp : Cmp ncmp where
  sgn := by intro x y; unfold ncmp; split; · simp
            split <;> simp
  zero := by intro x y; unfold ncmp; split; · constructor <;> intro h <;> omega
             split <;> constructor <;> intro h <;> omega
  anti := by intro x y; unfold ncmp; split <;> split <;> first | omega | (split <;> omega)
  trans := by
    intro x y z; unfold ncmp; intro h1 h2
    split at h1
    · split at h2
      · rw [if_pos (by omega)]
      · split at h2 <;> cases h2
    · split at h1 <;> cases h1
def cmpL : List Nat → List Nat → Int := lexO ncmp
theorem cmpL_cmp : Cmp cmpL := lex_cmp ncmp_cmp
/-- pieces, between dots -/
def pcs : List Nat → List (List Nat)
  | [] => [[]]
  | c :: r => if c = 46 then [] :: pcs r else match pcs r with
    | [] => [[c]]
    | p :: ps => (c :: p) :: ps
theorem pcs_ne (l : List Nat) : ∃ p ps, pcs l = p :: ps := by
  cases l with
  | nil => exact ⟨_, _, rfl⟩
  | cons c r =>
    unfold pcs
    split
    · exact ⟨_, _, rfl⟩
    · split <;> exact ⟨_, _, rfl⟩
theorem pcs_cons {c : Nat} {r p : List Nat} {ps : List (List Nat)} (h : pcs r = p :: ps) : pcs (c :: r) = if c = 46 then [] :: p :: ps else (c :: p) :: ps := by
  rw [pcs, h]
theorem pcs_dot : ∀ (x r : List Nat), (∀ c ∈ x, c ≠ 46) → pcs (x ++ 46 :: r) = x :: pcs r
  | [], r, _ => by simp [pcs]
  | c :: x, r, h => by
    have ih := pcs_dot x r fun d hd => h d (List.mem_cons_of_mem _ hd)
    rw [List.cons_append, pcs_cons ih, if_neg (h c (List.mem_cons_self ..))]
theorem pcs_whole : ∀ (x : List Nat), (∀ c ∈ x, c ≠ 46) → pcs x = [x]
  | [], _ => rfl
  | c :: x, h => by
    have ih := pcs_whole x fun d hd => h d (List.mem_cons_of_mem _ hd)
    rw [pcs_cons ih, if_neg (h c (List.mem_cons_self ..))]
theorem pcs_cat : ∀ l r : List Nat, pcs (l ++ 46 :: r) = pcs l ++ pcs r
  | [], r => by simp [pcs]
  | c :: l, r => by
    obtain ⟨p, ps, hp⟩ := pcs_ne l
    have ih := pcs_cat l r
    rw [hp, List.cons_append] at ih
    rw [List.cons_append, pcs_cons ih, pcs_cons hp]
    split <;> simp
theorem pcs_len (l : List Nat) : (pcs l).length = l.count 46 + 1 := by
  induction l with
  | nil => rfl
  | cons c r ih =>
    obtain ⟨p, ps, hp⟩ := pcs_ne r
    rw [pcs_cons hp]
    rw [hp] at ih
    by_cases hc : c = 46
    · subst hc; simp at ih ⊢; omega
    · rw [if_neg hc, List.count_cons_of_ne (fun e => hc e)]; simpa using ih
def glue : List (List Nat) → List Nat
  | [] => []
  | [x] => x
  | x :: y :: r => x ++ 46 :: glue (y :: r)
theorem glue_pcs (l : List Nat) : glue (pcs l) = l := by
  induction l with
  | nil => rfl
  | cons c r ih =>
    obtain ⟨p, ps, hp⟩ := pcs_ne r
    rw [pcs_cons hp]
    rw [hp] at ih
    split
    · rename_i hc; subst hc; simp [glue, ih]
    · cases ps with
      | nil => simpa [glue] using ih
      | cons q qs => simpa [glue] using ih
/-- digits alone -/
def digs (x : List Nat) : Bool := decide (x ≠ []) && x.all fun c => decide (48 ≤ c ∧ c ≤ 57)
def trim (x : List Nat) : List Nat := x.dropWhile (· == 48)
def key (x : List Nat) : List Nat := if digs x then [0, (trim x).length] ++ trim x ++ x else 1 :: x
theorem key_inj {x y : List Nat} (h : key x = key y) : x = y := by
  unfold key at h
  split at h <;> split at h
  · simp only [List.cons_append, List.nil_append, List.cons.injEq, true_and] at h
    exact (List.append_inj h.2 h.1).2
  · simp at h
  · simp at h
  · simpa using h
def pieceC (x y : List Nat) : Int := cmpL (key x) (key y)
theorem pieceC_cmp : Cmp pieceC where
  sgn x y := cmpL_cmp.sgn _ _
  zero x y := (cmpL_cmp.zero _ _).trans ⟨key_inj, fun e => e ▸ rfl⟩
  anti x y := cmpL_cmp.anti _ _
  trans x y z := cmpL_cmp.trans _ _ _
def orderC (a b : List Nat) : Int := lexO pieceC (pcs a) (pcs b)
theorem orderC_cmp : Cmp orderC where
  sgn x y := (lex_cmp pieceC_cmp).sgn _ _
  zero x y := ((lex_cmp pieceC_cmp).zero _ _).trans ⟨fun h => by rw [← glue_pcs x, ← glue_pcs y, h], fun e => e ▸ rfl⟩
  anti x y := (lex_cmp pieceC_cmp).anti _ _
  trans x y z := (lex_cmp pieceC_cmp).trans _ _ _
end Go.Man

set_option linter.unusedVariables false
set_option linter.unusedSimpArgs false
namespace Go.Man
theorem cmpL_len : ∀ (x y u v : List Nat), x.length = y.length → cmpL (x ++ u) (y ++ v) = if cmpL x y = 0 then cmpL u v else cmpL x y
  | [], [], u, v, _ => by simp [cmpL, lexO]
  | a :: x, b :: y, u, v, h => by
    have ih := cmpL_len x y u v (by simpa using h)
    simp only [cmpL] at ih ⊢
    simp only [List.cons_append, lexO]
    by_cases h0 : ncmp a b = 0
    · simp only [if_pos h0]; exact ih
    · simp only [if_neg h0]
  | [], b :: y, u, v, h => by simp at h
  | a :: x, [], u, v, h => by simp at h
/-- the program's way -/
theorem pieceC_eq (x y : List Nat) : pieceC x y =
    if digs x ≠ digs y then (if digs x then -1 else 1)
    else if digs x ∧ (trim x).length ≠ (trim y).length then (if (trim x).length < (trim y).length then -1 else 1)
    else if digs x ∧ trim x ≠ trim y then cmpL (trim x) (trim y)
    else cmpL x y := by
  unfold pieceC key
  cases hx : digs x <;> cases hy : digs y
  · simp only [Bool.false_eq_true, if_false, ne_eq, not_true_eq_false, false_and]
    simp [cmpL, lexO, ncmp]
  · simp [cmpL, lexO, ncmp]
  · simp [cmpL, lexO, ncmp]
  · simp only [if_true, ne_eq, not_true_eq_false, if_false, true_and]
    by_cases hl : (trim x).length = (trim y).length
    · rw [if_neg (by simpa using hl), hl]
      rw [List.append_assoc, List.append_assoc, show cmpL ([0, (trim y).length] ++ (trim x ++ x)) ([0, (trim y).length] ++ (trim y ++ y)) = cmpL (trim x ++ x) (trim y ++ y) from lex_prefix ncmp_cmp _ _ _]
      rw [cmpL_len _ _ _ _ hl]
      by_cases ht : trim x = trim y
      · rw [if_pos ((cmpL_cmp.zero _ _).2 ht), if_neg (by simpa using ht)]
      · rw [if_neg (fun h => ht ((cmpL_cmp.zero _ _).1 h)), if_pos (by simpa using ht)]
    · rw [if_pos (by simpa using hl)]
      simp only [List.cons_append, List.nil_append, cmpL, lexO]
      rw [if_pos (by simp [ncmp])]
      have : ncmp (trim x).length (trim y).length ≠ 0 := fun h => hl ((ncmp_cmp.zero _ _).1 h)
      rw [if_neg this]
      unfold ncmp
      by_cases h1 : (trim x).length < (trim y).length
      · simp [h1]
      · simp [h1, show (trim y).length < (trim x).length by omega]
def pad (x : List Nat) (n : Nat) : List Nat := List.replicate (n - x.length) 48 ++ x
theorem trim_split : ∀ x : List Nat, x = List.replicate (x.length - (trim x).length) 48 ++ trim x ∧ (trim x).length ≤ x.length
  | [] => by simp [trim]
  | a :: x => by
    obtain ⟨h1, h2⟩ := trim_split x
    by_cases ha : a = 48
    · subst ha
      have e : trim (48 :: x) = trim x := by simp [trim]
      rw [e]
      refine ⟨?_, by simp; omega⟩
      have : (48 :: x).length - (trim x).length = (x.length - (trim x).length) + 1 := by simp; omega
      rw [this, List.replicate_succ, List.cons_append, ← h1]
    · have e : trim (a :: x) = a :: x := by simp [trim, ha]
      rw [e]; simp
theorem trim_head {x t : List Nat} {c : Nat} (h : trim x = c :: t) : c ≠ 48 ∧ c ∈ x := by
  have h1 : c ∈ trim x := by rw [h]; simp
  refine ⟨?_, (List.dropWhile_sublist _).subset h1⟩
  intro e
  subst e
  have := List.head?_dropWhile_not (· == 48) x
  unfold trim at h
  rw [h] at this
  simp at this
theorem pad_trim (x : List Nat) (n : Nat) (hn : x.length ≤ n) : pad x n = List.replicate (n - (trim x).length) 48 ++ trim x := by
  obtain ⟨h1, h2⟩ := trim_split x
  unfold pad
  conv => lhs; rw [h1]
  rw [← List.append_assoc, List.replicate_append_replicate]
  congr 2
  rw [List.length_append, List.length_replicate]
  omega
theorem pad_shorter {x y : List Nat} {n : Nat} (hx : x.length ≤ n) (hy : y.length ≤ n) (hd : ∀ c ∈ y, 48 ≤ c) (h : (trim x).length < (trim y).length) : cmpL (pad x n) (pad y n) = -1 := by
  rw [pad_trim x n hx, pad_trim y n hy]
  have h1 := (trim_split y).2
  obtain ⟨k, hk⟩ : ∃ k, n - (trim x).length = (n - (trim y).length) + (k + 1) := ⟨(trim y).length - (trim x).length - 1, by omega⟩
  rw [hk, ← List.replicate_append_replicate, List.append_assoc]
  rw [show cmpL (List.replicate (n - (trim y).length) 48 ++ (List.replicate (k + 1) 48 ++ trim x)) (List.replicate (n - (trim y).length) 48 ++ trim y) = cmpL (List.replicate (k + 1) 48 ++ trim x) (trim y) from lex_prefix ncmp_cmp _ _ _]
  cases ht : trim y with
  | nil => rw [ht] at h; simp at h
  | cons c t =>
    obtain ⟨h2, h3⟩ := trim_head ht
    have := hd c h3
    rw [List.replicate_succ, List.cons_append]
    simp only [cmpL, lexO]
    have : ncmp 48 c = -1 := by unfold ncmp; rw [if_pos (by omega)]
    rw [this]; simp
theorem digs_ge {x : List Nat} (h : digs x = true) : ∀ c ∈ x, 48 ≤ c := by
  unfold digs at h
  simp only [Bool.and_eq_true, List.all_eq_true, decide_eq_true_eq] at h
  exact fun c hc => (h.2 c hc).1
/-- the document's way -/
def refP (x y : List Nat) : Int :=
  if digs x ∧ ¬ digs y then -1 else if digs y ∧ ¬ digs x then 1
  else if digs x ∧ cmpL (pad x (x.length + y.length)) (pad y (x.length + y.length)) ≠ 0 then cmpL (pad x (x.length + y.length)) (pad y (x.length + y.length))
  else cmpL x y
theorem refP_eq (x y : List Nat) : refP x y = pieceC x y := by
  rw [pieceC_eq]
  unfold refP
  cases hx : digs x <;> cases hy : digs y
  · simp
  · simp
  · simp
  · simp only [not_true_eq_false, and_false, if_false, ne_eq, true_and]
    have hx' := digs_ge hx
    have hy' := digs_ge hy
    by_cases hl : (trim x).length = (trim y).length
    · rw [if_neg (show ¬ ¬ (trim x).length = (trim y).length by simpa using hl)]
      have e : cmpL (pad x (x.length + y.length)) (pad y (x.length + y.length)) = cmpL (trim x) (trim y) := by
        rw [pad_trim x _ (by omega), pad_trim y _ (by omega), hl]
        exact lex_prefix ncmp_cmp _ _ _
      rw [e]
      by_cases ht : trim x = trim y
      · rw [if_neg (by simpa using (cmpL_cmp.zero _ _).2 ht), if_neg (by simpa using ht)]
      · rw [if_pos (fun h => ht ((cmpL_cmp.zero _ _).1 h)), if_pos ht]
    · rw [if_pos hl]
      by_cases h1 : (trim x).length < (trim y).length
      · rw [pad_shorter (by omega) (by omega) hy' h1]; simp [h1]
      · have := pad_shorter (n := x.length + y.length) (by omega) (by omega) hx' (show (trim y).length < (trim x).length by omega)
        have e : cmpL (pad x (x.length + y.length)) (pad y (x.length + y.length)) = 1 := by
          have h2 := cmpL_cmp.anti (pad y (x.length + y.length)) (pad x (x.length + y.length))
          omega
        rw [e]; simp [h1]
/-- a number's signs -/
def dig : Nat → Nat → List Nat
  | 0, n => [48 + n % 10]
  | f + 1, n => if n < 10 then [48 + n] else dig f (n / 10) ++ [48 + n % 10]
theorem dig_next : ∀ n, n < 1000 → pieceC (dig 3 n) (dig 3 (n + 1)) = -1 := by decide +kernel
theorem dig_dots (f n : Nat) : ∀ c ∈ dig f n, c ≠ 46 := by
  induction f generalizing n with
  | zero => intro c hc; simp [dig] at hc; omega
  | succ f ih =>
    intro c hc
    unfold dig at hc
    split at hc
    · simp at hc; omega
    · rcases List.mem_append.1 hc with hc | hc
      · exact ih _ c hc
      · simp at hc; omega
theorem grows (hd : List Nat) (n : Nat) (hn : n < 1000) (tl : List Nat) :
    orderC (hd ++ 46 :: dig 3 n) (hd ++ 46 :: dig 3 (n + 1)) = -1 ∧ orderC ((hd ++ 46 :: dig 3 n) ++ 46 :: tl) (hd ++ 46 :: dig 3 (n + 1)) = -1 ∧ orderC (hd ++ 46 :: dig 3 n) ((hd ++ 46 :: dig 3 n) ++ 46 :: tl) = -1 := by
  unfold orderC
  have h1 := dig_next n hn
  rw [pcs_cat (hd ++ 46 :: dig 3 n) tl, pcs_cat, pcs_cat, pcs_whole _ (dig_dots 3 n), pcs_whole _ (dig_dots 3 (n + 1))]
  refine ⟨?_, ?_, ?_⟩
  · rw [lex_prefix pieceC_cmp]; simp [lexO, h1]
  · rw [List.append_assoc, lex_prefix pieceC_cmp]; simp [lexO, h1]
  · obtain ⟨p, ps, hp⟩ := pcs_ne tl
    exact lex_longer pieceC_cmp _ _ (by rw [hp]; simp)
end Go.Man
