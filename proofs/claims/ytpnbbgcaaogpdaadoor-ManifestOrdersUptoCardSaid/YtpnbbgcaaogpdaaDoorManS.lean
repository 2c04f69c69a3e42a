import Derived.Test.YtpnbbgcaaogpdaaDoorTrailSpec

set_option linter.unusedVariables false
set_option linter.unusedSimpArgs false
namespace Go.Man
/-- one list beside another, by what c says of two elements -/
def lexO {α : Type} (c : α → α → Int) : List α → List α → Int
  | [], [] => 0
  | [], _ :: _ => -1
  | _ :: _, [] => 1
  | x :: xs, y :: ys => if c x y = 0 then lexO c xs ys else c x y
structure Cmp {α : Type} (c : α → α → Int) : Prop where
  sgn : ∀ x y, c x y = -1 ∨ c x y = 0 ∨ c x y = 1
  zero : ∀ x y, c x y = 0 ↔ x = y
  anti : ∀ x y, c y x = - c x y
  trans : ∀ x y z, c x y = -1 → c y z = -1 → c x z = -1
theorem Cmp.self {α : Type} {c : α → α → Int} (h : Cmp c) (x : α) : c x x = 0 := (h.zero x x).2 rfl
theorem lex_cmp {α : Type} {c : α → α → Int} (h : Cmp c) : Cmp (lexO c) where
  sgn := by
    intro x
    induction x with
    | nil => intro y; cases y <;> simp [lexO]
    | cons a x ih =>
      intro y
      cases y with
      | nil => simp [lexO]
      | cons b y =>
        simp only [lexO]
        split
        · exact ih y
        · exact h.sgn a b
  zero := by
    intro x
    induction x with
    | nil => intro y; cases y <;> simp [lexO]
    | cons a x ih =>
      intro y
      cases y with
      | nil => simp [lexO]
      | cons b y =>
        simp only [lexO]
        split
        · rename_i h0
          rw [ih y, (h.zero a b).1 h0]; simp
        · rename_i h0
          have : a ≠ b := fun e => h0 ((h.zero a b).2 e)
          simp [h0, this]
  anti := by
    intro x
    induction x with
    | nil => intro y; cases y <;> simp [lexO]
    | cons a x ih =>
      intro y
      cases y with
      | nil => simp [lexO]
      | cons b y =>
        simp only [lexO]
        have := h.anti a b
        by_cases h0 : c a b = 0
        · rw [if_pos h0, if_pos (by omega), ih y]
        · rw [if_neg h0, if_neg (by omega), this]
  trans := by
    intro x
    induction x with
    | nil =>
      intro y z h1 h2
      cases y with
      | nil => simp [lexO] at h1
      | cons b y =>
        cases z with
        | nil => simp [lexO] at h2
        | cons d z => simp [lexO]
    | cons a x ih =>
      intro y z h1 h2
      cases y with
      | nil => simp [lexO] at h1
      | cons b y =>
        cases z with
        | nil => simp [lexO] at h2
        | cons d z =>
          simp only [lexO] at h1 h2 ⊢
          by_cases e1 : c a b = 0
          · rw [if_pos e1] at h1
            obtain rfl := (h.zero a b).1 e1
            by_cases e2 : c a d = 0
            · rw [if_pos e2] at h2 ⊢; exact ih y z h1 h2
            · rw [if_neg e2] at h2 ⊢; exact h2
          · rw [if_neg e1] at h1
            by_cases e2 : c b d = 0
            · obtain rfl := (h.zero b d).1 e2
              rw [if_neg e1]; exact h1
            · rw [if_neg e2] at h2
              have := h.trans a b d h1 h2
              rw [if_neg (by omega)]; exact this
theorem lex_prefix {α : Type} {c : α → α → Int} (h : Cmp c) : ∀ (p x y : List α), lexO c (p ++ x) (p ++ y) = lexO c x y
  | [], x, y => rfl
  | a :: p, x, y => by simp only [List.cons_append, lexO, h.self, if_pos]; exact lex_prefix h p x y
theorem lex_longer {α : Type} {c : α → α → Int} (h : Cmp c) (p x : List α) (hx : x ≠ []) : lexO c p (p ++ x) = -1 := by
  have := lex_prefix h p [] x
  rw [List.append_nil] at this
  rw [this]
  cases x with
  | nil => exact absurd rfl hx
  | cons a x => rfl
def ncmp (a b : Nat) : Int := if a < b then -1 else if b < a then 1 else 0
theorem ncmp_cmp : Cmp ncmp where
  sgn := by intro x y; unfold ncmp; split; · simp
            split <;> simp
  zero := by intro x y; unfold ncmp; split; · constructor <;> intro h <;> omega
             split <;> constructor <;> intro h <;> omega
  anti := by intro x y; unfold ncmp; split <;> split <;> first | omega | (split <;> omega)
  trans := by
    intro x y z; unfold ncmp; intro h1 h2
    split at h1
    · split at h2
      · rw [if_pos (by omega)]
      · split at h2 <;> cases h2
    · split at h1 <;> cases h1
def cmpL : List Nat → List Nat → Int := lexO ncmp
theorem cmpL_cmp : Cmp cmpL := lex_cmp ncmp_cmp
/-- pieces, between dots -/
def pcs : List Nat → List (List Nat)
  | [] => [[]]
  | c :: r => if c = 46 then [] :: pcs r else match pcs r with
    | [] => [[c]]
    | p :: ps => (c :: p) :: ps
theorem pcs_ne (l : List Nat) : ∃ p ps, pcs l = p :: ps := by
  cases l with
  | nil => exact ⟨_, _, rfl⟩
  | cons c r =>
    unfold pcs
    split
    · exact ⟨_, _, rfl⟩
    · split <;> exact ⟨_, _, rfl⟩
theorem pcs_cons {c : Nat} {r p : List Nat} {ps : List (List Nat)} (h : pcs r = p :: ps) : pcs (c :: r) = if c = 46 then [] :: p :: ps else (c :: p) :: ps := by
  rw [pcs, h]
theorem pcs_dot : ∀ (x r : List Nat), (∀ c ∈ x, c ≠ 46) → pcs (x ++ 46 :: r) = x :: pcs r
  | [], r, _ => by simp [pcs]
  | c :: x, r, h => by
    have ih := pcs_dot x r fun d hd => h d (List.mem_cons_of_mem _ hd)
    rw [List.cons_append, pcs_cons ih, if_neg (h c (List.mem_cons_self ..))]
theorem pcs_whole : ∀ (x : List Nat), (∀ c ∈ x, c ≠ 46) → pcs x = [x]
  | [], _ => rfl
  | c :: x, h => by
    have ih := pcs_whole x fun d hd => h d (List.mem_cons_of_mem _ hd)
    rw [pcs_cons ih, if_neg (h c (List.mem_cons_self ..))]
theorem pcs_cat : ∀ l r : List Nat, pcs (l ++ 46 :: r) = pcs l ++ pcs r
  | [], r => by simp [pcs]
  | c :: l, r => by
    obtain ⟨p, ps, hp⟩ := pcs_ne l
    have ih := pcs_cat l r
    rw [hp, List.cons_append] at ih
    rw [List.cons_append, pcs_cons ih, pcs_cons hp]
    split <;> simp
theorem pcs_len (l : List Nat) : (pcs l).length = l.count 46 + 1 := by
  induction l with
  | nil => rfl
  | cons c r ih =>
    obtain ⟨p, ps, hp⟩ := pcs_ne r
    rw [pcs_cons hp]
    rw [hp] at ih
    by_cases hc : c = 46
    · subst hc; simp at ih ⊢; omega
    · rw [if_neg hc, List.count_cons_of_ne (fun e => hc e)]; simpa using ih
def glue : List (List Nat) → List Nat
  | [] => []
  | [x] => x
  | x :: y :: r => x ++ 46 :: glue (y :: r)
theorem glue_pcs (l : List Nat) : glue (pcs l) = l := by
  induction l with
  | nil => rfl
  | cons c r ih =>
    obtain ⟨p, ps, hp⟩ := pcs_ne r
    rw [pcs_cons hp]
    rw [hp] at ih
    split
    · rename_i hc; subst hc; simp [glue, ih]
    · cases ps with
      | nil => simpa [glue] using ih
      | cons q qs => simpa [glue] using ih
/-- digits alone -/
def digs (x : List Nat) : Bool := decide (x ≠ []) && x.all fun c => decide (48 ≤ c ∧ c ≤ 57)
def trim (x : List Nat) : List Nat := x.dropWhile (· == 48)
def key (x : List Nat) : List Nat := if digs x then [0, (trim x).length] ++ trim x ++ x else 1 :: x
theorem key_inj {x y : List Nat} (h : key x = key y) : x = y := by
  unfold key at h
  split at h <;> split at h
  · simp only [List.cons_append, List.nil_append, List.cons.injEq, true_and] at h
    exact (List.append_inj h.2 h.1).2
  · simp at h
  · simp at h
  · simpa using h
def pieceC (x y : List Nat) : Int := cmpL (key x) (key y)
theorem pieceC_cmp : Cmp pieceC where
  sgn x y := cmpL_cmp.sgn _ _
  zero x y := (cmpL_cmp.zero _ _).trans ⟨key_inj, fun e => e ▸ rfl⟩
  anti x y := cmpL_cmp.anti _ _
  trans x y z := cmpL_cmp.trans _ _ _
def orderC (a b : List Nat) : Int := lexO pieceC (pcs a) (pcs b)
theorem orderC_cmp : Cmp orderC where
  sgn x y := (lex_cmp pieceC_cmp).sgn _ _
  zero x y := ((lex_cmp pieceC_cmp).zero _ _).trans ⟨fun h => by rw [← glue_pcs x, ← glue_pcs y, h], fun e => e ▸ rfl⟩
  anti x y := (lex_cmp pieceC_cmp).anti _ _
  trans x y z := (lex_cmp pieceC_cmp).trans _ _ _
end Go.Man
