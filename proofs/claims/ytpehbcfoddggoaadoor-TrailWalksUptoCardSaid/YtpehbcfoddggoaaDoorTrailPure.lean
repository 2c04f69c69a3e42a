import Derived.Test.YtpehbcfoddggoaaDoorTrailI

namespace Go.Proofs.YtpehbcfoddggoaaDoor
open Go.Vc Go.Sha Go.Trail Go.RowKit
set_option linter.unusedVariables false

theorem pieces_cons (c : Nat) (r : List Nat) (p : List Nat) (ps : List (List Nat)) (h : pieces r = p :: ps) : pieces (c :: r) = if c = 47 then [] :: p :: ps else (c :: p) :: ps := by
  conv => lhs; unfold pieces
  rw [h]
theorem pieces_cat : ∀ l r : List Nat, pieces (l ++ 47 :: r) = pieces l ++ pieces r
  | [], r => by
    obtain ⟨p, ps, hp⟩ := pieces_ne r
    rw [List.nil_append, pieces_cons _ _ _ _ hp, if_pos rfl, hp]; rfl
  | c :: l, r => by
    have ih := pieces_cat l r
    obtain ⟨p, ps, hp⟩ := pieces_ne l
    rw [hp] at ih
    rw [List.cons_append, pieces_cons c _ _ _ ih, pieces_cons c l _ _ hp]
    split <;> rfl
theorem okP_slash {c : Nat} (h : okP c) : c ≠ 47 := by unfold okP at h; omega
theorem partP_slash {x : List Nat} (h : partP x) : ∀ c ∈ x, c ≠ 47 := fun c hc => okP_slash (h.2.2.2.2 c hc)
theorem pieces_join : ∀ acc : List (List Nat), acc ≠ [] → (∀ p ∈ acc, partP p) → pieces (joinT acc) = acc
  | [], h, _ => absurd rfl h
  | [x], _, h => pieces_whole x (partP_slash (h x (by simp)))
  | x :: y :: r, _, h => by
    show pieces (x ++ 47 :: joinT (y :: r)) = _
    rw [pieces_cat, pieces_whole x (partP_slash (h x (by simp))), pieces_join (y :: r) (by simp) fun p hp => h p (List.mem_cons_of_mem _ hp)]
    rfl
theorem joinT_ne {acc : List (List Nat)} (h0 : acc ≠ []) (h : ∀ p ∈ acc, partP p) : joinT acc ≠ [] := by
  intro e
  have := pieces_join acc h0 h
  rw [e] at this
  have h1 := h [] (by rw [← this]; simp [pieces])
  exact h1.1 rfl

theorem cl_cons (acc : List (List Nat)) (x : List Nat) (r : List (List Nat)) : cl acc (x :: r) = if x = [] ∨ x = [46] then cl acc r else if x = [46, 46] then (if acc = [] then none else cl acc.dropLast r) else if partP x then cl (acc ++ [x]) r else none := by
  conv => lhs; unfold cl
theorem cl_part (acc : List (List Nat)) (x : List Nat) (r : List (List Nat)) (h : partP x) : cl acc (x :: r) = cl (acc ++ [x]) r := by
  rw [cl_cons, if_neg (fun e => e.elim h.1 h.2.2.1), if_neg h.2.2.2.1, if_pos h]
theorem cl_parts : ∀ (ps acc : List (List Nat)), (∀ p ∈ ps, partP p) → cl acc ps = some (acc ++ ps)
  | [], acc, _ => by simp [cl]
  | x :: r, acc, h => by
    rw [cl_part acc x r (h x (by simp)), cl_parts r _ fun p hp => h p (List.mem_cons_of_mem _ hp)]
    simp
theorem cl_app : ∀ (xs ys acc : List (List Nat)), cl acc (xs ++ ys) = (cl acc xs).bind fun a => cl a ys
  | [], ys, acc => by simp [cl]
  | x :: r, ys, acc => by
    have ih := cl_app r ys
    rw [List.cons_append, cl_cons, cl_cons]
    split
    · exact ih acc
    · split
      · split
        · rfl
        · exact ih _
      · split
        · exact ih _
        · rfl
theorem cl_all : ∀ (xs acc r : List (List Nat)), cl acc xs = some r → (∀ p ∈ acc, partP p) → ∀ p ∈ r, partP p
  | [], acc, r, h, ha => by simp [cl] at h; subst h; exact ha
  | x :: xs, acc, r, h, ha => by
    rw [cl_cons] at h
    split at h
    · exact cl_all xs acc r h ha
    · split at h
      · split at h
        · cases h
        · exact cl_all xs _ r h fun p hp => ha p (List.dropLast_subset _ hp)
      · split at h
        · rename_i hx
          refine cl_all xs _ r h fun p hp => ?_
          rcases List.mem_append.1 hp with hp | hp
          · exact ha p hp
          · rw [List.mem_singleton] at hp; rw [hp]; exact hx
        · cases h

/-- a path -/
def good (l : List Nat) : Prop := l = [] ∨ ((∀ p ∈ pieces l, partP p) ∧ (pieces l).length ≤ 8)
instance (l : List Nat) : Decidable (good l) := by unfold good; infer_instance
theorem clean_of {l : List Nat} {acc : List (List Nat)} (h : cl [] (pieces l) = some acc) : clean l = if acc.length > 8 then ([], 3) else (joinT acc, 0) := by
  unfold clean; rw [h]
theorem clean_spec (l : List Nat) : clean l = ([], 12) ∨ clean l = ([], 3) ∨ ∃ acc, cl [] (pieces l) = some acc ∧ clean l = (joinT acc, 0) ∧ (∀ p ∈ acc, partP p) ∧ acc.length ≤ 8 := by
  cases h : cl [] (pieces l) with
  | none => exact .inl (by unfold clean; rw [h])
  | some acc =>
    have ha := cl_all _ _ _ h (by simp)
    by_cases h8 : acc.length > 8
    · exact .inr (.inl (by rw [clean_of h, if_pos h8]))
    · exact .inr (.inr ⟨acc, rfl, by rw [clean_of h, if_neg h8], ha, by omega⟩)
theorem clean_good {l : List Nat} (h : good l) : clean l = (l, 0) := by
  rcases h with rfl | ⟨h1, h2⟩
  · rfl
  · have := cl_parts (pieces l) [] h1
    rw [List.nil_append] at this
    rw [clean_of this, if_neg (by omega), join_pieces]
theorem good_of_parts {acc : List (List Nat)} (h : ∀ p ∈ acc, partP p) (h8 : acc.length ≤ 8) : good (joinT acc) := by
  by_cases h0 : acc = []
  · subst h0; exact .inl rfl
  · refine .inr ?_
    rw [pieces_join acc h0 h]; exact ⟨h, h8⟩
theorem good_iff (l : List Nat) : good l ↔ clean l = (l, 0) := by
  refine ⟨clean_good, fun h => ?_⟩
  rcases clean_spec l with e | e | ⟨acc, _, e, h1, h2⟩
  · rw [h] at e; cases e
  · rw [h] at e; cases e
  · rw [h] at e
    obtain ⟨rfl, _⟩ := Prod.mk.inj e
    exact good_of_parts h1 h2
theorem joinT_lt {acc : List (List Nat)} (h : ∀ p ∈ acc, partP p) : ∀ x ∈ joinT acc, x < 256 := by
  intro x hx
  induction acc with
  | nil => simp [joinT] at hx
  | cons p r ih =>
    have hp := part_lt (h p (by simp))
    have ih' := ih fun q hq => h q (List.mem_cons_of_mem _ hq)
    cases r with
    | nil => exact hp x hx
    | cons q r =>
      rcases List.mem_append.1 (show x ∈ p ++ 47 :: joinT (q :: r) from hx) with h | h
      · exact hp x h
      · rcases List.mem_cons.1 h with h | h
        · omega
        · exact ih' h
theorem clean_lt (l : List Nat) : ∀ x ∈ (clean l).1, x < 256 := by
  rcases clean_spec l with e | e | ⟨acc, _, e, h1, h2⟩
  · rw [e]; simp
  · rw [e]; simp
  · rw [e]; exact joinT_lt h1
theorem clean_len (l : List Nat) : (clean l).1.length ≤ 200 := by
  rcases clean_spec l with e | e | ⟨acc, _, e, h1, h2⟩
  · rw [e]; simp
  · rw [e]; simp
  · rw [e]
    have := joinT_len acc fun p hp => (h1 p hp).2.1
    show (joinT acc).length ≤ _
    omega
theorem clean_out {l : List Nat} (h : (clean l).2 = 0) : good (clean l).1 := by
  rcases clean_spec l with e | e | ⟨acc, _, e, h1, h2⟩
  · rw [e] at h; cases h
  · rw [e] at h; cases h
  · rw [e]; exact good_of_parts h1 h2
theorem clean_bad {l : List Nat} (h : (clean l).2 ≠ 0) : (clean l).1 = [] ∧ ((clean l).2 = 12 ∨ (clean l).2 = 3) := by
  rcases clean_spec l with e | e | ⟨acc, _, e, h1, h2⟩
  · rw [e]; simp
  · rw [e]; simp
  · rw [e] at h; exact absurd rfl h

/-- a path's parts -/
def partsL (l : List Nat) : List (List Nat) := if l = [] ∨ ¬ good l then [] else pieces l
/-- the path above -/
def upL (l : List Nat) : List Nat × Bool := if l = [] ∨ ¬ good l then ([], false) else (joinT (pieces l).dropLast, true)
theorem good_pieces {l : List Nat} (h : good l) (h0 : l ≠ []) : (∀ p ∈ pieces l, partP p) ∧ (pieces l).length ≤ 8 := h.resolve_left h0
theorem parts_all (l : List Nat) : (∀ p ∈ partsL l, partP p) ∧ (partsL l).length ≤ 8 := by
  unfold partsL
  split
  · simp
  · rename_i h
    have h0 : l ≠ [] := fun e => h (.inl e)
    have hg : good l := Decidable.byContradiction fun e => h (.inr e)
    exact good_pieces hg h0
theorem parts_good {l : List Nat} (h : good l) (h0 : l ≠ []) : partsL l = pieces l := by
  unfold partsL; rw [if_neg (fun e => e.elim h0 fun e => e h)]

/-- the last slash -/
theorem take_last (l : List Nat) (i : Nat) (hi : i < l.length) (hc : l.getD i 0 = 47) (hno : ∀ c ∈ l.drop (i + 1), c ≠ 47) : joinT (pieces l).dropLast = l.take i := by
  have e : l = l.take i ++ 47 :: l.drop (i + 1) := by
    conv => lhs; rw [← List.take_append_drop i l]
    congr 1
    rw [List.drop_eq_getElem_cons hi]
    congr 1
    rw [List.getD_eq_getElem?_getD, List.getElem?_eq_getElem hi] at hc
    exact hc
  have h2 : pieces l = pieces (l.take i) ++ [l.drop (i + 1)] := by
    conv => lhs; rw [e]
    rw [pieces_cat, pieces_whole _ hno]
  rw [h2, List.dropLast_concat, join_pieces]
theorem no_last (l : List Nat) (hno : ∀ c ∈ l, c ≠ 47) : joinT (pieces l).dropLast = [] := by
  rw [pieces_whole l hno]; rfl

/-! ### the order, and what lies below -/
theorem lexK_prefix : ∀ (u x : List Nat) (c : Nat), lexK u (u ++ c :: x) = true
  | [], x, c => rfl
  | a :: u, x, c => by
    rw [List.cons_append]
    unfold lexK
    rw [if_pos rfl]
    exact lexK_prefix u x c
theorem near : ∀ p q t : List Nat, lexK q p = false → lexK q (p ++ 47 :: t) = true → q = p ∨ q.take (p.length + 1) = p ++ [47]
  | [], [], _, _, _ => .inl rfl
  | [], b :: q, t, h1, h2 => by
    refine .inr ?_
    rw [List.nil_append] at h2
    unfold lexK at h2
    by_cases hb : b = 47
    · subst hb; simp
    · rw [if_neg hb, if_neg hb, if_pos rfl] at h2; cases h2
  | a :: p, [], t, h1, _ => by simp [lexK] at h1
  | a :: p, b :: q, t, h1, h2 => by
    rw [List.cons_append] at h2
    unfold lexK at h1 h2
    by_cases hb : b = a
    · subst hb
      rw [if_pos rfl] at h1 h2
      rcases near p q t h1 h2 with h | h
      · exact .inl (by rw [h])
      · exact .inr (by simp [h])
    · rw [if_neg hb] at h1 h2
      rw [h1] at h2; cases h2
theorem inP_cases {p q : List Nat} (h : inP p q = true) : p = [] ∨ q = p ∨ ∃ t, q = p ++ 47 :: t := by
  unfold inP at h
  simp only [Bool.or_eq_true, decide_eq_true_eq] at h
  rcases h with (h | h) | h
  · exact .inl h
  · exact .inr (.inl h)
  · refine .inr (.inr ⟨q.drop (p.length + 1), ?_⟩)
    conv => lhs; rw [← List.take_append_drop (p.length + 1) q]
    rw [h]; simp
theorem inP_below (p t : List Nat) : inP p (p ++ 47 :: t) = true := by
  unfold inP
  simp only [Bool.or_eq_true, decide_eq_true_eq]
  refine .inr ?_
  rw [List.take_append, List.take_of_length_le (by omega), show p.length + 1 - p.length = 1 by omega]
  rfl
theorem inP_of {p q : List Nat} (h : q = p ∨ q.take (p.length + 1) = p ++ [47]) : inP p q = true := by
  unfold inP
  simp only [Bool.or_eq_true, decide_eq_true_eq]
  rcases h with h | h
  · exact .inl (.inr h)
  · exact .inr h
theorem between {p q r : List Nat} (h1 : inP p r = true) (h2 : lexK q p = false) (h3 : lexK q r = true) : inP p q = true := by
  rcases inP_cases h1 with h | h | ⟨t, h⟩
  · subst h; unfold inP; simp
  · subst h; rw [h2] at h3; cases h3
  · subst h; exact inP_of (near p q t h2 h3)
theorem below_less {p r : List Nat} (h1 : inP p r = true) (h2 : p ≠ r) : lexK p r = true := by
  rcases inP_cases h1 with h | h | ⟨t, h⟩
  · subst h
    cases r with
    | nil => exact absurd rfl h2
    | cons b q => rfl
  · exact absurd h.symm h2
  · subst h; exact lexK_prefix _ _ _

/-! ### a path and the one above it -/
theorem snoc_of {α : Type} {l : List α} (h : l ≠ []) : ∃ m x, l = m ++ [x] := ⟨l.dropLast, l.getLast h, (List.dropLast_concat_getLast h).symm⟩
theorem cl_self {acc : List (List Nat)} (h : ∀ p ∈ acc, partP p) : cl [] (pieces (joinT acc)) = some acc := by
  by_cases h0 : acc = []
  · subst h0; rfl
  · rw [pieces_join acc h0 h]; exact (cl_parts acc [] h).trans (by simp)
theorem clean_down {m : List (List Nat)} {x : List Nat} (h : ∀ p ∈ m ++ [x], partP p) (h8 : (m ++ [x]).length ≤ 8) : clean (joinT m ++ 47 :: x) = (joinT (m ++ [x]), 0) := by
  have hm : ∀ p ∈ m, partP p := fun p hp => h p (List.mem_append_left _ hp)
  have hx : partP x := h x (by simp)
  have : cl [] (pieces (joinT m ++ 47 :: x)) = some (m ++ [x]) := by
    rw [pieces_cat, cl_app, cl_self hm, pieces_whole x (partP_slash hx)]
    exact (cl_part m x [] hx).trans rfl
  rw [clean_of this, if_neg (by omega)]
theorem clean_up {m : List (List Nat)} {x : List Nat} (h : ∀ p ∈ m ++ [x], partP p) (h8 : (m ++ [x]).length ≤ 8) : clean (joinT (m ++ [x]) ++ 47 :: [46, 46]) = (joinT m, 0) := by
  have : cl [] (pieces (joinT (m ++ [x]) ++ 47 :: [46, 46])) = some m := by
    rw [pieces_cat, cl_app, cl_self h, show pieces [46, 46] = [[46, 46]] from rfl]
    show cl (m ++ [x]) [[46, 46]] = _
    rw [cl_cons, if_neg (by decide), if_pos rfl, if_neg (by simp), List.dropLast_concat]; rfl
  rw [clean_of this, if_neg (by rw [List.length_append] at h8; simp at h8; omega)]
theorem clean_slashes {l : List Nat} (h : good l) : clean (47 :: l ++ [47]) = (l, 0) := by
  have e : pieces (47 :: l ++ [47]) = [] :: (pieces l ++ [[]]) := by
    have h1 : pieces (l ++ [47]) = pieces l ++ [[]] := pieces_cat l []
    have h2 := pieces_cat [] (l ++ [47])
    rw [h1] at h2
    exact h2
  have hc : cl [] (pieces (47 :: l ++ [47])) = cl [] (pieces l) := by
    rw [e, cl_cons, if_pos (.inl rfl), cl_app]
    cases hl : cl [] (pieces l) with
    | none => rfl
    | some a => show cl a [[]] = _; rw [cl_cons, if_pos (.inl rfl)]; rfl
  have : clean (47 :: l ++ [47]) = clean l := by unfold clean; rw [hc]
  rw [this]; exact clean_good h
theorem joinT_up {m : List (List Nat)} {x : List Nat} (h0 : m ≠ []) : joinT (m ++ [x]) = joinT m ++ 47 :: x := by
  rw [joinT_snoc, if_neg h0]
end Go.Proofs.YtpehbcfoddggoaaDoor
