import Derived.Test.YtcfegbpoailbdaaDoorShaText

namespace Go.Trail
open Go.Vc Go.Sha

theorem lst_inj {s t : ByteArray} (h : lst s = lst t) : s = t := by rw [← str_lst s, ← str_lst t, h]
theorem toList_lst (s : ByteArray) : lst s = s.toList.map UInt8.toNat := by
  rw [ByteArray.toList_eq]; rfl
theorem u8map_inj {x y : List UInt8} (h : x.map UInt8.toNat = y.map UInt8.toNat) : x = y := by
  have := congrArg (List.map UInt8.ofNat) h
  rw [List.map_map, List.map_map, show (UInt8.ofNat ∘ UInt8.toNat) = id from by funext b; simp, List.map_id, List.map_id] at this
  exact this
theorem seq_lst (s t : ByteArray) : seq s t = decide (lst s = lst t) := by
  unfold seq
  rw [toList_lst, toList_lst, Bool.eq_iff_iff]
  simp only [beq_iff_eq, decide_eq_true_eq]
  exact ⟨fun h => by rw [h], u8map_inj⟩
/-- the order of bytes -/
def ltB : List Nat → List Nat → Bool
  | [], [] => false
  | [], _ :: _ => true
  | _ :: _, [] => false
  | a :: x, b :: y => if a = b then ltB x y else decide (a < b)
theorem less_u8 : ∀ x y : List UInt8, Op.bytesLess x y = ltB (x.map UInt8.toNat) (y.map UInt8.toNat)
  | [], [] => rfl
  | [], _ :: _ => rfl
  | _ :: _, [] => rfl
  | a :: x, b :: y => by
    have ih := less_u8 x y
    simp only [List.map_cons, ltB, Op.bytesLess, ih]
    by_cases h : a = b
    · subst h; simp
    · have h2 : a.toNat ≠ b.toNat := fun e => h (UInt8.toNat_inj.1 e)
      rw [if_neg h2]
      simp [UInt8.lt_iff_toNat_lt, h]
theorem slt_lst (s t : ByteArray) : slt s t = ltB (lst s) (lst t) := by
  unfold slt; rw [less_u8, toList_lst, toList_lst]
theorem lst_cut (s : ByteArray) (i j : Nat) : lst (s.extract i j) = ((lst s).drop i).take (j - i) := by
  simp only [lst, ByteArray.data_extract, Array.toList_extract, List.map_take, List.map_drop]

/-- the pieces between the slashes -/
def pieces : List Nat → List (List Nat)
  | [] => [[]]
  | c :: r => if c = 47 then [] :: pieces r else match pieces r with
    | [] => [[c]]
    | p :: ps => (c :: p) :: ps
theorem pieces_ne (l : List Nat) : ∃ p ps, pieces l = p :: ps := by
  cases l with
  | nil => exact ⟨_, _, rfl⟩
  | cons c r =>
    unfold pieces
    split
    · exact ⟨_, _, rfl⟩
    · split <;> exact ⟨_, _, rfl⟩
/-- Less, sign by sign -/
def lexK : List Nat → List Nat → Bool
  | [], [] => false
  | [], _ :: _ => true
  | _ :: _, [] => false
  | a :: p, b :: q => if a = b then lexK p q else if a = 47 then true else if b = 47 then false else decide (a < b)
/-- Less, piece by piece -/
def lexP : List (List Nat) → List (List Nat) → Bool
  | [], [] => false
  | [], _ :: _ => true
  | _ :: _, [] => false
  | x :: xs, y :: ys => if x = y then lexP xs ys else ltB x y
theorem lex_eq : ∀ p q : List Nat, lexP (pieces p) (pieces q) = lexK p q
  | [], [] => rfl
  | [], b :: q => by
    obtain ⟨y, ys, hy⟩ := pieces_ne q
    by_cases h : b = 47
    · simp [pieces, h, hy, lexP, lexK]
    · simp [pieces, h, hy, lexP, lexK, ltB]
  | a :: p, [] => by
    obtain ⟨x, xs, hx⟩ := pieces_ne p
    by_cases h : a = 47
    · simp [pieces, h, hx, lexP, lexK]
    · simp [pieces, h, hx, lexP, lexK, ltB]
  | a :: p, b :: q => by
    have ih := lex_eq p q
    obtain ⟨x, xs, hx⟩ := pieces_ne p
    obtain ⟨y, ys, hy⟩ := pieces_ne q
    rw [hx, hy] at ih
    by_cases hab : a = b
    · subst hab
      by_cases h : a = 47
      · simp [pieces, h, hx, hy, lexK, ← ih, lexP]
      · simp only [pieces, h, hx, hy, lexK, lexP, ← ih, ltB, if_false, if_true, List.cons.injEq, true_and]
    · by_cases h : a = 47
      · have hb : b ≠ 47 := fun e => hab (h.trans e.symm)
        simp [pieces, h, hb, hx, hy, lexK, lexP, ltB, Ne.symm hb]
      · by_cases hb : b = 47
        · simp [pieces, h, hb, hx, hy, lexK, lexP, ltB]
        · simp [pieces, h, hb, hx, hy, lexK, lexP, ltB, hab]

/-! ### the order's laws -/
theorem lexK_irr : ∀ p, lexK p p = false
  | [] => rfl
  | a :: p => by simp [lexK, lexK_irr p]
theorem lexK_total : ∀ p q, p ≠ q → lexK p q ≠ lexK q p
  | [], [], h => absurd rfl h
  | [], b :: q, _ => by simp [lexK]
  | a :: p, [], _ => by simp [lexK]
  | a :: p, b :: q, h => by
    by_cases hab : a = b
    · subst hab
      have := lexK_total p q (fun e => h (by rw [e]))
      simp [lexK, this]
    · have hba : ¬ b = a := fun e => hab e.symm
      by_cases h1 : a = 47
      · have hb : ¬ b = 47 := fun e => hab (h1.trans e.symm)
        simp [lexK, h1, hb, Ne.symm hb]
      · by_cases h2 : b = 47
        · have : ¬ (47 : Nat) = a := fun e => h1 e.symm
          simp [lexK, h1, h2, this]
        · simp [lexK, hab, hba, h1, h2]
          by_cases h3 : a < b
          · have : ¬ b < a := by omega
            simp [h3, this]
          · have : b < a := by omega
            simp [h3, this]
theorem lexK_trans : ∀ p q r, lexK p q = true → lexK q r = true → lexK p r = true
  | [], [], _, h, _ => by simp [lexK] at h
  | [], _ :: _, [], _, h => by simp [lexK] at h
  | [], _ :: _, _ :: _, _, _ => rfl
  | _ :: _, [], _, h, _ => by simp [lexK] at h
  | _ :: _, _ :: _, [], _, h => by simp [lexK] at h
  | a :: p, b :: q, c :: r, h1, h2 => by
    unfold lexK at *
    have ih := lexK_trans p q r
    split at h1
    · rename_i e; subst e
      split at h2
      · rename_i e; subst e; rw [if_pos rfl]; exact ih h1 h2
      · rename_i e; rw [if_neg e]; exact h2
    · rename_i e
      split at h2
      · rename_i e2; subst e2; rw [if_neg e]; exact h1
      · rename_i e2
        split at h1
        · rename_i ea
          split at h2
          · rename_i eb; exact absurd (ea.trans eb.symm) e
          · split at h2
            · cases h2
            · rename_i ec
              rw [if_neg (show ¬ a = c by omega), if_pos ea]
        · rename_i ea
          split at h1
          · cases h1
          · rename_i eb
            have l1 := of_decide_eq_true h1
            rw [if_neg eb] at h2
            split at h2
            · cases h2
            · rename_i ec
              have l2 := of_decide_eq_true h2
              rw [if_neg (by omega), if_neg ea, if_neg ec]
              exact decide_eq_true (by omega)
end Go.Trail
