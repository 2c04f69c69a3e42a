import Derived.Test.YtcfegbpoailbdaaDoorTrailSpec
import Derived.Lib.Split
import Derived.Lib.SplitLaws
import Derived.Lib.Join

namespace Go.Trail
open Go.Vc Go.Sha

theorem index_eq (c : UInt8) (l : List UInt8) : Lib.index (c :: l) [c] = 0 := by
  unfold Lib.index; rw [if_pos (by simp [List.isPrefixOf])]
theorem index_ne (b c : UInt8) (l : List UInt8) (h : b ≠ c) : Lib.index (b :: l) [c] = if Lib.index l [c] == -1 then -1 else Lib.index l [c] + 1 := by
  conv => lhs; unfold Lib.index
  rw [if_neg]
  simp [List.isPrefixOf]; exact fun e => h e.symm

/-- Split, at a slash -/
theorem split_pieces (l : List UInt8) : (Lib.splitK [47] 0 (Lib.count l [47]) l).map (List.map UInt8.toNat) = pieces (l.map UInt8.toNat) := by
  induction l with
  | nil => rfl
  | cons b l ih =>
    by_cases hb : b = 47
    · subst hb
      rw [Lib.count_cons_eq, Nat.add_comm]
      unfold Lib.splitK
      rw [index_eq]
      rw [if_neg (by decide)]
      simp only [Int.toNat_zero, Nat.add_zero, List.take_zero, List.map_cons, List.map_nil, List.length_cons, List.length_nil, Nat.zero_add, List.drop_succ_cons, List.drop_zero]
      rw [ih]
      have e : (47 : UInt8).toNat = 47 := rfl
      rw [e]
      conv => rhs; unfold pieces
      rw [if_pos rfl]
    · rw [Lib.count_cons_ne b 47 l hb]
      have hn : b.toNat ≠ 47 := fun e => hb (UInt8.toNat_inj.1 (by rw [e]; rfl))
      have e2 : pieces ((b :: l).map UInt8.toNat) = match pieces (l.map UInt8.toNat) with
        | [] => [[b.toNat]]
        | p :: ps => (b.toNat :: p) :: ps := by
        rw [List.map_cons]
        conv => lhs; unfold pieces
        rw [if_neg hn]
        cases pieces (List.map UInt8.toNat l) <;> rfl
      rw [e2, ← ih]
      cases hk : Lib.count l [47] with
      | zero => rfl
      | succ k =>
        have hi : ¬ (Lib.index l [47] == -1) = true := by
          intro h
          have := Lib.count_miss (s := l) (sub := [47]) (by simpa using h)
          omega
        have hge := Lib.index_ge l [47]
        have hne : Lib.index l [47] ≠ -1 := by simpa using hi
        obtain ⟨i, hi2⟩ : ∃ i : Nat, Lib.index l [47] = i := ⟨(Lib.index l [47]).toNat, by omega⟩
        unfold Lib.splitK
        rw [index_ne b 47 l hb, if_neg hi, if_neg hi, if_neg (by rw [hi2]; simp; omega), hi2]
        have e3 : ((i : Int) + 1).toNat = i + 1 := by omega
        simp only [e3, Int.toNat_natCast, Nat.add_zero, List.take_succ_cons, List.map_cons, List.length_cons, List.length_nil, Nat.zero_add, List.drop_succ_cons]

/-- pieces joined by slashes -/
def joinT : List (List Nat) → List Nat
  | [] => []
  | [x] => x
  | x :: y :: r => x ++ 47 :: joinT (y :: r)
theorem join_pieces (l : List Nat) : joinT (pieces l) = l := by
  induction l with
  | nil => rfl
  | cons c r ih =>
    obtain ⟨p, ps, hp⟩ := pieces_ne r
    rw [hp] at ih
    unfold pieces
    rw [hp]
    split
    · rename_i h; subst h
      show [] ++ 47 :: joinT (p :: ps) = _
      rw [ih]; rfl
    · cases ps with
      | nil => show c :: p = c :: r; rw [← ih]; rfl
      | cons q qs =>
        show (c :: p) ++ 47 :: joinT (q :: qs) = c :: r
        rw [← ih]; rfl
theorem lib_join (xs : List (List UInt8)) : (Lib.join xs [47]).map UInt8.toNat = joinT (xs.map (List.map UInt8.toNat)) := by
  induction xs with
  | nil => rfl
  | cons x r ih =>
    cases r with
    | nil => rw [Lib.join_one]; rfl
    | cons y r =>
      show _ = x.map UInt8.toNat ++ 47 :: joinT ((y :: r).map (List.map UInt8.toNat))
      rw [← ih]
      simp [Lib.join, List.intercalate, List.intersperse]
end Go.Trail
