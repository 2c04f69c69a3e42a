import Derived.Test.YtcfegbpoailbdaaDoorShaSpec

namespace Go.Sha
open Go.Vc
/-- the bytes of a text -/
def lst (s : ByteArray) : List Nat := s.data.toList.map UInt8.toNat
theorem lst_len (s : ByteArray) : (lst s).length = s.size := by simp [lst]
theorem lst_lt (s : ByteArray) : ∀ x ∈ lst s, x < 256 := by
  intro x hx
  obtain ⟨b, _, rfl⟩ := List.mem_map.1 hx
  exact b.toNat_lt
theorem bt_lst (s : ByteArray) (i : Nat) : bt s (i : Int) = ((lst s).getD i 0 : Nat) := by
  simp only [bt, Int.toNat_natCast, lst, List.getD_eq_getElem?_getD, List.getElem?_map, Array.getElem?_toList, Array.getD_eq_getD_getElem?]
  cases s.data[i]? <;> rfl
theorem str_lst (s : ByteArray) : str (lst s) = s := by
  unfold str lst
  rw [List.map_map]
  have : (UInt8.ofNat ∘ UInt8.toNat) = id := by funext b; simp
  rw [this, List.map_id]
theorem lst_str (l : List Nat) (hl : ∀ x ∈ l, x < 256) : lst (str l) = l := by
  unfold str lst
  simp only [List.map_map]
  conv => rhs; rw [← List.map_id l]
  apply List.map_congr_left
  intro x hx
  simp [Nat.mod_eq_of_lt (hl x hx)]
theorem lst_append (s t : ByteArray) : lst (s ++ t) = lst s ++ lst t := by
  simp [lst, ByteArray.data_append]
theorem lst_extract (s : ByteArray) (n : Nat) : lst (s.extract 0 n) = (lst s).take n := by
  simp [lst, ByteArray.data_extract, List.map_take]

/-- what a sign stands for -/
def val (c : Nat) : Option Nat := if 48 ≤ c ∧ c ≤ 57 then some (c - 48) else if 97 ≤ c ∧ c ≤ 102 then some (c - 87) else none
def vd (l : List Nat) (j : Nat) : Nat := (val (l.getD j 0)).getD 0
theorem val_lt {c n : Nat} (h : val c = some n) : n < 16 := by
  unfold val at h; split at h
  · injection h; omega
  · split at h
    · injection h; omega
    · cases h
theorem vd_lt (l : List Nat) (j : Nat) : vd l j < 16 := by
  unfold vd
  cases h : val (l.getD j 0) with
  | none => decide
  | some n => exact val_lt h
theorem val_sg : ∀ n < 16, val (sg n) = some n := by decide
theorem sg_val {c n : Nat} (h : val c = some n) : sg n = c := by
  have : ∀ c : Fin 256, ∀ n, val c.1 = some n → sg n = c.1 := by
    intro c n h
    have hn := val_lt h
    have : ∀ c : Fin 256, ∀ n : Fin 16, val c.1 = some n.1 → sg n.1 = c.1 := by decide +kernel
    exact this c ⟨n, hn⟩ h
  have hc : c < 256 := by
    unfold val at h; split at h
    · omega
    · split at h
      · omega
      · cases h
  exact this ⟨c, hc⟩ n h
/-- the digest behind the first k signs -/
def rd (l : List Nat) (k : Nat) : List Nat := (List.range 32).map fun i => if 2 * i + 1 < k then vd l (2 * i) * 16 + vd l (2 * i + 1) else if 2 * i < k then vd l (2 * i) else 0
theorem rd_len (l : List Nat) (k : Nat) : (rd l k).length = 32 := by simp [rd]
theorem rd_get (l : List Nat) (k i : Nat) (hi : i < 32) : (rd l k).getD i 0 = if 2 * i + 1 < k then vd l (2 * i) * 16 + vd l (2 * i + 1) else if 2 * i < k then vd l (2 * i) else 0 := by
  simp [rd, List.getD_eq_getElem?_getD, hi]
theorem rd_zero (l : List Nat) : rd l 0 = List.replicate 32 0 := by
  unfold rd; simp only [Nat.not_lt_zero, if_false]; rfl
theorem rd_lt (l : List Nat) (k : Nat) : ∀ x ∈ rd l k, x < 256 := by
  intro x hx
  simp only [rd, List.mem_map] at hx
  obtain ⟨i, _, rfl⟩ := hx
  have := vd_lt l (2 * i); have := vd_lt l (2 * i + 1)
  split
  · omega
  · split <;> omega
/-- one sign more -/
theorem rd_set (l : List Nat) (k : Nat) (hk : k < 64) : (rd l k).getD (k / 2) 0 < 16 ∧ (rd l k).set (k / 2) ((rd l k).getD (k / 2) 0 * 16 + vd l k) = rd l (k + 1) := by
  have hv := vd_lt l
  have hg := rd_get l k (k / 2) (by omega)
  constructor
  · rw [hg]
    split
    · omega
    · split
      · exact hv _
      · decide
  · apply List.ext_getElem (by simp [rd])
    intro i h1 h2
    rw [List.getElem_set]
    have hi : i < 32 := by simpa [rd] using h2
    split
    · rename_i h
      subst h
      rw [hg]
      simp only [rd, List.getElem_map, List.getElem_range]
      by_cases he : k % 2 = 0
      · rw [if_neg (by omega), if_neg (by omega), if_neg (by omega), if_pos (by omega), show 2 * (k / 2) = k by omega]; omega
      · rw [if_neg (by omega), if_pos (by omega), if_pos (by omega), show 2 * (k / 2) + 1 = k by omega]
    · rename_i h
      simp only [rd, List.getElem_map, List.getElem_range]
      by_cases h3 : 2 * i + 1 < k
      · rw [if_pos h3, if_pos (by omega)]
      · rw [if_neg h3, if_neg (show ¬ 2 * i < k by omega), if_neg (show ¬ 2 * i + 1 < k + 1 by omega), if_neg (show ¬ 2 * i < k + 1 by omega)]
def good (l : List Nat) : Bool := decide (l.length = 64) && (List.range 64).all fun j => (val (l.getD j 0)).isSome
def read (l : List Nat) : List Nat × Nat := if good l then (rd l 64, 0) else (List.replicate 32 0, 5)
theorem read_len (l : List Nat) : (read l).1.length = 32 := by
  unfold read; split
  · exact rd_len _ _
  · rfl
theorem read_lt (l : List Nat) : ∀ x ∈ (read l).1, x < 256 := by
  unfold read; split
  · exact rd_lt _ _
  · decide
theorem read_short {l : List Nat} (h : l.length ≠ 64) : read l = (List.replicate 32 0, 5) := by
  unfold read good; simp [h]
theorem read_bad {l : List Nat} {j : Nat} (hj : j < 64) (h : val (l.getD j 0) = none) : read l = (List.replicate 32 0, 5) := by
  have : good l = false := by
    unfold good
    rw [Bool.and_eq_false_iff]
    right
    rw [List.all_eq_false]
    exact ⟨j, by simpa using hj, by rw [h]; simp⟩
  unfold read; rw [this]; simp
theorem read_good {l : List Nat} (hl : l.length = 64) (h : ∀ j < 64, (val (l.getD j 0)).isSome = true) : read l = (rd l 64, 0) := by
  have : good l = true := by
    unfold good
    simp only [hl, decide_true, Bool.true_and, List.all_eq_true]
    intro j hj
    exact h j (by simpa using hj)
  unfold read; rw [this]; simp

/-- the i-th half byte -/
def nib (D : List Nat) (i : Nat) : Nat := if i % 2 = 0 then D.getD (i / 2) 0 / 16 else D.getD (i / 2) 0 % 16
theorem hex_get : ∀ (D : List Nat) (i : Nat), i < 2 * D.length → (hex D).getD i 0 = sg (nib D i)
  | [], i, h => by simp at h
  | x :: D, 0, h => rfl
  | x :: D, 1, h => rfl
  | x :: D, i + 2, h => by
    have ih := hex_get D i (by simp at h; omega)
    have e : nib (x :: D) (i + 2) = nib D i := by
      unfold nib
      rw [show (i + 2) % 2 = i % 2 by omega, show (i + 2) / 2 = i / 2 + 1 by omega]
      rfl
    rw [e, ← ih]; rfl
theorem nib_lt (D : List Nat) (hD : ∀ x ∈ D, x < 256) (i : Nat) : nib D i < 16 := by
  have : D.getD (i / 2) 0 < 256 := by
    rw [List.getD_eq_getElem?_getD]
    cases h : D[i / 2]? with
    | none => decide
    | some x => exact hD x (List.mem_of_getElem? h)
  unfold nib; split <;> omega
theorem getD_ext {l m : List Nat} (hl : l.length = m.length) (h : ∀ i < l.length, l.getD i 0 = m.getD i 0) : l = m := by
  apply List.ext_getElem hl
  intro i h1 h2
  have := h i h1
  rwa [List.getD_eq_getElem?_getD, List.getD_eq_getElem?_getD, List.getElem?_eq_getElem h1, List.getElem?_eq_getElem h2] at this
theorem read_hex (D : List Nat) (hl : D.length = 32) (hD : ∀ x ∈ D, x < 256) : read (hex D) = (D, 0) := by
  have hv : ∀ j < 64, val ((hex D).getD j 0) = some (nib D j) := fun j hj => by
    rw [hex_get D j (by omega), val_sg _ (nib_lt D hD j)]
  rw [read_good (by rw [hex_len, hl]) (fun j hj => by rw [hv j hj]; rfl)]
  congr 1
  apply getD_ext (by rw [rd_len, hl])
  intro i hi
  rw [rd_len] at hi
  rw [rd_get _ _ _ hi, if_pos (by omega)]
  unfold vd
  rw [hv _ (by omega), hv _ (by omega)]
  show nib D (2 * i) * 16 + nib D (2 * i + 1) = _
  unfold nib
  rw [if_pos (by omega), if_neg (by omega), show 2 * i / 2 = i by omega, show (2 * i + 1) / 2 = i by omega]
  omega
theorem hex_read (l : List Nat) (h0 : (read l).2 = 0) : hex (read l).1 = l := by
  by_cases hg : good l = true
  · have hr : read l = (rd l 64, 0) := by unfold read; rw [hg]; simp
    unfold good at hg
    simp only [Bool.and_eq_true, decide_eq_true_eq, List.all_eq_true] at hg
    obtain ⟨hl, ha⟩ := hg
    rw [hr]
    apply getD_ext (by rw [hex_len, rd_len, hl])
    intro i hi
    rw [hex_len, rd_len] at hi
    rw [hex_get _ _ (by rw [rd_len]; exact hi)]
    have hs := ha i (by simpa using hi)
    obtain ⟨n, hn⟩ := Option.isSome_iff_exists.1 hs
    have e : nib (rd l 64) i = n := by
      have hv : vd l i = n := by unfold vd; rw [hn]; rfl
      have v1 := vd_lt l i; have v2 := vd_lt l (i + 1)
      unfold nib
      rw [rd_get _ _ _ (by omega), if_pos (show 2 * (i / 2) + 1 < 64 by omega), ← hv]
      by_cases h : i % 2 = 0
      · rw [if_pos h, show 2 * (i / 2) = i by omega]; omega
      · rw [if_neg h, show 2 * (i / 2) + 1 = i by omega]; omega
    rw [e]; exact sg_val hn
  · have : read l = (List.replicate 32 0, 5) := by unfold read; simp [hg]
    rw [this] at h0; cases h0
theorem read_two (l : List Nat) : (read l).2 = 0 ∨ read l = (List.replicate 32 0, 5) := by
  unfold read; split
  · exact .inl rfl
  · exact .inr rfl

/-- the number that the first i half bytes make -/
def nv (D : List Nat) : Nat → Nat
  | 0 => 0
  | i + 1 => nv D i * 16 + nib D i
theorem nv_two (D : List Nat) (i : Nat) : nv D (2 * i) = topv D i := by
  induction i with
  | zero => rfl
  | succ i ih =>
    rw [show 2 * (i + 1) = 2 * i + 1 + 1 by omega, nv, nv, ih, topv]
    unfold nib
    rw [if_pos (by omega), if_neg (by omega), show 2 * i / 2 = i by omega, show (2 * i + 1) / 2 = i by omega]
    omega
theorem nv_lt (D : List Nat) (hD : ∀ x ∈ D, x < 256) (i : Nat) : nv D i < 16 ^ i := by
  induction i with
  | zero => exact (by decide : 0 < 1)
  | succ i ih => have := nib_lt D hD i; rw [nv, Nat.pow_succ]; omega
end Go.Sha
