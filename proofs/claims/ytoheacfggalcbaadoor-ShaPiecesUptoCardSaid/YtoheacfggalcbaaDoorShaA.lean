/- Chapter 3: what rot and words compute. -/
import Derived.Test.YtoheacfggalcbaaDoorVpA
import Derived.Test.YtoheacfggalcbaaDoorShaSpec
namespace Go.Proofs.YtoheacfggalcbaaDoor
open Go.Vc Go.Sha
set_option linter.unusedVariables false

def u32 (n : Nat) : Value := .int .u32 n
def u8 (n : Nat) : Value := .int .u8 n
theorem getD_lt {l : List Nat} {b : Nat} (hl : ∀ x ∈ l, x < b) (hb : 0 < b) (i : Nat) : l.getD i 0 < b := by
  rw [List.getD_eq_getElem?_getD]
  cases h : l[i]? with
  | none => exact hb
  | some x => exact hl x (List.mem_of_getElem? h)
theorem get_map {l : List Nat} (f : Nat → Value) {i : Nat} (hi : i < l.length) : (l.map f)[i]? = some (f (l.getD i 0)) := by
  simp [List.getD_eq_getElem?_getD, hi]

theorem rot_ok (x n : Nat) (hx : x < 4294967296) (h1 : 1 ≤ n) (h2 : n ≤ 31) (h : Heap) : HEnt Tryd.prog 29 #[.int .u32 x, .int .u64 n] h fun v h' => v = u32 (rotr x n) ∧ h' = h := by
  refine F29_ent _ _ _ _ ?_
  have e : IntKind.u64.wrap (32 - (n : Int)) = ((32 - n : Nat) : Int) := by
    rw [u64_lt _ (by omega) (by omega)]; omega
  unfold F29
  rw [e]
  refine ⟨by omega, by omega, ?_, rfl⟩
  rw [shl32 _ _ (by omega), shr32 _ _ (by omega), or32 _ _ (Nat.lt_of_le_of_lt (Nat.shiftRight_le _ _) hx) (Nat.mod_lt _ (by decide))]
  rfl

theorem w1_len (bk : List Nat) (i : Nat) : (w1 bk i).length = 64 := by induction i <;> simp [w1, *]
theorem w2_len (bk : List Nat) (i : Nat) : (w2 bk i).length = 64 := by induction i <;> simp [w2, w1_len, *]
theorem word_lt (bk : List Nat) (hb : ∀ x ∈ bk, x < 256) (i : Nat) : word bk i < 4294967296 := by
  have g := fun j => getD_lt hb (by decide) j
  unfold word
  have s : ∀ a k : Nat, a < 256 → k ≤ 24 → a <<< k < 2 ^ 32 := fun a k h hk => by
    rw [Nat.shiftLeft_eq]
    calc a * 2 ^ k < 256 * 2 ^ k := Nat.mul_lt_mul_of_pos_right h (Nat.two_pow_pos k)
      _ ≤ 256 * 2 ^ 24 := Nat.mul_le_mul_left _ (Nat.pow_le_pow_right (by decide) hk)
      _ = 2 ^ 32 := by decide
  exact Nat.or_lt_two_pow (n := 32) (Nat.or_lt_two_pow (Nat.or_lt_two_pow (s _ 24 (g _) (by decide)) (s _ 16 (g _) (by decide))) (s _ 8 (g _) (by decide))) (Nat.lt_trans (g _) (by decide))
theorem set_lt {l : List Nat} {b : Nat} (hl : ∀ x ∈ l, x < b) (i v : Nat) (hv : v < b) : ∀ x ∈ l.set i v, x < b := by
  intro x hx
  rcases List.mem_or_eq_of_mem_set hx with h | h
  · exact hl x h
  · exact h ▸ hv
theorem w1_lt (bk : List Nat) (hb : ∀ x ∈ bk, x < 256) (i : Nat) : ∀ x ∈ w1 bk i, x < 4294967296 := by
  induction i with
  | zero => simp [w1]
  | succ i ih => exact set_lt ih _ _ (word_lt bk hb i)
theorem w2_lt (bk : List Nat) (hb : ∀ x ∈ bk, x < 256) (i : Nat) : ∀ x ∈ w2 bk i, x < 4294967296 := by
  induction i with
  | zero => exact w1_lt bk hb 16
  | succ i ih => exact set_lt ih _ _ (Nat.mod_lt _ (by decide))

/-- a row of numbers of 32 bits -/
def Row32 (h : Heap) (b : Nat) (t : TypeId) (l : List Nat) : Prop := h[b]? = some (.cells (l.map u32).toArray t (0, 0))
theorem Row32.cell {h : Heap} {b t : Nat} {l : List Nat} (r : Row32 h b t l) {i : Nat} (hi : i < l.length) : Vc.cell h ⟨b, i, none⟩ = some (u32 (l.getD i 0)) := by
  rw [cell_blk r]; simpa using get_map u32 hi
theorem Row32.set {h : Heap} {b t : Nat} {l : List Nat} (r : Row32 h b t l) {i : Nat} (hi : i < l.length) (v : Nat) {K : Heap → Prop} (hK : ∀ h', Row32 h' b t (l.set i v) → Only b h h' → K h') : storeK 1 h ⟨b, i, none⟩ (u32 v) K := by
  refine storeK_one r (by simpa using hi) (.inr (Nat.zero_le _)) rfl fun h' h1 h2 => hK h' ?_ h2
  unfold Row32
  rw [h1]
  simp [List.map_set]

theorem mul1 (n : Nat) : n * 1 = n := Nat.mul_one n
theorem i64n (n : Nat) (h : n < 9223372036854775808) : IntKind.i64.wrap (n : Int) = n := i64_lt _ (by omega) (by omega)

theorem words_ok (b o c : Nat) (bk : List Nat) (hl : bk.length = 64) (hb : ∀ x ∈ bk, x < 256) (h : Heap) (hc : CellsAt h ⟨b, o, none⟩ (bk.map u8)) :
    HEnt Tryd.prog 28 #[.slice (some ⟨b, o, none⟩) 64 c] h fun v h' => v = .agg ((words bk).map u32).toArray ∧ Ext h h' := by
  refine F28_ent _ _ _ _ _ ?_
  have hbs : b < h.size := by
    have := hc 0 (u8 (bk.getD 0 0)) (get_map u8 (by omega))
    exact lt_of_cell (a := (⟨b, o, none⟩ : Addr).add 0) this
  have cellAt : ∀ h', Ext h h' → ∀ i, i < 64 → Vc.cell h' ((⟨b, o, none⟩ : Addr).add i) = some (u8 (bk.getD i 0)) := fun h' hx i hi => hc.ext hx i _ (get_map u8 (by omega))
  unfold F28
  refine newK_intro fun h1 n1 x1 s1 => newK_intro fun h2 n2 x2 s2 => ?_
  have z : (zeroC Tryd.prog 59) = ((List.replicate 64 0).map u32).toArray := by kernel_rfl
  rw [z] at n1 n2
  refine ⟨fun i h' => ∃ k : Nat, i = k ∧ k ≤ 16 ∧ Row32 h' h1.size 59 (w1 bk k) ∧ Row32 h' h.size 59 (List.replicate 64 0) ∧ Ext h h', fun i _ => (16 - i).toNat, ⟨0, rfl, by omega, n2, x2.blk n1, x1.trans x2⟩, ?_⟩
  rintro h3 _ ⟨k, rfl, hk, hr, hz, hx⟩
  unfold F28_b1
  refine br_of (fun ht => ?_) (fun hf => ?_)
  · have hk16 : k < 16 := by have : (k : Int) < 16 := by simpa using ht
                             omega
    unfold F28_k2
    have e0 : IntKind.i64.wrap (4 * (k : Int)) = ((4 * k : Nat) : Int) := by rw [i64_lt _ (by omega) (by omega)]; omega
    have e1 : IntKind.i64.wrap (((4 * k : Nat) : Int) + 1) = ((4 * k + 1 : Nat) : Int) := by rw [i64_lt _ (by omega) (by omega)]; omega
    have e2 : IntKind.i64.wrap (((4 * k : Nat) : Int) + 2) = ((4 * k + 2 : Nat) : Int) := by rw [i64_lt _ (by omega) (by omega)]; omega
    have e3 : IntKind.i64.wrap (((4 * k : Nat) : Int) + 3) = ((4 * k + 3 : Nat) : Int) := by rw [i64_lt _ (by omega) (by omega)]; omega
    have e4 : IntKind.i64.wrap ((k : Int) + 1) = ((k + 1 : Nat) : Int) := by rw [i64_lt _ (by omega) (by omega)]; omega
    simp only [e0, e1, e2, e3, e4, Int.toNat_natCast, mul1, add_mk, at0_mk, Nat.zero_add]
    refine ⟨_, rfl, by omega, by omega, _, cellAt _ hx _ (by omega), by omega, _, rfl, by omega, by omega, _, cellAt _ hx _ (by omega), by omega, _, rfl, by omega, by omega, _, cellAt _ hx _ (by omega), by omega, _, rfl, by omega, by omega, _, cellAt _ hx _ (by omega), by omega, by omega, ?_⟩
    rintro h4 hcl
    obtain rfl := hcl.eq
    have g := fun j => getD_lt hb (by decide) j
    have g' : ∀ j, bk.getD j 0 < 4294967296 := fun j => Nat.lt_trans (g j) (by decide)
    have sh : ∀ (a j : Nat), a < 256 → j ≤ 24 → shlI .u32 (a : Int) j = ((a <<< j : Nat) : Int) := fun a j ha hj => by
      rw [shl32 _ _ (by omega), Nat.mod_eq_of_lt]
      rw [Nat.shiftLeft_eq]
      calc a * 2 ^ j < 256 * 2 ^ j := Nat.mul_lt_mul_of_pos_right ha (Nat.two_pow_pos j)
        _ ≤ 256 * 2 ^ 24 := Nat.mul_le_mul_left _ (Nat.pow_le_pow_right (by decide) hj)
        _ = 4294967296 := by decide
    have lt : ∀ (a j : Nat), a < 256 → j ≤ 24 → a <<< j < 4294967296 := fun a j ha hj => by
      rw [Nat.shiftLeft_eq]
      calc a * 2 ^ j < 256 * 2 ^ j := Nat.mul_lt_mul_of_pos_right ha (Nat.two_pow_pos j)
        _ ≤ 256 * 2 ^ 24 := Nat.mul_le_mul_left _ (Nat.pow_le_pow_right (by decide) hj)
        _ = 4294967296 := by decide
    have ev : orI .u32 (orI .u32 (orI .u32 (shlI .u32 (IntKind.u32.wrap (bk.getD (4 * k) 0)) 24) (shlI .u32 (IntKind.u32.wrap (bk.getD (4 * k + 1) 0)) 16)) (shlI .u32 (IntKind.u32.wrap (bk.getD (4 * k + 2) 0)) 8)) (IntKind.u32.wrap (bk.getD (4 * k + 3) 0)) = ((word bk k : Nat) : Int) := by
      rw [u32_lt _ (g' _), u32_lt _ (g' _), u32_lt _ (g' _), u32_lt _ (g' _)]
      have a1 := sh _ 24 (g (4 * k)) (by decide)
      have a2 := sh _ 16 (g (4 * k + 1)) (by decide)
      have a3 := sh _ 8 (g (4 * k + 2)) (by decide)
      simp only [Int.cast_ofNat_Int] at a1 a2 a3
      rw [a1, a2, a3]
      have b1 := Nat.or_lt_two_pow (n := 32) (lt _ 24 (g (4 * k)) (by decide)) (lt _ 16 (g (4 * k + 1)) (by decide))
      have b2 := Nat.or_lt_two_pow (n := 32) b1 (lt _ 8 (g (4 * k + 2)) (by decide))
      rw [or32 _ _ (lt _ 24 (g _) (by decide)) (lt _ 16 (g _) (by decide)), or32 _ _ b1 (lt _ 8 (g _) (by decide)), or32 _ _ b2 (g' _)]
      rfl
    rw [ev]
    refine hr.set (by rw [w1_len]; omega) _ fun h5 r5 o5 => ⟨⟨k + 1, rfl, by omega, r5, o5.blk hz (by omega), ?_⟩, by omega⟩
    refine ⟨by rw [o5.size]; exact hx.size, fun j hj => (o5.block j (by omega)).trans (hx.block j hj)⟩
  · have hk16 : k = 16 := by
      have : ¬ ((k : Int) < 16) := by simpa using hf
      omega
    subst hk16
    unfold F28_k3
    refine ⟨fun i h' => ∃ j : Nat, i = ((16 + j : Nat) : Int) ∧ j ≤ 48 ∧ Row32 h' h1.size 59 (w2 bk j) ∧ Row32 h' h.size 59 (List.replicate 64 0) ∧ Ext h h', fun i _ => (64 - i).toNat, ⟨0, rfl, by omega, hr, hz, hx⟩, ?_⟩
    rintro h4 _ ⟨j, rfl, hj, hr, hz, hx⟩
    unfold F28_b4
    refine br_of (fun ht => ?_) (fun hf => ?_)
    · have hj48 : j < 48 := by
        have : ((16 + j : Nat) : Int) < 64 := by simpa using ht
        omega
      have e15 : IntKind.i64.wrap (((16 + j : Nat) : Int) - 15) = ((16 + j - 15 : Nat) : Int) := by rw [i64_lt _ (by omega) (by omega)]; omega
      have e2 : IntKind.i64.wrap (((16 + j : Nat) : Int) - 2) = ((16 + j - 2 : Nat) : Int) := by rw [i64_lt _ (by omega) (by omega)]; omega
      have e16 : IntKind.i64.wrap (((16 + j : Nat) : Int) - 16) = ((16 + j - 16 : Nat) : Int) := by rw [i64_lt _ (by omega) (by omega)]; omega
      have e7 : IntKind.i64.wrap (((16 + j : Nat) : Int) - 7) = ((16 + j - 7 : Nat) : Int) := by rw [i64_lt _ (by omega) (by omega)]; omega
      have e1 : IntKind.i64.wrap (((16 + j : Nat) : Int) + 1) = ((16 + (j + 1) : Nat) : Int) := by rw [i64_lt _ (by omega) (by omega)]; omega
      unfold F28_k5
      simp only [e15, e2, e16, e7, e1, Int.toNat_natCast, mul1, add_mk, at0_mk, Nat.zero_add]
      have len := w2_len bk j
      have g := fun i => getD_lt (w2_lt bk hb j) (by decide) i
      refine ⟨by omega, by omega, _, hr.cell (by omega), by omega, by omega, _, hr.cell (by omega), ?_⟩
      intro h5 hcl; obtain rfl := hcl.eq
      refine ⟨by omega, by omega, _, hr.cell (by omega), by omega, by omega, _, hr.cell (by omega),
        _, fun h6 _ => rot_ok _ 7 (g _) (by decide) (by decide) h6, _, fun h6 _ => rot_ok _ 18 (g _) (by decide) (by decide) h6, by decide,
        _, fun h6 _ => rot_ok _ 17 (g _) (by decide) (by decide) h6, _, fun h6 _ => rot_ok _ 19 (g _) (by decide) (by decide) h6, by decide, by omega, by omega, ?_⟩
      intro h6 hcl; obtain rfl := hcl.eq
      have s3 := shr32 ((w2 bk j).getD (16 + j - 15) 0) 3 (by decide)
      have s10 := shr32 ((w2 bk j).getD (16 + j - 2) 0) 10 (by decide)
      simp only [Int.cast_ofNat_Int] at s3 s10
      have l3 : (w2 bk j).getD (16 + j - 15) 0 >>> 3 < 4294967296 := Nat.lt_of_le_of_lt (Nat.shiftRight_le _ _) (g _)
      have l10 : (w2 bk j).getD (16 + j - 2) 0 >>> 10 < 4294967296 := Nat.lt_of_le_of_lt (Nat.shiftRight_le _ _) (g _)
      have x32 : ∀ a b, a < 4294967296 → b < 4294967296 → a ^^^ b < 4294967296 := fun a b h1 h2 => Nat.xor_lt_two_pow (n := 32) h1 h2
      rw [s3, s10, xor32 _ _ (rotr_lt _ _ (g _)) (rotr_lt _ _ (g _)), xor32 _ _ (x32 _ _ (rotr_lt _ _ (g _)) (rotr_lt _ _ (g _))) l3, xor32 _ _ (rotr_lt _ _ (g _)) (rotr_lt _ _ (g _)), xor32 _ _ (x32 _ _ (rotr_lt _ _ (g _)) (rotr_lt _ _ (g _))) l10, add32, add32, add32]
      refine hr.set (by omega) _ fun h7 r7 o7 => ⟨⟨j + 1, rfl, by omega, r7, o7.blk hz (by omega), ?_⟩, by omega⟩
      exact ⟨by rw [o7.size]; exact hx.size, fun i hi => (o7.block i (by omega)).trans (hx.block i hi)⟩
    · have hj48 : j = 48 := by
        have : ¬ (((16 + j : Nat) : Int) < 64) := by simpa using hf
        omega
      subst hj48
      unfold F28_k6
      refine ⟨_, ?_, cells_blk0 hr, ?_⟩
      · simp [w2_len]
      refine storeK_whole hz (by simp [w2_len]) (by simp) (by simp [u32, one]) fun h5 b5 o5 => ?_
      refine ⟨_, by simp [w2_len], cells_blk0 b5, rfl, by rw [o5.size]; exact hx.size, fun i hi => (o5.block i (by omega)).trans (hx.block i hi)⟩
end Go.Proofs.YtoheacfggalcbaaDoor
