import Derived.Test.YtpnbbgcaaogpdaaDoorVmpS
import Derived.Test.YtpnbbgcaaogpdaaDoorShaSpec
import Derived.Test.YtpnbbgcaaogpdaaDoorVcN

namespace Go.Proofs.YtpnbbgcaaogpdaaDoor.Sh
open Go.Vc Go.Sha
set_option linter.unusedVariables false
set_option maxRecDepth 20000

def u32 (n : Nat) : Value := .int .u32 n
def u8 (n : Nat) : Value := .int .u8 n
theorem getD_lt {l : List Nat} {b : Nat} (hl : ∀ x ∈ l, x < b) (hb : 0 < b) (i : Nat) : l.getD i 0 < b := by
  rw [List.getD_eq_getElem?_getD]
  cases h : l[i]? with
  | none => exact hb
  | some x => exact hl x (List.mem_of_getElem? h)
theorem get_map {l : List Nat} (f : Nat → Value) {i : Nat} (hi : i < l.length) : (l.map f)[i]? = some (f (l.getD i 0)) := by
  simp [List.getD_eq_getElem?_getD, hi]

theorem rot_ok (x n : Nat) (hx : x < 4294967296) (h1 : 1 ≤ n) (h2 : n ≤ 31) (h : Heap) : HEnt Tryd.prog 70 #[.int .u32 x, .int .u64 n] h fun v h' => v = u32 (rotr x n) ∧ h' = h := by
  refine F70_ent _ _ _ _ ?_
  have e : IntKind.u64.wrap (32 - (n : Int)) = ((32 - n : Nat) : Int) := by
    rw [u64_lt _ (by omega) (by omega)]; omega
  unfold F70
  rw [e]
  refine ⟨by omega, by omega, ?_, rfl⟩
  rw [shl32 _ _ (by omega), shr32 _ _ (by omega), or32 _ _ (Nat.lt_of_le_of_lt (Nat.shiftRight_le _ _) hx) (Nat.mod_lt _ (by decide))]
  rfl

theorem w1_len (bk : List Nat) (i : Nat) : (w1 bk i).length = 64 := by induction i <;> simp [w1, *]
theorem w2_len (bk : List Nat) (i : Nat) : (w2 bk i).length = 64 := by induction i <;> simp [w2, w1_len, *]
theorem word_lt (bk : List Nat) (hb : ∀ x ∈ bk, x < 256) (i : Nat) : word bk i < 4294967296 := by
  have g := fun j => getD_lt hb (by decide) j
  unfold word
  have s : ∀ a k : Nat, a < 256 → k ≤ 24 → a <<< k < 2 ^ 32 := fun a k h hk => by
    rw [Nat.shiftLeft_eq]
    calc a * 2 ^ k < 256 * 2 ^ k := Nat.mul_lt_mul_of_pos_right h (Nat.two_pow_pos k)
      _ ≤ 256 * 2 ^ 24 := Nat.mul_le_mul_left _ (Nat.pow_le_pow_right (by decide) hk)
      _ = 2 ^ 32 := by decide
  exact Nat.or_lt_two_pow (n := 32) (Nat.or_lt_two_pow (Nat.or_lt_two_pow (s _ 24 (g _) (by decide)) (s _ 16 (g _) (by decide))) (s _ 8 (g _) (by decide))) (Nat.lt_trans (g _) (by decide))
theorem set_lt {l : List Nat} {b : Nat} (hl : ∀ x ∈ l, x < b) (i v : Nat) (hv : v < b) : ∀ x ∈ l.set i v, x < b := by
  intro x hx
  rcases List.mem_or_eq_of_mem_set hx with h | h
  · exact hl x h
  · exact h ▸ hv
theorem w1_lt (bk : List Nat) (hb : ∀ x ∈ bk, x < 256) (i : Nat) : ∀ x ∈ w1 bk i, x < 4294967296 := by
  induction i with
  | zero => simp [w1]
  | succ i ih => exact set_lt ih _ _ (word_lt bk hb i)
theorem w2_lt (bk : List Nat) (hb : ∀ x ∈ bk, x < 256) (i : Nat) : ∀ x ∈ w2 bk i, x < 4294967296 := by
  induction i with
  | zero => exact w1_lt bk hb 16
  | succ i ih => exact set_lt ih _ _ (Nat.mod_lt _ (by decide))

/-- a row of numbers of 32 bits -/
def Row32 (h : Heap) (b : Nat) (t : TypeId) (l : List Nat) : Prop := h[b]? = some (.cells (l.map u32).toArray t (0, 0))
theorem Row32.cell {h : Heap} {b t : Nat} {l : List Nat} (r : Row32 h b t l) {i : Nat} (hi : i < l.length) : Vc.cell h ⟨b, i, none⟩ = some (u32 (l.getD i 0)) := by
  rw [cell_blk r]; simpa using get_map u32 hi
theorem Row32.set {h : Heap} {b t : Nat} {l : List Nat} (r : Row32 h b t l) {i : Nat} (hi : i < l.length) (v : Nat) {K : Heap → Prop} (hK : ∀ h', Row32 h' b t (l.set i v) → Only b h h' → K h') : storeK 1 h ⟨b, i, none⟩ (u32 v) K := by
  refine storeK_one r (by simpa using hi) (.inr (Nat.zero_le _)) rfl fun h' h1 h2 => hK h' ?_ h2
  unfold Row32
  rw [h1]
  simp [List.map_set]

theorem mul1 (n : Nat) : n * 1 = n := Nat.mul_one n
theorem i64n (n : Nat) (h : n < 9223372036854775808) : IntKind.i64.wrap (n : Int) = n := i64_lt _ (by omega) (by omega)

theorem words_ok (b o c : Nat) (bk : List Nat) (hl : bk.length = 64) (hb : ∀ x ∈ bk, x < 256) (h : Heap) (hc : CellsAt h ⟨b, o, none⟩ (bk.map u8)) :
    HEnt Tryd.prog 69 #[.slice (some ⟨b, o, none⟩) 64 c] h fun v h' => v = .agg ((words bk).map u32).toArray ∧ Ext h h' := by
  refine F69_ent _ _ _ _ _ ?_
  have hbs : b < h.size := by
    have := hc 0 (u8 (bk.getD 0 0)) (get_map u8 (by omega))
    exact lt_of_cell (a := (⟨b, o, none⟩ : Addr).add 0) this
  have cellAt : ∀ h', Ext h h' → ∀ i, i < 64 → Vc.cell h' ((⟨b, o, none⟩ : Addr).add i) = some (u8 (bk.getD i 0)) := fun h' hx i hi => hc.ext hx i _ (get_map u8 (by omega))
  unfold F69
  refine newK_intro fun h1 n1 x1 s1 => newK_intro fun h2 n2 x2 s2 => ?_
  have z : (zeroC Tryd.prog 104) = ((List.replicate 64 0).map u32).toArray := by kernel_rfl
  rw [z] at n1 n2
  refine ⟨fun i h' => ∃ k : Nat, i = k ∧ k ≤ 16 ∧ Row32 h' h1.size 104 (w1 bk k) ∧ Row32 h' h.size 104 (List.replicate 64 0) ∧ Ext h h', fun i _ => (16 - i).toNat, ⟨0, rfl, by omega, n2, x2.blk n1, x1.trans x2⟩, ?_⟩
  rintro h3 _ ⟨k, rfl, hk, hr, hz, hx⟩
  unfold F69_b1
  refine br_of (fun ht => ?_) (fun hf => ?_)
  · have hk16 : k < 16 := by have : (k : Int) < 16 := by simpa using ht
                             omega
    unfold F69_k2
    have e0 : IntKind.i64.wrap (4 * (k : Int)) = ((4 * k : Nat) : Int) := by rw [i64_lt _ (by omega) (by omega)]; omega
    have e1 : IntKind.i64.wrap (((4 * k : Nat) : Int) + 1) = ((4 * k + 1 : Nat) : Int) := by rw [i64_lt _ (by omega) (by omega)]; omega
    have e2 : IntKind.i64.wrap (((4 * k : Nat) : Int) + 2) = ((4 * k + 2 : Nat) : Int) := by rw [i64_lt _ (by omega) (by omega)]; omega
    have e3 : IntKind.i64.wrap (((4 * k : Nat) : Int) + 3) = ((4 * k + 3 : Nat) : Int) := by rw [i64_lt _ (by omega) (by omega)]; omega
    have e4 : IntKind.i64.wrap ((k : Int) + 1) = ((k + 1 : Nat) : Int) := by rw [i64_lt _ (by omega) (by omega)]; omega
    simp only [e0, e1, e2, e3, e4, Int.toNat_natCast, mul1, add_mk, at0_mk, Nat.zero_add]
    refine ⟨_, rfl, by omega, by omega, _, cellAt _ hx _ (by omega), by omega, _, rfl, by omega, by omega, _, cellAt _ hx _ (by omega), by omega, _, rfl, by omega, by omega, _, cellAt _ hx _ (by omega), by omega, _, rfl, by omega, by omega, _, cellAt _ hx _ (by omega), by omega, by omega, ?_⟩
    rintro h4 hcl
    obtain rfl := hcl.eq
    have g := fun j => getD_lt hb (by decide) j
    have g' : ∀ j, bk.getD j 0 < 4294967296 := fun j => Nat.lt_trans (g j) (by decide)
    have sh : ∀ (a j : Nat), a < 256 → j ≤ 24 → shlI .u32 (a : Int) j = ((a <<< j : Nat) : Int) := fun a j ha hj => by
      rw [shl32 _ _ (by omega), Nat.mod_eq_of_lt]
      rw [Nat.shiftLeft_eq]
      calc a * 2 ^ j < 256 * 2 ^ j := Nat.mul_lt_mul_of_pos_right ha (Nat.two_pow_pos j)
        _ ≤ 256 * 2 ^ 24 := Nat.mul_le_mul_left _ (Nat.pow_le_pow_right (by decide) hj)
        _ = 4294967296 := by decide
    have lt : ∀ (a j : Nat), a < 256 → j ≤ 24 → a <<< j < 4294967296 := fun a j ha hj => by
      rw [Nat.shiftLeft_eq]
      calc a * 2 ^ j < 256 * 2 ^ j := Nat.mul_lt_mul_of_pos_right ha (Nat.two_pow_pos j)
        _ ≤ 256 * 2 ^ 24 := Nat.mul_le_mul_left _ (Nat.pow_le_pow_right (by decide) hj)
        _ = 4294967296 := by decide
    have ev : orI .u32 (orI .u32 (orI .u32 (shlI .u32 (IntKind.u32.wrap (bk.getD (4 * k) 0)) 24) (shlI .u32 (IntKind.u32.wrap (bk.getD (4 * k + 1) 0)) 16)) (shlI .u32 (IntKind.u32.wrap (bk.getD (4 * k + 2) 0)) 8)) (IntKind.u32.wrap (bk.getD (4 * k + 3) 0)) = ((word bk k : Nat) : Int) := by
      rw [u32_lt _ (g' _), u32_lt _ (g' _), u32_lt _ (g' _), u32_lt _ (g' _)]
      have a1 := sh _ 24 (g (4 * k)) (by decide)
      have a2 := sh _ 16 (g (4 * k + 1)) (by decide)
      have a3 := sh _ 8 (g (4 * k + 2)) (by decide)
      simp only [Int.cast_ofNat_Int] at a1 a2 a3
      rw [a1, a2, a3]
      have b1 := Nat.or_lt_two_pow (n := 32) (lt _ 24 (g (4 * k)) (by decide)) (lt _ 16 (g (4 * k + 1)) (by decide))
      have b2 := Nat.or_lt_two_pow (n := 32) b1 (lt _ 8 (g (4 * k + 2)) (by decide))
      rw [or32 _ _ (lt _ 24 (g _) (by decide)) (lt _ 16 (g _) (by decide)), or32 _ _ b1 (lt _ 8 (g _) (by decide)), or32 _ _ b2 (g' _)]
      rfl
    rw [ev]
    refine hr.set (by rw [w1_len]; omega) _ fun h5 r5 o5 => ⟨⟨k + 1, rfl, by omega, r5, o5.blk hz (by omega), ?_⟩, by omega⟩
    refine ⟨by rw [o5.size]; exact hx.size, fun j hj => (o5.block j (by omega)).trans (hx.block j hj)⟩
  · have hk16 : k = 16 := by
      have : ¬ ((k : Int) < 16) := by simpa using hf
      omega
    subst hk16
    unfold F69_k3
    refine ⟨fun i h' => ∃ j : Nat, i = ((16 + j : Nat) : Int) ∧ j ≤ 48 ∧ Row32 h' h1.size 104 (w2 bk j) ∧ Row32 h' h.size 104 (List.replicate 64 0) ∧ Ext h h', fun i _ => (64 - i).toNat, ⟨0, rfl, by omega, hr, hz, hx⟩, ?_⟩
    rintro h4 _ ⟨j, rfl, hj, hr, hz, hx⟩
    unfold F69_b4
    refine br_of (fun ht => ?_) (fun hf => ?_)
    · have hj48 : j < 48 := by
        have : ((16 + j : Nat) : Int) < 64 := by simpa using ht
        omega
      have e15 : IntKind.i64.wrap (((16 + j : Nat) : Int) - 15) = ((16 + j - 15 : Nat) : Int) := by rw [i64_lt _ (by omega) (by omega)]; omega
      have e2 : IntKind.i64.wrap (((16 + j : Nat) : Int) - 2) = ((16 + j - 2 : Nat) : Int) := by rw [i64_lt _ (by omega) (by omega)]; omega
      have e16 : IntKind.i64.wrap (((16 + j : Nat) : Int) - 16) = ((16 + j - 16 : Nat) : Int) := by rw [i64_lt _ (by omega) (by omega)]; omega
      have e7 : IntKind.i64.wrap (((16 + j : Nat) : Int) - 7) = ((16 + j - 7 : Nat) : Int) := by rw [i64_lt _ (by omega) (by omega)]; omega
      have e1 : IntKind.i64.wrap (((16 + j : Nat) : Int) + 1) = ((16 + (j + 1) : Nat) : Int) := by rw [i64_lt _ (by omega) (by omega)]; omega
      unfold F69_k5
      simp only [e15, e2, e16, e7, e1, Int.toNat_natCast, mul1, add_mk, at0_mk, Nat.zero_add]
      have len := w2_len bk j
      have g := fun i => getD_lt (w2_lt bk hb j) (by decide) i
      refine ⟨by omega, by omega, _, hr.cell (by omega), by omega, by omega, _, hr.cell (by omega), ?_⟩
      intro h5 hcl; obtain rfl := hcl.eq
      refine ⟨by omega, by omega, _, hr.cell (by omega), by omega, by omega, _, hr.cell (by omega),
        _, fun h6 _ => rot_ok _ 7 (g _) (by decide) (by decide) h6, _, fun h6 _ => rot_ok _ 18 (g _) (by decide) (by decide) h6, by decide,
        _, fun h6 _ => rot_ok _ 17 (g _) (by decide) (by decide) h6, _, fun h6 _ => rot_ok _ 19 (g _) (by decide) (by decide) h6, by decide, by omega, by omega, ?_⟩
      intro h6 hcl; obtain rfl := hcl.eq
      have s3 := shr32 ((w2 bk j).getD (16 + j - 15) 0) 3 (by decide)
      have s10 := shr32 ((w2 bk j).getD (16 + j - 2) 0) 10 (by decide)
      simp only [Int.cast_ofNat_Int] at s3 s10
      have l3 : (w2 bk j).getD (16 + j - 15) 0 >>> 3 < 4294967296 := Nat.lt_of_le_of_lt (Nat.shiftRight_le _ _) (g _)
      have l10 : (w2 bk j).getD (16 + j - 2) 0 >>> 10 < 4294967296 := Nat.lt_of_le_of_lt (Nat.shiftRight_le _ _) (g _)
      have x32 : ∀ a b, a < 4294967296 → b < 4294967296 → a ^^^ b < 4294967296 := fun a b h1 h2 => Nat.xor_lt_two_pow (n := 32) h1 h2
      rw [s3, s10, xor32 _ _ (rotr_lt _ _ (g _)) (rotr_lt _ _ (g _)), xor32 _ _ (x32 _ _ (rotr_lt _ _ (g _)) (rotr_lt _ _ (g _))) l3, xor32 _ _ (rotr_lt _ _ (g _)) (rotr_lt _ _ (g _)), xor32 _ _ (x32 _ _ (rotr_lt _ _ (g _)) (rotr_lt _ _ (g _))) l10, add32, add32, add32]
      refine hr.set (by omega) _ fun h7 r7 o7 => ⟨⟨j + 1, rfl, by omega, r7, o7.blk hz (by omega), ?_⟩, by omega⟩
      exact ⟨by rw [o7.size]; exact hx.size, fun i hi => (o7.block i (by omega)).trans (hx.block i hi)⟩
    · have hj48 : j = 48 := by
        have : ¬ (((16 + j : Nat) : Int) < 64) := by simpa using hf
        omega
      subst hj48
      unfold F69_k6
      refine ⟨_, ?_, cells_blk0 hr, ?_⟩
      · simp [w2_len]
      refine storeK_whole hz (by simp [w2_len]) (by simp) (by simp [u32, one]) fun h5 b5 o5 => ?_
      refine ⟨_, by simp [w2_len], cells_blk0 b5, rfl, by rw [o5.size]; exact hx.size, fun i hi => (o5.block i (by omega)).trans (hx.block i hi)⟩
end Go.Proofs.YtpnbbgcaaogpdaaDoor.Sh

namespace Go.Proofs.YtpnbbgcaaogpdaaDoor.Sh
open Go.Vc Go.Sha
set_option linter.unusedVariables false
set_option maxRecDepth 20000

/-- the cells of a Hash -/
def hash (H L : List Nat) (n : Int) : List Value := Value.bool true :: (H.map u32 ++ (L.map u8 ++ [.int .i64 n]))
/-- a Hash lies at block p -/
def HashAt (h : Heap) (p : Nat) (H L : List Nat) (n : Int) : Prop := h[p]? = some (.cells (hash H L n).toArray 95 (0, 0))
theorem hash_len {H L : List Nat} {n : Int} (h1 : H.length = 8) (h2 : L.length = 64) : (hash H L n).length = 74 := by simp [hash, h1, h2]
theorem hash_h {H L : List Nat} {n : Int} (i : Nat) (hi : i < H.length) : (hash H L n)[1 + i]? = some (u32 (H.getD i 0)) := by
  unfold hash
  rw [show 1 + i = i + 1 by omega, List.getElem?_cons_succ, List.getElem?_append_left (by simpa using hi)]
  exact get_map u32 hi
theorem hash_l {H L : List Nat} {n : Int} (h1 : H.length = 8) (i : Nat) (hi : i < L.length) : (hash H L n)[9 + i]? = some (u8 (L.getD i 0)) := by
  unfold hash
  rw [show 9 + i = (8 + i) + 1 by omega, List.getElem?_cons_succ, List.getElem?_append_right (by simp [h1]), List.getElem?_append_left (by simp [h1]; omega)]
  simpa [h1] using get_map u8 hi
theorem hash_n {H L : List Nat} {n : Int} (h1 : H.length = 8) (h2 : L.length = 64) : (hash H L n)[73]? = some (.int .i64 n) := by
  unfold hash
  rw [List.getElem?_cons_succ, List.getElem?_append_right (by simp [h1]), List.getElem?_append_right (by simp [h1, h2])]
  simp [h1, h2]
theorem hash_set_h {H L : List Nat} {n : Int} (i : Nat) (hi : i < H.length) (v : Nat) : (hash H L n).set (1 + i) (u32 v) = hash (H.set i v) L n := by
  unfold hash
  rw [show 1 + i = i + 1 by omega, List.set_cons_succ, List.set_append, if_pos (by simpa using hi), List.map_set]
theorem hash_set_n {H L : List Nat} {n m : Int} (h1 : H.length = 8) (h2 : L.length = 64) : (hash H L n).set 73 (.int .i64 m) = hash H L m := by
  unfold hash
  rw [List.set_cons_succ, List.set_append, if_neg (by simp [h1]), List.set_append, if_neg (by simp [h1, h2])]
  simp [h1, h2]
theorem addTo_len (s H : List Nat) (i : Nat) : (addTo s i H).length = H.length := by induction i <;> simp [addTo, *]
theorem addTo_lt (s H : List Nat) (hH : ∀ x ∈ H, x < 4294967296) (i : Nat) : ∀ x ∈ addTo s i H, x < 4294967296 := by
  induction i with
  | zero => exact hH
  | succ i ih => exact set_lt ih _ _ (Nat.mod_lt _ (by decide))
theorem rounds_len (w H : List Nat) (h1 : H.length = 8) (i : Nat) : (rounds w H i).length = 8 := by cases i <;> simp [rounds, rnd, h1]
theorem tOf_lt (w s : List Nat) (i : Nat) : tOf w s i < 4294967296 := Nat.mod_lt _ (by decide)
theorem rnd_lt (w s : List Nat) (hs : ∀ x ∈ s, x < 4294967296) (i : Nat) : ∀ x ∈ rnd w s i, x < 4294967296 := by
  have g := fun j => getD_lt hs (by decide) j
  intro x hx
  simp only [rnd, List.mem_cons, List.not_mem_nil, or_false] at hx
  rcases hx with h | h | h | h | h | h | h | h <;> subst h <;> first | exact g _ | exact Nat.mod_lt _ (by decide)
theorem rounds_lt (w H : List Nat) (hH : ∀ x ∈ H, x < 4294967296) (i : Nat) : ∀ x ∈ rounds w H i, x < 4294967296 := by
  induction i with
  | zero => exact hH
  | succ i ih => exact rnd_lt w _ ih i

/-- the table k lies at block 1 -/
def KAt (h : Heap) : Prop := ∃ t fr, h[1]? = some (.cells (Sha.K.map u32).toArray t fr)
theorem KAt.lt {h : Heap} (k : KAt h) : 1 < h.size := by obtain ⟨t, fr, e⟩ := k; exact blk_lt e
theorem KAt.ext {h h' : Heap} (k : KAt h) (x : Ext h h') : KAt h' := by obtain ⟨t, fr, e⟩ := k; exact ⟨t, fr, x.blk e⟩
theorem KAt.keep {S : Nat → Prop} {h h' : Heap} (k : KAt h) (x : Keep S h h') (hs : ¬ S 1) : KAt h' := by obtain ⟨t, fr, e⟩ := k; exact ⟨t, fr, x.blk e hs⟩
theorem KAt.cell {h : Heap} (k : KAt h) {i : Nat} (hi : i < 64) : Vc.cell h ⟨1, i, none⟩ = some (u32 (Sha.K.getD i 0)) := by
  obtain ⟨t, fr, e⟩ := k
  rw [cell_blk e]; simpa using get_map u32 (l := Sha.K) hi
theorem KAt.ne {h : Heap} (k : KAt h) {p : Nat} {H L : List Nat} {n : Int} (hp : HashAt h p H L n) : p ≠ 1 := by
  rintro rfl
  obtain ⟨t, fr, e⟩ := k
  rw [HashAt, e] at hp
  have h1 : (Sha.K.map u32).toArray = (hash H L n).toArray := by simp only [Option.some.injEq, Obj.cells.injEq] at hp; exact hp.1
  have h2 := congrArg (fun a => a[0]?) h1
  revert h2
  show some (u32 1116352408) = some (Value.bool true) → False
  intro h; cases h

theorem block_ok (p b o c : Nat) (H L bk : List Nat) (n : Int) (h1 : H.length = 8) (h2 : L.length = 64) (hH : ∀ x ∈ H, x < 4294967296) (hl : bk.length = 64) (hb : ∀ x ∈ bk, x < 256)
    (h : Heap) (hc : CellsAt h ⟨b, o, none⟩ (bk.map u8)) (hK : KAt h) (hp : HashAt h p H L n) :
    HEnt Tryd.prog 59 #[.pointer (some ⟨p, 0, none⟩), .slice (some ⟨b, o, none⟩) 64 c] h fun v h' => v = .tuple #[] ∧ HashAt h' p (block H bk) L n ∧ Keep (· = p) h h' := by
  refine F59_ent _ _ _ _ _ _ ?_
  unfold F59
  have hp0 : p ≠ 1 := hK.ne hp
  refine HEnt.use (words_ok b o c bk hl hb h hc) ?_
  rintro _ h3 ⟨rfl, x3⟩
  have wl := w2_len bk 48
  have wlt := w2_lt bk hb 48
  refine ⟨_, by simp [words, wl], rfl, newK_intro fun h4 n4 x4 s4 => ?_⟩
  have z : (zeroC Tryd.prog 104).size = 64 := by kernel_rfl
  refine storeK_whole n4 (by simp [words, wl]) z (by simp [u32, one]) fun h5 b5 o5 => ?_
  have bp4 : h5[p]? = _ := o5.blk (x4.blk (x3.blk hp)) (by have := blk_lt (x3.blk hp); omega)
  refine ⟨_, rfl, (H.map u32).toArray, by simp [h1], ?_, newK_intro fun h6 n6 x6 s6 => ?_⟩
  · rw [add_mk]
    refine cells_blk bp4 fun i v hv => ?_
    simp only [List.getElem?_map, Option.map_eq_some_iff] at hv
    obtain ⟨x, hx, rfl⟩ := hv
    have hi : i < H.length := (List.getElem?_eq_some_iff.1 hx).1
    rw [List.getElem?_toArray, hash_h i hi]
    simp [List.getD_eq_getElem?_getD, hx]
  have z8 : (zeroC Tryd.prog 92).size = 8 := by kernel_rfl
  refine storeK_whole n6 (by simp [h1]) z8 (by simp [u32, one]) fun h7 b7 o7 => ?_
  have k5 : Keep (fun k => k = h3.size) h3 h5 := (x4.keep _).trans (o5.keep rfl)
  have x5 : Ext h3 h5 := k5.ext fun k hk e => by omega
  have k7 : Keep (fun k => k = h5.size) h5 h7 := (x6.keep _).trans (o7.keep rfl)
  have x7 : Ext h5 h7 := k7.ext fun k hk e => by omega
  have s5 : h3.size < h5.size := blk_lt b5
  have x07 : Ext h h7 := x3.trans (x5.trans x7)
  refine ⟨fun i h' => ∃ k : Nat, i = k ∧ k ≤ 64 ∧ Row32 h' h5.size 92 (rounds (words bk) H k) ∧ Row32 h' h3.size 104 (words bk) ∧ Ext h h', fun i _ => (64 - i).toNat,
    ⟨0, rfl, by omega, b7, x7.blk b5, x07⟩, ?_⟩
  rintro h8 _ ⟨k, rfl, hk, hs, hw, hx⟩
  have hsz := blk_lt hp
  have x3s := x3.size
  unfold F59_b1
  refine br_of (fun ht => ?_) (fun hf => ?_)
  · have hk64 : k < 64 := by
      have : (k : Int) < 64 := by simpa using ht
      omega
    have len := rounds_len (words bk) H h1 k
    have slt := rounds_lt (words bk) H hH k
    have g := fun i => getD_lt slt (by decide) i
    have hK8 : KAt h8 := hK.ext hx
    have e1 : IntKind.i64.wrap ((k : Int) + 1) = ((k + 1 : Nat) : Int) := by rw [i64_lt _ (by omega) (by omega)]; omega
    unfold F59_k2
    simp only [e1, Int.toNat_natCast, mul1, add_mk, at0_mk, Nat.zero_add]
    generalize hS : rounds (words bk) H k = S at *
    refine ⟨by omega, by omega, _, hs.cell (by omega), by omega, by omega, _, hs.cell (by omega), ?_⟩
    intro h9 hcl; obtain rfl := hcl.eq
    refine ⟨by omega, by omega, _, hs.cell (by omega),
      _, fun h6 _ => rot_ok _ 6 (g _) (by decide) (by decide) h6, _, fun h6 _ => rot_ok _ 11 (g _) (by decide) (by decide) h6, _, fun h6 _ => rot_ok _ 25 (g _) (by decide) (by decide) h6,
      by omega, by omega, _, hs.cell (by omega), by omega, by omega, _, hs.cell (by omega), by omega, by omega, _, hK8.cell (by omega), by omega, by omega, _, hw.cell (by rw [words, wl]; omega), ?_⟩
    intro h9 hcl; obtain rfl := hcl.eq
    refine ⟨_, fun h6 _ => rot_ok _ 2 (g _) (by decide) (by decide) h6, _, fun h6 _ => rot_ok _ 13 (g _) (by decide) (by decide) h6, _, fun h6 _ => rot_ok _ 22 (g _) (by decide) (by decide) h6,
      by omega, by omega, _, hs.cell (by omega), by omega, by omega, _, hs.cell (by omega), by omega, by omega, _, hs.cell (by omega), by omega, by omega, _, hs.cell (by omega), ?_⟩
    intro h9 hcl; obtain rfl := hcl.eq
    refine ⟨by omega, by omega, _, hs.cell (by omega), by omega, by omega, _, hs.cell (by omega), by omega, by omega, _, hs.cell (by omega), by omega, by omega, _, hs.cell (by omega), by omega, by omega, _, hs.cell (by omega), by omega, by omega, _, hs.cell (by omega), by omega, by omega, _, hs.cell (by omega), ?_⟩
    have x32 : ∀ a b, a < 4294967296 → b < 4294967296 → a ^^^ b < 4294967296 := fun a b h1 h2 => Nat.xor_lt_two_pow (n := 32) h1 h2
    have a32 : ∀ a b, b < 4294967296 → a &&& b < 4294967296 := fun a b h2 => Nat.and_lt_two_pow (n := 32) _ h2
    have n32 : ∀ a, a < 4294967296 → 4294967295 ^^^ a < 4294967296 := fun a h => x32 _ _ (by decide) h
    have r32 := fun i n => rotr_lt _ n (g i)
    have ev : (Value.agg #[Value.int .u32 (IntKind.u32.wrap ((IntKind.u32.wrap ((IntKind.u32.wrap ((IntKind.u32.wrap ((IntKind.u32.wrap ((S.getD 7 0 : Nat) + (xorI .u32 (xorI .u32 (rotr (S.getD 4 0) 6 : Nat) (rotr (S.getD 4 0) 11 : Nat)) (rotr (S.getD 4 0) 25 : Nat)))) + (xorI .u32 (andI .u32 (S.getD 4 0 : Nat) (S.getD 5 0 : Nat)) (andI .u32 (notI .u32 (S.getD 4 0 : Nat)) (S.getD 6 0 : Nat))))) + (Sha.K.getD k 0 : Nat))) + ((words bk).getD k 0 : Nat))) + (IntKind.u32.wrap ((xorI .u32 (xorI .u32 (rotr (S.getD 0 0) 2 : Nat) (rotr (S.getD 0 0) 13 : Nat)) (rotr (S.getD 0 0) 22 : Nat)) + (xorI .u32 (xorI .u32 (andI .u32 (S.getD 0 0 : Nat) (S.getD 1 0 : Nat)) (andI .u32 (S.getD 0 0 : Nat) (S.getD 2 0 : Nat))) (andI .u32 (S.getD 1 0 : Nat) (S.getD 2 0 : Nat))))))), Value.int .u32 (S.getD 0 0 : Nat), Value.int .u32 (S.getD 1 0 : Nat), Value.int .u32 (S.getD 2 0 : Nat), Value.int .u32 (IntKind.u32.wrap ((S.getD 3 0 : Nat) + (IntKind.u32.wrap ((IntKind.u32.wrap ((IntKind.u32.wrap ((IntKind.u32.wrap ((S.getD 7 0 : Nat) + (xorI .u32 (xorI .u32 (rotr (S.getD 4 0) 6 : Nat) (rotr (S.getD 4 0) 11 : Nat)) (rotr (S.getD 4 0) 25 : Nat)))) + (xorI .u32 (andI .u32 (S.getD 4 0 : Nat) (S.getD 5 0 : Nat)) (andI .u32 (notI .u32 (S.getD 4 0 : Nat)) (S.getD 6 0 : Nat))))) + (Sha.K.getD k 0 : Nat))) + ((words bk).getD k 0 : Nat))))), Value.int .u32 (S.getD 4 0 : Nat), Value.int .u32 (S.getD 5 0 : Nat), Value.int .u32 (S.getD 6 0 : Nat)]) = .agg ((rnd (words bk) S k).map u32).toArray := by
      rw [xor32 _ _ (r32 4 6) (r32 4 11), xor32 _ _ (x32 _ _ (r32 4 6) (r32 4 11)) (r32 4 25), and32 _ _ (g 4) (g 5), not32 _ (g 4), and32 _ _ (n32 _ (g 4)) (g 6), xor32 _ _ (a32 _ _ (g 5)) (a32 _ _ (g 6)),
        xor32 _ _ (r32 0 2) (r32 0 13), xor32 _ _ (x32 _ _ (r32 0 2) (r32 0 13)) (r32 0 22), and32 _ _ (g 0) (g 1), and32 _ _ (g 0) (g 2), and32 _ _ (g 1) (g 2), xor32 _ _ (a32 _ _ (g 1)) (a32 _ _ (g 2)), xor32 _ _ (x32 _ _ (a32 _ _ (g 1)) (a32 _ _ (g 2))) (a32 _ _ (g 2))]
      simp only [add32]
      rfl
    refine Eq.mpr (congrArg (fun v => storeK 8 _ _ v _) ev) ?_
    refine storeK_whole hs (by simp [rnd]) (by simp [len]) (by simp [u32, one]) fun h10 b10 o10 => ⟨⟨k + 1, rfl, by omega, ?_, o10.blk hw (by omega), ?_⟩, by omega⟩
    · unfold Row32; rw [b10, ← hS]; rfl
    · exact ⟨by rw [o10.size]; exact hx.size, fun j hj => (o10.block j (by omega)).trans (hx.block j hj)⟩
  · have hk64 : k = 64 := by
      have : ¬ ((k : Int) < 64) := by simpa using hf
      omega
    subst hk64
    unfold F59_k3
    have len := rounds_len (words bk) H h1 64
    generalize hS : rounds (words bk) H 64 = S at *
    refine ⟨fun i h' => ∃ k : Nat, i = k ∧ k ≤ 8 ∧ Row32 h' h5.size 92 S ∧ HashAt h' p (addTo S k H) L n ∧ Keep (· = p) h h', fun i _ => (8 - i).toNat,
      ⟨0, rfl, by omega, hs, hx.blk hp, hx.keep _⟩, ?_⟩
    rintro h9 _ ⟨k, rfl, hk, hs, hp, hx⟩
    unfold F59_b4
    refine br_of (fun ht => ?_) (fun hf => ?_)
    · have hk8 : k < 8 := by
        have : (k : Int) < 8 := by simpa using ht
        omega
      have e1 : IntKind.i64.wrap ((k : Int) + 1) = ((k + 1 : Nat) : Int) := by rw [i64_lt _ (by omega) (by omega)]; omega
      have al := addTo_len S H k
      unfold F59_k5
      simp only [e1, Int.toNat_natCast, mul1, add_mk, at0_mk, Nat.zero_add]
      refine ⟨_, rfl, by omega, by omega, ((addTo S k H).getD k 0 : Nat), ?_, by omega, by omega, _, hs.cell (by omega), _, rfl, by omega, by omega, ?_⟩
      · rw [add_mk, add_mk, Nat.zero_add, cell_blk hp, List.getElem?_toArray, hash_h k (by omega)]; rfl
      intro h10 hcl; obtain rfl := hcl.eq
      rw [add_mk, add_mk, Nat.zero_add, add32]
      refine storeK_one hp (by rw [List.size_toArray, hash_len (by omega) h2]; omega) (.inr (Nat.zero_le _)) rfl fun h11 b11 o11 => ⟨⟨k + 1, rfl, by omega, o11.blk hs (by omega), ?_, hx.trans (o11.keep rfl)⟩, by omega⟩
      unfold HashAt
      rw [b11, List.setIfInBounds_toArray, show (Value.int IntKind.u32 (((addTo S k H).getD k 0 + S.getD k 0) % 4294967296 : Nat)) = u32 (((addTo S k H).getD k 0 + S.getD k 0) % 4294967296) from rfl, hash_set_h k (by omega)]
      rfl
    · have hk8 : k = 8 := by
        have : ¬ ((k : Int) < 8) := by simpa using hf
        omega
      subst hk8
      refine ⟨rfl, ?_, hx⟩
      rw [← hS] at hp; exact hp
end Go.Proofs.YtpnbbgcaaogpdaaDoor.Sh

namespace Go.Proofs.YtpnbbgcaaogpdaaDoor.Sh
open Go.Vc Go.Sha
set_option linter.unusedVariables false
set_option maxRecDepth 20000

theorem H0_len : H0.length = 8 := rfl
theorem block_len (H bk : List Nat) : (Sha.block H bk).length = H.length := addTo_len _ _ _
theorem block_lt (H bk : List Nat) (hH : ∀ x ∈ H, x < 4294967296) : ∀ x ∈ Sha.block H bk, x < 4294967296 := addTo_lt _ _ hH _
theorem comp_len (bs : List Nat) (i : Nat) : (comp bs i).length = 8 := by induction i <;> simp [comp, H0_len, block_len, *]
theorem comp_lt (bs : List Nat) (i : Nat) : ∀ x ∈ comp bs i, x < 4294967296 := by
  induction i with
  | zero => simp [comp, H0]
  | succ i ih => exact block_lt _ _ ih
theorem comp_append (bs es : List Nat) (i : Nat) (hi : 64 * i ≤ bs.length) : comp (bs ++ es) i = comp bs i := by
  induction i with
  | zero => rfl
  | succ i ih =>
    rw [comp, comp, ih (by omega), List.drop_append_of_le_length (by omega), List.take_append_of_le_length (by simp; omega)]

/-- The Hash at block p stands behind these bytes. -/
def Rep (h : Heap) (p : Nat) (bs : List Nat) : Prop :=
  ∃ L : List Nat, L.length = 64 ∧ (∀ x ∈ L, x < 256) ∧ HashAt h p (comp bs (bs.length / 64)) L bs.length ∧ L.take (bs.length % 64) = bs.drop (64 * (bs.length / 64))
theorem Rep.of {h h' : Heap} {p : Nat} {bs : List Nat} (r : Rep h p bs) (e : h'[p]? = h[p]?) : Rep h' p bs := by
  obtain ⟨L, h1, h2, h3, h4⟩ := r
  exact ⟨L, h1, h2, e.trans h3, h4⟩
theorem Rep.lt {h : Heap} {p : Nat} {bs : List Nat} (r : Rep h p bs) : p < h.size := by
  obtain ⟨L, h1, h2, h3, h4⟩ := r
  exact blk_lt h3

/-- A slice of bytes, not in block p. -/
structure Bytes (h : Heap) (p : Nat) (a : Option Addr) (l c : Nat) (bs : List Nat) : Prop where
  len : bs.length = l
  cap : l ≤ c
  lt : ∀ x ∈ bs, x < 256
  at_ : ∀ ad, a = some ad → bs ≠ [] → ∃ b o, ad = ⟨b, o, none⟩ ∧ b ≠ p ∧ CellsAt h ⟨b, o, none⟩ (bs.map u8)
  nil : a = none → bs = []

theorem CellsAt.other {h h' : Heap} {p b o : Nat} {l : List Value} (c : CellsAt h ⟨b, o, none⟩ l) (k : Keep (· = p) h h') (hb : b ≠ p) : CellsAt h' ⟨b, o, none⟩ l := by
  intro i v hv
  have := c i v hv
  rw [add_mk] at this ⊢
  have hlt : b < h.size := lt_of_cell this
  have e := k.block b hlt hb
  rw [← this]
  simp only [Vc.cell, e]
theorem Bytes.keep {h h' : Heap} {p : Nat} {a : Option Addr} {l c : Nat} {bs : List Nat} (x : Bytes h p a l c bs) (k : Keep (· = p) h h') : Bytes h' p a l c bs :=
  ⟨x.len, x.cap, x.lt, fun ad e hne => by
    obtain ⟨b, o, e1, e2, e3⟩ := x.at_ ad e hne
    exact ⟨b, o, e1, e2, CellsAt.other e3 k e2⟩, x.nil⟩
/-- what is left of it behind the first m -/
theorem Bytes.cut {h : Heap} {p : Nat} {a : Option Addr} {l c : Nat} {bs : List Nat} (x : Bytes h p a l c bs) (m : Nat) (hm : m ≤ l) : Bytes h p (cutAt c m 1 a) (l - m) (c - m) (bs.drop m) := by
  have hl := x.len
  have hc := x.cap
  refine ⟨by simp [x.len], by omega, fun y hy => x.lt y (List.mem_of_mem_drop hy), ?_, ?_⟩
  · intro ad e hd
    have hne : bs ≠ [] := fun h => hd (by rw [h]; simp)
    unfold cutAt at e
    split at e
    · rename_i hcm
      exact absurd (List.drop_of_length_le (by omega)) hd
    · cases a with
      | none => simp at e
      | some a0 =>
        obtain ⟨b, o, e1, e2, e3⟩ := x.at_ a0 rfl hne
        subst e1
        simp only [Option.map_some, Option.some.injEq] at e
        subst e
        rw [add_mk, Nat.mul_one]
        refine ⟨b, o + m, rfl, e2, fun i v hv => ?_⟩
        rw [List.map_drop, List.getElem?_drop] at hv
        have := e3 _ _ hv
        rw [add_mk] at this ⊢
        rw [← this, Nat.add_assoc]
  · intro e
    have : a = none := by
      unfold cutAt at e; split at e
      · exact e
      · cases a <;> simp_all
    simp [x.nil this]

theorem hash_put {H L news : List Nat} {n : Int} (h1 : H.length = 8) (h2 : L.length = 64) (at_ : Nat) (fit : at_ + news.length ≤ 64) :
    (hash H L n).take (9 + at_) ++ news.map u8 ++ (hash H L n).drop (9 + at_ + news.length) = hash H (L.take at_ ++ news ++ L.drop (at_ + news.length)) n := by
  have e : ∀ k, k ≤ 64 → (hash H L n).take (9 + k) = Value.bool true :: (H.map u32 ++ (L.take k).map u8) := fun k hk => by
    unfold hash
    rw [show 9 + k = (8 + k) + 1 by omega, List.take_succ_cons, List.take_append, List.take_of_length_le (by simp [h1]), List.length_map, h1, Nat.add_sub_cancel_left, List.take_append_of_le_length (by simp [h2]; omega), List.map_take]
  have d : ∀ k, k ≤ 64 → (hash H L n).drop (9 + k) = (L.drop k).map u8 ++ [.int .i64 n] := fun k hk => by
    unfold hash
    rw [show 9 + k = (8 + k) + 1 by omega, List.drop_succ_cons, List.drop_append, List.drop_of_length_le (by simp [h1]), List.length_map, h1, Nat.add_sub_cancel_left, List.drop_append_of_le_length (by simp [h2]; omega), List.map_drop, List.nil_append]
  rw [e _ (by omega), Nat.add_assoc, d _ fit]
  simp [hash]

theorem new_ok (h : Heap) : HEnt Tryd.prog 52 #[] h fun v h' => v = .pointer (some ⟨h.size, 0, none⟩) ∧ Rep h' h.size [] ∧ Ext h h' ∧ h'.size = h.size + 1 := by
  refine F52_ent _ _ ?_
  unfold F52
  refine ⟨rfl, newK_intro fun h1 n1 x1 s1 => ⟨rfl, ⟨List.replicate 64 0, rfl, by simp, ?_, rfl⟩, x1, s1⟩⟩
  exact n1

theorem write_ok (p : Nat) (a : Option Addr) (l c : Nat) (bs ds : List Nat) (h : Heap) (hK : KAt h) (hr : Rep h p bs) (hb : Bytes h p a l c ds) (hlen : bs.length + ds.length < 2 ^ 62) :
    HEnt Tryd.prog 53 #[.pointer (some ⟨p, 0, none⟩), .slice a l c] h fun v h' => v = .tuple #[] ∧ Rep h' p (bs ++ ds) ∧ Keep (· = p) h h' := by
  refine F53_ent _ _ _ _ _ _ ?_
  obtain ⟨L, hL, hL8, hp, hLt⟩ := hr
  have hp0 : p ≠ 1 := hK.ne hp
  have cl := comp_len bs (bs.length / 64)
  have hln := hb.len
  unfold F53
  refine br_of (fun ht => by simp at ht) (fun hf => ?_)

  refine ⟨_, rfl, true, ?_, ?_⟩
  · rw [add_mk, cell_blk hp]; simp [hash]
  unfold F53_k1
  refine br_of (fun ht => by simp at ht) (fun hf => ?_)
  unfold F53_k2
  refine ⟨_, rfl, bs.length, ?_, by decide, ?_⟩
  · rw [add_mk, cell_blk hp, List.getElem?_toArray, hash_n cl hL]
  rintro x4 hx4
  refine ⟨_, rfl, bs.length, ?_, _, rfl, ?_⟩
  · rw [add_mk, cell_blk hp, List.getElem?_toArray, hash_n cl hL]
  have en : IntKind.i64.wrap ((bs.length : Int) + (l : Int)) = ((bs.length + ds.length : Nat) : Int) := by rw [i64_lt _ (by omega) (by omega)]; omega
  have e4 : x4 = ((bs.length % 64 : Nat) : Int) := by
    rw [hx4, Int.tmod_eq_emod_of_nonneg (by omega)]; omega
  rw [en, add_mk, Nat.zero_add]
  refine storeK_one hp (by rw [List.size_toArray, hash_len cl hL]; omega) (.inr (Nat.zero_le _)) rfl fun h1 b1 o1 => ?_
  rw [List.setIfInBounds_toArray, hash_set_n cl hL] at b1
  subst e4
  refine ⟨fun a' l' c' x h' => ∃ es rest L', ds = es ++ rest ∧ x = (((bs ++ es).length % 64 : Nat) : Int) ∧ Bytes h' p a' l' c' rest ∧ List.length L' = 64 ∧ (∀ x ∈ L', x < 256) ∧
      HashAt h' p (comp (bs ++ es) ((bs ++ es).length / 64)) L' ((bs.length + ds.length : Nat) : Int) ∧ L'.take ((bs ++ es).length % 64) = (bs ++ es).drop (64 * ((bs ++ es).length / 64)) ∧ Keep (· = p) h h',
    fun _ l' _ _ _ => l', ⟨[], ds, L, rfl, by simp, hb.keep (o1.keep rfl), hL, hL8, by rw [List.append_nil]; exact b1, by simpa using hLt, o1.keep rfl⟩, ?_⟩
  rintro h2 a' l' c' _ ⟨es, rest, L', hds, rfl, hb', hL', hL8', hp', hLt', hk⟩
  have hl' := hb'.len
  have hc' := hb'.cap
  have cl' := comp_len (bs ++ es) ((bs ++ es).length / 64)
  have hdl : ds.length = es.length + rest.length := by rw [hds]; simp
  unfold F53_b3
  refine br_of (fun ht => ?_) (fun hf => ?_)
  · have hl0 : 0 < l' := by
      have : (l' : Int) > 0 := by simpa using ht
      omega
    generalize hcur : bs ++ es = cur at *
    have hcl : cur.length = bs.length + es.length := by rw [← hcur]; simp
    unfold F53_k4
    have hmod := Nat.mod_lt cur.length (show 0 < 64 by decide)
    generalize hat : cur.length % 64 = at_ at *
    refine ⟨_, rfl, by omega, by omega, by omega, ?_⟩
    rw [add_mk, Nat.zero_add, Int.toNat_natCast, cutAt_some _ _ _ _ (by omega), add_mk, Nat.mul_one]
    have e64 : (64 : Int).toNat = 64 := rfl
    rw [e64]
    refine copyK_blk (m := l') (all := rest.map u8) rfl ?_ (by simp [hl']) (by simp [u8, one]) hp' (by rw [List.size_toArray, hash_len cl' hL']; omega) (fun _ _ => .inr (Nat.zero_le _)) fun h3 b3 o3 => ?_
    · refine srcK_slice (by simp [hl']) (fun ad e => ?_) (fun e => by simp [hb'.nil e])
      obtain ⟨b, o, e1, e2, e3⟩ := hb'.at_ ad e (fun h => by rw [h] at hl'; simp at hl'; omega)
      rw [e1]; exact e3
    generalize hm : min l' (64 - at_) = m at *
    have hm1 : m ≤ l' := by omega
    have hm2 : at_ + m ≤ 64 := by omega
    have hm0 : 0 < m := by omega
    have htk : (rest.take m).length = m := by simp; omega
    have b3' : HashAt h3 p (comp cur (cur.length / 64)) (L'.take at_ ++ rest.take m ++ L'.drop (at_ + m)) ((bs.length + ds.length : Nat) : Int) := by
      have := hash_put (H := comp cur (cur.length / 64)) (news := rest.take m) (n := ((bs.length + ds.length : Nat) : Int)) cl' hL' at_ (by omega)
      rw [htk] at this
      rw [HashAt, b3, ← this, List.map_take]
    have k3 : Keep (· = p) h2 h3 := o3.keep rfl
    have hcut := (hb'.cut m hm1).keep k3
    have ex4 : IntKind.i64.wrap ((at_ : Int) + (m : Int)) = ((at_ + m : Nat) : Int) := by rw [i64_lt _ (by omega) (by omega)]; omega
    have hLn : (L'.take at_ ++ rest.take m ++ L'.drop (at_ + m)).length = 64 := by simp [hL']; omega
    have hLn8 : ∀ x ∈ (L'.take at_ ++ rest.take m ++ L'.drop (at_ + m)), x < 256 := by
      intro x hx
      simp only [List.mem_append] at hx
      rcases hx with (hx | hx) | hx
      · exact hL8' _ (List.mem_of_mem_take hx)
      · exact hb'.lt _ (List.mem_of_mem_take hx)
      · exact hL8' _ (List.mem_of_mem_drop hx)
    have hsplit : ds = (es ++ rest.take m) ++ rest.drop m := by rw [List.append_assoc, List.take_append_drop, hds]
    have hnext : bs ++ (es ++ rest.take m) = cur ++ rest.take m := by rw [← hcur, List.append_assoc]
    have hq : cur.length = 64 * (cur.length / 64) + at_ := by omega
    refine ⟨by omega, by omega, ?_⟩
    rintro x4' hx4'
    rw [ex4] at hx4'
    subst hx4'
    refine br_of (fun ht => ?_) (fun hf => ?_)
    · have h64 : at_ + m = 64 := by
        have : ((at_ + m : Nat) : Int) = 64 := by simpa using ht
        omega
      have hnl : (cur ++ rest.take m).length = 64 * (cur.length / 64 + 1) := by rw [List.length_append, htk]; omega
      have hbk : L'.take at_ ++ rest.take m ++ L'.drop (at_ + m) = ((cur ++ rest.take m).drop (64 * (cur.length / 64))).take 64 := by
        rw [h64, List.drop_of_length_le (by omega), List.append_nil, hLt', List.drop_append_of_le_length (by omega), List.take_of_length_le (i := 64)]
        rw [List.length_append, List.length_drop, htk]; omega
      refine ⟨_, rfl, by omega, by omega, by omega, ?_⟩
      rw [cutAt_some _ _ _ _ (by decide), add_mk, add_mk, Nat.zero_add, Nat.zero_mul, Nat.add_zero]
      refine HEnt.use (block_ok p p 9 _ _ _ _ _ cl' hLn (comp_lt _ _) hLn hLn8 h3 ?_ (hK.keep (hk.trans k3) (Ne.symm hp0)) b3') ?_
      · refine cells_blk b3' fun i v hv => ?_
        have hi : i < (L'.take at_ ++ rest.take m ++ L'.drop (at_ + m)).length := by
          have := (List.getElem?_eq_some_iff.1 hv).1
          simpa using this
        rw [List.getElem?_toArray, hash_l cl' i hi, ← hv]
        exact (get_map u8 hi).symm
      rintro _ h4 ⟨rfl, b4, k4⟩
      refine ⟨rfl, ?_⟩
      rintro _ rfl
      refine ⟨⟨es ++ rest.take m, rest.drop m, _, hsplit, ?_, hcut.keep k4, hLn, hLn8, ?_, ?_, hk.trans (k3.trans k4)⟩, by show l' - ((m : Int).toNat) < l'; omega⟩
      · rw [hnext, hnl, Nat.mul_mod_right]; rfl
      · rw [hnext, hnl, Nat.mul_div_cancel_left _ (by decide), comp, comp_append cur _ _ (by omega), ← hbk]; exact b4
      · rw [hnext, hnl, Nat.mul_mod_right, Nat.mul_div_cancel_left _ (by decide), List.drop_of_length_le (l := cur ++ rest.take m) (by omega), List.take_zero]
    · have h64 : at_ + m < 64 := by
        have : ¬ ((at_ + m : Nat) : Int) = 64 := by simpa using hf
        omega
      have hnl : (cur ++ rest.take m).length = 64 * (cur.length / 64) + (at_ + m) := by rw [List.length_append, htk]; omega
      have hnd : (cur ++ rest.take m).length / 64 = cur.length / 64 := by omega
      have hnm : (cur ++ rest.take m).length % 64 = at_ + m := by omega
      refine ⟨⟨es ++ rest.take m, rest.drop m, _, hsplit, ?_, hcut, hLn, hLn8, ?_, ?_, hk.trans k3⟩, by show l' - ((m : Int).toNat) < l'; omega⟩
      · rw [hnext, hnm]
      · rw [hnext, hnd, comp_append cur _ _ (by omega)]; exact b3'
      · rw [hnext, hnm, hnd, List.take_append_of_le_length (by simp; omega), List.take_of_length_le (by simp; omega), hLt', List.drop_append_of_le_length (by omega)]
  · have hl0 : l' = 0 := by
      have : ¬ ((l' : Int) > 0) := by simpa using hf
      omega
    have hr0 : rest = [] := List.eq_nil_of_length_eq_zero (by omega)
    subst hr0
    rw [List.append_nil] at hds
    subst hds
    refine ⟨rfl, ⟨L', hL', hL8', ?_, hLt'⟩, hk⟩
    rw [List.length_append] at *
    exact hp'
end Go.Proofs.YtpnbbgcaaogpdaaDoor.Sh

namespace Go.Proofs.YtpnbbgcaaogpdaaDoor.Sh
open Go.Vc Go.Sha
set_option linter.unusedVariables false
set_option maxRecDepth 20000

theorem bytes_one {h : Heap} {b p x : Nat} {t : TypeId} {fr : Nat × Nat} (hb : h[b]? = some (.cells #[u8 x] t fr)) (hx : x < 256) (hp : b ≠ p) : Bytes h p (some ⟨b, 0, none⟩) 1 1 [x] := by
  refine ⟨rfl, Nat.le_refl _, by simpa using hx, ?_, by rintro ⟨⟩⟩
  rintro ad ⟨⟩ _
  exact ⟨b, 0, rfl, hp, cells_blk0 hb⟩

/-- the first t bytes of the digest, then zeros -/
def dg (H : List Nat) (t : Nat) : List Nat := (List.range 32).map fun i => if i < t then H.getD (i / 4) 0 >>> (24 - 8 * (i % 4)) % 256 else 0
theorem dg_len (H : List Nat) (t : Nat) : (dg H t).length = 32 := by simp [dg]
theorem dg_set (H : List Nat) (t : Nat) (ht : t < 32) : (dg H t).set t (H.getD (t / 4) 0 >>> (24 - 8 * (t % 4)) % 256) = dg H (t + 1) := by
  apply List.ext_getElem (by simp [dg])
  intro i h1 h2
  simp only [dg, List.getElem_set, List.getElem_map, List.getElem_range]
  split
  · rename_i h; subst h; rw [if_pos (by omega)]
  · rename_i h
    by_cases hi : i < t
    · rw [if_pos hi, if_pos (by omega)]
    · rw [if_neg hi, if_neg (by omega)]
theorem dg_all (H : List Nat) : dg H 32 = digest H := by
  unfold dg digest
  apply List.map_congr_left
  intro i hi
  rw [if_pos (by simpa using hi)]
theorem dg_lt (H : List Nat) (t : Nat) : ∀ x ∈ dg H t, x < 256 := by
  intro x hx
  simp only [dg, List.mem_map] at hx
  obtain ⟨i, _, rfl⟩ := hx
  split
  · exact Nat.mod_lt _ (by decide)
  · decide
theorem dg_zero (H : List Nat) : dg H 0 = List.replicate 32 0 := by
  unfold dg; simp only [Nat.not_lt_zero, if_false]; rfl
theorem z24 : zeroC Tryd.prog 48 = ((List.replicate 32 0).map u8).toArray := by kernel_rfl
theorem lenBytes_len (n : Nat) : (lenBytes n).length = 8 := by simp [lenBytes]
theorem lenBytes_take (n k : Nat) (hk : k < 8) : (lenBytes n).take (k + 1) = (lenBytes n).take k ++ [(n * 8 % 18446744073709551616) >>> (56 - 8 * k) % 256] := by
  rw [List.take_succ_eq_append_getElem (by rw [lenBytes_len]; exact hk)]
  simp [lenBytes]

theorem Rep.n {h : Heap} {p : Nat} {bs : List Nat} (r : Rep h p bs) : Vc.cell h ⟨p, 73, none⟩ = some (.int .i64 bs.length) := by
  obtain ⟨L, h1, h2, h3, h4⟩ := r
  rw [cell_blk h3, List.getElem?_toArray, hash_n (comp_len _ _) h1]
/-- how far the Hash at p stands from n -/
def left (p n : Nat) (h : Heap) : Nat := match Vc.cell h ⟨p, 73, none⟩ with
  | some (.int _ k) => (n - k).toNat
  | _ => 0
theorem left_of {h : Heap} {p : Nat} {bs : List Nat} (r : Rep h p bs) (n : Nat) : left p n h = n - bs.length := by
  rw [left, r.n]
  show ((n : Int) - (bs.length : Int)).toNat = _
  omega
theorem Bytes.ext {h h' : Heap} {p : Nat} {a : Option Addr} {l c : Nat} {bs : List Nat} (x : Bytes h p a l c bs) (k : Ext h h') : Bytes h' p a l c bs := x.keep (k.keep _)

def zlen (bs : List Nat) : Nat := (119 - bs.length % 64) % 64
theorem u64_wrap (n : Nat) : IntKind.u64.wrap (n : Int) = ((n % 18446744073709551616 : Nat) : Int) := by
  simp [IntKind.wrap, IntKind.bits, IntKind.signed]
theorem shr64 (a k : Nat) (hk : k ≤ 64) : shrI .u64 (a : Int) k = ((a >>> k : Nat) : Int) := by
  unfold shrI
  rw [show min ((k : Int).toNat) IntKind.u64.bits = k from by simp [IntKind.bits]; omega, Nat.shiftRight_eq_div_pow]
  rw [Int.fdiv_eq_ediv_of_nonneg _ (by exact_mod_cast Nat.zero_le _)]
  simp

theorem hsum_ok (p : Nat) (bs : List Nat) (h : Heap) (hK : KAt h) (hr : Rep h p bs) (hlen : bs.length < 2 ^ 61) :
    HEnt Tryd.prog 54 #[.pointer (some ⟨p, 0, none⟩)] h fun v h' => v = .agg ((Sha.sum bs).map u8).toArray ∧ Ext h h' := by
  refine F54_ent _ _ _ ?_
  have hpl := hr.lt
  have h0l : 0 < h.size := Nat.lt_trans Nat.zero_lt_one hK.lt
  have hr0 := hr
  obtain ⟨L, hL, hL8, hp, hLt⟩ := hr
  have cl := comp_len bs (bs.length / 64)
  unfold F54
  refine newK_intro fun h1 n1 x1 s1 => newK_intro fun h2 n2 x2 s2 => ?_
  refine br_of (fun ht => by simp at ht) (fun hf => ?_)
  have x02 := x1.trans x2
  have hp2 : h2[p]? = some (.cells (hash (comp bs (bs.length / 64)) L bs.length).toArray 95 (0, 0)) := x02.blk hp
  refine ⟨_, rfl, true, ?_, ?_⟩
  · rw [add_mk, cell_blk hp2]; simp [hash]
  unfold F54_k1
  refine br_of (fun ht => by simp at ht) (fun hf => ?_)
  unfold F54_k2
  refine ⟨_, rfl, (hash (comp bs (bs.length / 64)) L bs.length).toArray, hash_len cl hL, cells_blk0 hp2, newK_intro fun h3 n3 x3 s3 => ?_⟩
  have z48 : (zeroC Tryd.prog 95).size = 74 := by kernel_rfl
  refine storeK_whole n3 (hash_len cl hL) z48 (by intro u hu; simp [hash] at hu; rcases hu with rfl | ⟨_, _, rfl⟩ | ⟨_, _, rfl⟩ | rfl <;> rfl) fun h4 b4 o4 => ?_
  have k4 : Keep (· = h2.size) h2 h4 := (x3.keep _).trans (o4.keep rfl)
  have hp4 : h4[p]? = _ := k4.blk hp2 (by have := blk_lt hp2; intro e; omega)
  refine ⟨_, rfl, bs.length, ?_, by decide, newK_intro fun h5 n5 x5 s5 => ?_⟩
  · rw [add_mk, cell_blk hp4, List.getElem?_toArray, hash_n cl hL]
  have k5 : Keep (· = h2.size) h2 h5 := k4.trans (x5.keep _)
  have s4 := o4.size
  have r5 : Rep h5 h2.size bs := ⟨L, hL, hL8, x5.blk b4, hLt⟩
  have hK2 : KAt h2 := hK.ext x02
  have x02s := x02.size
  refine HEnt.use (write_ok h2.size _ 1 1 bs [128] h5 (hK2.keep k5 (by omega)) r5 (bytes_one n5 (by decide) (by omega)) (by simp; omega)) ?_
  rintro _ h6 ⟨rfl, r6, k6⟩
  have k26 := k5.trans k6
  refine ⟨rfl, fun h' => ∃ j, j ≤ zlen bs ∧ Rep h' h2.size (bs ++ 128 :: List.replicate j 0) ∧ Keep (· = h2.size) h2 h', fun h' => left h2.size (bs.length + 65) h', ⟨0, by omega, r6, k26⟩, ?_⟩
  rintro h7 ⟨j, hj, r7, k7⟩
  have hz : zlen bs < 64 := Nat.mod_lt _ (by decide)
  have hzd : zlen bs = (119 - bs.length % 64) % 64 := rfl
  have len7 : (bs ++ 128 :: List.replicate j 0).length = bs.length + 1 + j := by simp; omega
  have m7 := left_of r7 (bs.length + 65)
  rw [len7] at m7
  unfold F54_b3
  refine ⟨((bs.length + 1 + j : Nat) : Int), ?_, by decide, ?_⟩
  · rw [at0_mk, add_mk, ← len7]; exact r7.n
  have e7 : (((bs.length + 1 + j : Nat) : Int)).tmod 64 = ((bs.length + 1 + j) % 64 : Nat) := by rw [Int.tmod_eq_emod_of_nonneg (by omega)]; omega
  rw [e7]
  refine br_of (fun ht => ?_) (fun hf => ?_)
  · have hne : (bs.length + 1 + j) % 64 ≠ 56 := by
      intro e; rw [e] at ht; simp at ht
    unfold F54_k4
    refine ⟨by decide, newK_intro fun h8 n8 x8 s8 => ?_⟩
    have k8 := k7.trans (x8.keep _)
    refine HEnt.use (write_ok h2.size _ 1 1 _ [0] h8 (hK2.keep k8 (by omega)) (r7.of (x8.block _ r7.lt)) (bytes_one n8 (by decide) (by have := r7.lt; omega)) (by rw [len7]; simp; omega)) ?_
    rintro _ h9 ⟨rfl, r9, k9⟩
    have r9' : Rep h9 h2.size (bs ++ 128 :: List.replicate (j + 1) 0) := by
      rw [List.replicate_succ', ← List.cons_append, ← List.append_assoc]; exact r9
    have m9 := left_of r9' (bs.length + 65)
    have len9 : (bs ++ 128 :: List.replicate (j + 1) 0).length = bs.length + 2 + j := by simp; omega
    rw [len9] at m9
    refine ⟨rfl, ⟨j + 1, by omega, r9', k8.trans k9⟩, ?_⟩
    show left _ _ h9 < left _ _ h7
    rw [m9, m7]; omega
  · have heq : (bs.length + 1 + j) % 64 = 56 := by
      have : ¬ (((bs.length + 1 + j) % 64 : Nat) : Int) ≠ 56 := by simpa using hf
      omega
    have hjz : j = zlen bs := by omega
    subst hjz
    unfold F54_k5
    refine ⟨fun i h' => ∃ k : Nat, i = k ∧ k ≤ 8 ∧ Rep h' h2.size ((bs ++ 128 :: List.replicate (zlen bs) 0) ++ (lenBytes bs.length).take k) ∧ Keep (· = h2.size) h2 h', fun i _ => (8 - i).toNat,
      ⟨0, rfl, by omega, by simpa using r7, k7⟩, ?_⟩
    rintro h8 _ ⟨k, rfl, hk, r8, k8⟩
    unfold F54_b6
    refine br_of (fun ht => ?_) (fun hf => ?_)
    · have hk8 : k < 8 := by
        have : (k : Int) < 8 := by simpa using ht
        omega
      unfold F54_k7
      have ew : IntKind.u64.wrap (56 - (IntKind.u64.wrap (8 * (IntKind.u64.wrap (k : Int))))) = ((56 - 8 * k : Nat) : Int) := by
        rw [u64_lt (k : Int) (by omega) (by omega), u64_lt (8 * (k : Int)) (by omega) (by omega), u64_lt _ (by omega) (by omega)]; omega
      have eb : IntKind.u64.wrap ((IntKind.u64.wrap (bs.length : Int)) * 8) = ((bs.length * 8 % 18446744073709551616 : Nat) : Int) := by
        rw [u64_lt (bs.length : Int) (by omega) (by omega), ← u64_wrap]; simp
      have e1 : IntKind.i64.wrap ((k : Int) + 1) = ((k + 1 : Nat) : Int) := by rw [i64_lt _ (by omega) (by omega)]; omega
      rw [ew, eb, shr64 _ _ (by omega), u8_wrap, e1]
      refine ⟨by omega, by decide, newK_intro fun h9 n9 x9 s9 => ?_⟩
      have k9 := k8.trans (x9.keep _)
      refine HEnt.use (write_ok h2.size _ 1 1 _ [(bs.length * 8 % 18446744073709551616) >>> (56 - 8 * k) % 256] h9 (hK2.keep k9 (by omega)) (r8.of (x9.block _ r8.lt)) (bytes_one n9 (Nat.mod_lt _ (by decide)) (by have := r8.lt; omega)) (by simp; omega)) ?_
      rintro _ h10 ⟨rfl, r10, k10⟩
      refine ⟨rfl, ⟨k + 1, rfl, by omega, ?_, k9.trans k10⟩, by show (8 - ((k + 1 : Nat) : Int)).toNat < (8 - (k : Int)).toNat; omega⟩
      rw [lenBytes_take _ _ hk8, ← List.append_assoc]; exact r10
    · have hk8 : k = 8 := by
        have : ¬ ((k : Int) < 8) := by simpa using hf
        omega
      subst hk8
      have hP : (bs ++ 128 :: List.replicate (zlen bs) 0) ++ (lenBytes bs.length).take 8 = padded bs := by
        rw [List.take_of_length_le (by rw [lenBytes_len]; omega)]; simp [padded, zlen]
      rw [hP] at r8
      obtain ⟨L', hL', hL8', hp8, hLt'⟩ := r8
      have cl8 := comp_len (padded bs) ((padded bs).length / 64)
      have clt := comp_lt (padded bs) ((padded bs).length / 64)
      have hS : Sha.sum bs = digest (comp (padded bs) ((padded bs).length / 64)) := rfl
      generalize comp (padded bs) ((padded bs).length / 64) = C at *
      rw [hS]
      unfold F54_k8
      have hb8 := blk_lt hp8
      have d8 : h8[h1.size]? = some (.cells (zeroC Tryd.prog 48) 48 (0, 0)) := k8.blk n2 (by intro e; omega)
      have d8' : h8[h.size]? = some (.cells (zeroC Tryd.prog 48) 48 (0, 0)) := k8.blk (x2.blk n1) (by intro e; omega)
      have z24 : zeroC Tryd.prog 48 = ((dg C 0).map u8).toArray := by rw [dg_zero, z24]
      rw [z24] at d8 d8'
      refine ⟨(C.map u32).toArray, by simp [cl8], ?_, fun i h' => ∃ k : Nat, i = k ∧ k ≤ 8 ∧ h'[h1.size]? = some (.cells ((dg C (4 * k)).map u8).toArray 48 (0, 0)) ∧ h'[h.size]? = some (.cells ((dg C 0).map u8).toArray 48 (0, 0)) ∧ Ext h h',
        fun i _ => (8 - i).toNat, ⟨0, rfl, by omega, d8, d8', x02.trans (k8.ext fun k hk e => by omega)⟩, ?_⟩
      · rw [at0_mk, add_mk]
        refine cells_blk hp8 fun i v hv => ?_
        simp only [List.getElem?_map, Option.map_eq_some_iff] at hv
        obtain ⟨x, hx, rfl⟩ := hv
        have hi : i < C.length := (List.getElem?_eq_some_iff.1 hx).1
        rw [Nat.zero_add, List.getElem?_toArray, hash_h i hi]
        simp [List.getD_eq_getElem?_getD, hx]
      rintro h9 _ ⟨k, rfl, hk, d9, d9', x9⟩
      unfold F54_b9
      refine br_of (fun ht => ?_) (fun hf => ?_)
      · have hk8 : k < 8 := by
          have : (k : Int) < 8 := by simpa using ht
          omega
        unfold F54_k10
        have e1 : IntKind.i64.wrap ((k : Int) + 1) = ((k + 1 : Nat) : Int) := by rw [i64_lt _ (by omega) (by omega)]; omega
        refine ⟨by omega, by omega, (C.getD k 0 : Nat), ?_, ?_⟩
        · rw [Int.toNat_natCast, Nat.mul_one, List.getElem?_toArray]; exact get_map u32 (by omega)
        refine ⟨fun i h' => ∃ j : Nat, i = j ∧ j ≤ 4 ∧ h'[h1.size]? = some (.cells ((dg C (4 * k + j)).map u8).toArray 48 (0, 0)) ∧ h'[h.size]? = some (.cells ((dg C 0).map u8).toArray 48 (0, 0)) ∧ Ext h h',
          fun i _ => (4 - i).toNat, ⟨0, rfl, by omega, d9, d9', x9⟩, ?_⟩
        rintro h10 _ ⟨j, rfl, hj4, d10, d10', x10⟩
        unfold F54_b11
        refine br_of (fun ht => ?_) (fun hf => ?_)
        · have hj4 : j < 4 := by
            have : (j : Int) < 4 := by simpa using ht
            omega
          unfold F54_k12
          have ew : IntKind.u64.wrap (24 - (IntKind.u64.wrap (8 * (IntKind.u64.wrap (j : Int))))) = ((24 - 8 * j : Nat) : Int) := by
            rw [u64_lt (j : Int) (by omega) (by omega), u64_lt (8 * (j : Int)) (by omega) (by omega), u64_lt _ (by omega) (by omega)]; omega
          have ei : IntKind.i64.wrap ((IntKind.i64.wrap (4 * (k : Int))) + (j : Int)) = ((4 * k + j : Nat) : Int) := by
            rw [i64_lt (4 * (k : Int)) (by omega) (by omega), i64_lt _ (by omega) (by omega)]; omega
          have e1 : IntKind.i64.wrap ((j : Int) + 1) = ((j + 1 : Nat) : Int) := by rw [i64_lt _ (by omega) (by omega)]; omega
          rw [ew, ei, e1, shr32 _ _ (by omega), u8_wrap, Int.toNat_natCast, Nat.mul_one, at0_mk, add_mk, Nat.zero_add]
          refine ⟨by omega, by omega, by omega, ?_⟩
          refine storeK_one d10 (by simp [dg_len]; omega) (.inr (Nat.zero_le _)) rfl fun h11 b11 o11 => ⟨⟨j + 1, rfl, by omega, ?_, o11.blk d10' (by omega), ?_⟩, by show (4 - ((j + 1 : Nat) : Int)).toNat < (4 - (j : Int)).toNat; omega⟩
          · rw [b11, List.setIfInBounds_toArray]
            have := dg_set C (4 * k + j) (by omega)
            rw [show (4 * k + j) / 4 = k by omega, show (4 * k + j) % 4 = j by omega] at this
            rw [show 4 * k + (j + 1) = 4 * k + j + 1 by omega, ← this, List.map_set]; rfl
          · exact ⟨by rw [o11.size]; exact x10.size, fun i hi => (o11.block i (by omega)).trans (x10.block i hi)⟩
        · have hj4 : j = 4 := by
            have : ¬ ((j : Int) < 4) := by simpa using hf
            omega
          subst hj4
          unfold F54_k13
          rw [e1]
          exact ⟨⟨k + 1, rfl, by omega, d10, d10', x10⟩, by show (8 - ((k + 1 : Nat) : Int)).toNat < (8 - (k : Int)).toNat; omega⟩
      · have hk8 : k = 8 := by
          have : ¬ ((k : Int) < 8) := by simpa using hf
          omega
        subst hk8
        unfold F54_k14
        refine ⟨((digest C).map u8).toArray, by simp [digest], ?_, ?_⟩
        · rw [show 4 * 8 = 32 from rfl, dg_all] at d9
          exact cells_blk0 d9
        refine storeK_whole d9' (by simp [digest]) (by simp [dg_len]) (by simp [u8, one]) fun h10 b10 o10 => ⟨((digest C).map u8).toArray, by simp [digest], cells_blk0 b10, rfl, ?_⟩
        exact ⟨by rw [o10.size]; exact x9.size, fun i hi => (o10.block i (by omega)).trans (x9.block i hi)⟩

theorem sum_ok (a : Option Addr) (l c : Nat) (bs : List Nat) (h : Heap) (hK : KAt h) (hb : ∀ p, h.size ≤ p → Bytes h p a l c bs) (hlen : bs.length < 2 ^ 61) :
    HEnt Tryd.prog 40 #[.slice a l c] h fun v h' => v = .agg ((Sha.sum bs).map u8).toArray ∧ Ext h h' := by
  refine F40_ent _ _ _ _ _ ?_
  have h0l : 0 < h.size := Nat.lt_trans Nat.zero_lt_one hK.lt
  unfold F40
  refine newK_intro fun h1 n1 x1 s1 => ?_
  refine HEnt.use (new_ok h1) ?_
  rintro _ h2 ⟨rfl, r2, x2, s2⟩
  refine ⟨_, rfl, ?_⟩
  have x12 := x1.trans x2
  refine HEnt.use (write_ok h1.size a l c [] bs h2 (hK.ext x12) r2 ((hb h1.size (by omega)).ext x12) (by simp; omega)) ?_
  rintro _ h3 ⟨rfl, r3, k3⟩
  have k13 : Keep (· = h1.size) h1 h3 := (x2.keep _).trans k3
  refine ⟨rfl, ?_⟩
  refine HEnt.use (hsum_ok h1.size bs h3 ((hK.ext x1).keep k13 (by omega)) r3 hlen) ?_
  rintro _ h4 ⟨rfl, x4⟩
  have k14 := k13.trans (x4.keep _)
  have n4 := k14.blk n1 (by omega)
  have z24 : (zeroC Tryd.prog 48).size = 32 := by kernel_rfl
  have l32 : (Sha.sum bs).length = 32 := by simp [Sha.sum, digest]
  refine ⟨_, by simp [l32], rfl, storeK_whole n4 (by simp [l32]) z24 (by simp [u8, one]) fun h5 b5 o5 => ?_⟩
  refine ⟨_, by simp [l32], cells_blk0 b5, rfl, ?_⟩
  have x14 : Ext h h4 := x1.trans (k14.ext fun k hk e => by omega)
  exact ⟨by rw [o5.size]; exact x14.size, fun i hi => (o5.block i (by omega)).trans (x14.block i hi)⟩
end Go.Proofs.YtpnbbgcaaogpdaaDoor.Sh
