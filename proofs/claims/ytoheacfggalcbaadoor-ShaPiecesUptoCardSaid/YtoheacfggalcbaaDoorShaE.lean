/- Chapter 3: what Hex, Top, the document's Top and works compute; the law ShaTops. -/
import Derived.Test.YtoheacfggalcbaaDoorShaD
namespace Go.Proofs.YtoheacfggalcbaaDoor
open Go.Vc Go.Sha
set_option linter.unusedVariables false

theorem bytesV_str' (l : List Nat) (hl : ∀ x ∈ l, x < 256) : bytesV (str l) = l.map u8 := bytesV_str l hl
theorem shr8 (a : Nat) : shrI .u8 (a : Int) 4 = ((a / 16 : Nat) : Int) := by
  unfold shrI
  rw [show min ((4 : Int).toNat) IntKind.u8.bits = 4 from rfl, Int.fdiv_eq_ediv_of_nonneg _ (by decide)]
  omega
theorem and15 (a : Nat) (ha : a < 256) : andI .u8 (a : Int) 15 = ((a % 16 : Nat) : Int) := by
  have : ∀ a : Fin 256, andI .u8 ((a.1 : Nat) : Int) 15 = ((a.1 % 16 : Nat) : Int) := by decide +kernel
  exact this ⟨a, ha⟩
def signs : ByteArray := ⟨#[48, 49, 50, 51, 52, 53, 54, 55, 56, 57, 97, 98, 99, 100, 101, 102]⟩
theorem bt_sg (i : Nat) (hi : i < 16) : bt signs (i : Int) = (sg i : Int) := by
  have : ∀ a : Fin 16, bt signs ((a.1 : Nat) : Int) = (sg a.1 : Int) := by decide +kernel
  exact this ⟨i, hi⟩
theorem made64 : mkCells (zeroC Tryd.prog 5) (64 * 1) = ((List.replicate 64 0).map u8).toArray := by kernel_rfl

theorem hex_ok (D : List Nat) (hl : D.length = 32) (hD : ∀ x ∈ D, x < 256) (h : Heap) :
    HEnt Tryd.prog 20 #[.agg (D.map u8).toArray] h fun v h' => v = .string (str (Sha.hex D)) ∧ Ext h h' := by
  refine F20_ent _ _ _ ?_
  unfold F20
  refine newK_intro fun h1 n1 x1 s1 => ⟨by omega, by omega, by omega, by omega, newK_intro fun h2 n2 x2 s2 => ?_⟩
  rw [made64] at n2
  refine ⟨_, by simp [hl], cells_blk0 (x2.blk n1), ?_⟩
  refine ⟨fun a l c x h' => ∃ k : Nat, x = k ∧ k ≤ 32 ∧ a = some ⟨h1.size, 0, none⟩ ∧ l = 2 * k ∧ c = 64 ∧ h'[h1.size]? = some (.cells (((Sha.hex (D.take k)).map u8) ++ List.replicate (64 - 2 * k) (u8 0)).toArray 5 (0, 0)) ∧ Ext h h',
    fun _ _ _ x _ => (32 - x).toNat, ⟨0, rfl, by omega, rfl, rfl, rfl, n2, x1.trans x2⟩, ?_⟩
  rintro h3 _ _ _ _ ⟨k, rfl, hk, rfl, rfl, rfl, n3, x3⟩
  unfold F20_b1
  refine br_of (fun ht => ?_) (fun hf => ?_)
  · have hk32 : k < 32 := by
      have : (k : Int) < 32 := by simpa using ht
      omega
    unfold F20_k2
    have e1 : IntKind.i64.wrap ((k : Int) + 1) = ((k + 1 : Nat) : Int) := by rw [i64_lt _ (by omega) (by omega)]; omega
    have hx : D.getD k 0 < 256 := getD_lt hD (by decide) k
    rw [e1]
    refine ⟨by omega, by omega, (D.getD k 0 : Nat), ?_, by omega, ?_⟩
    · rw [Int.toNat_natCast, Nat.mul_one, List.getElem?_toArray]; exact get_map u8 (by omega)
    have b1 := bt_sg (D.getD k 0 / 16) (by omega)
    have b2 := bt_sg (D.getD k 0 % 16) (by omega)
    have es : ((⟨#[48, 49, 50, 51, 52, 53, 54, 55, 56, 57, 97, 98, 99, 100, 101, 102]⟩ : ByteArray).size : Int) = 16 := rfl
    rw [shr8, and15 _ hx]
    refine ⟨by omega, by rw [es]; omega, by omega, by rw [es]; omega, by decide, ?_⟩
    intro b18 h4 hb18 x4 n4
    have hlt := blk_lt n3
    have hhl := hex_len (D.take k)
    rw [List.length_take, Nat.min_eq_left (by omega)] at hhl
    refine appK_blk (m := 2) (news := [u8 (sg (D.getD k 0 / 16)), u8 (sg (D.getD k 0 % 16))]) rfl ?_ rfl (by simp [u8, one]) (x4.blk n3) (by simp [hhl]; omega) (by omega) (fun _ _ _ => .inr (Nat.zero_le _)) (fun hc => by omega) (fun _ h5 n5 o5 => ?_) (fun hc => by omega) rfl
    · refine srcK_slice rfl (fun ad e => ?_) (by rintro ⟨⟩)
      cases e
      refine cells_blk n4 fun i v hv => ?_
      have b1' : bt signs (D.getD k 0 / 16 : Nat) = (sg (D.getD k 0 / 16) : Int) := b1
      have b2' : bt signs (D.getD k 0 % 16 : Nat) = (sg (D.getD k 0 % 16) : Int) := b2
      rw [Nat.zero_add]
      have ev : (#[Value.int .u8 (bt (⟨#[48, 49, 50, 51, 52, 53, 54, 55, 56, 57, 97, 98, 99, 100, 101, 102]⟩ : ByteArray) (D.getD k 0 / 16 : Nat)), Value.int .u8 (bt (⟨#[48, 49, 50, 51, 52, 53, 54, 55, 56, 57, 97, 98, 99, 100, 101, 102]⟩ : ByteArray) (D.getD k 0 % 16 : Nat))] : Array Value) = [u8 (sg (D.getD k 0 / 16)), u8 (sg (D.getD k 0 % 16))].toArray := by
        show #[Value.int .u8 (bt signs _), Value.int .u8 (bt signs _)] = _
        rw [b1', b2']; rfl
      rw [ev, List.getElem?_toArray]; exact hv
    · have x34 : Ext h h4 := x3.trans x4
      refine ⟨⟨k + 1, rfl, by omega, rfl, by omega, rfl, ?_, ?_⟩, by show (32 - ((k + 1 : Nat) : Int)).toNat < (32 - (k : Int)).toNat; omega⟩
      · rw [n5]
        have et : D.take (k + 1) = D.take k ++ [D.getD k 0] := by
          rw [List.take_succ_eq_append_getElem (by omega), List.getD_eq_getElem?_getD, List.getElem?_eq_getElem (by omega)]; rfl
        rw [et, hex_snoc, Nat.zero_add]
        congr 3
        rw [List.take_append_of_le_length (by simp [hhl]), List.take_of_length_le (by simp [hhl]), List.drop_append, List.drop_of_length_le (by simp [hhl]), List.nil_append, List.length_map, hhl, List.drop_replicate, List.map_append]
        rw [show 64 - 2 * k - (2 * k + 2 - 2 * k) = 64 - 2 * (k + 1) by omega]; rfl
      · exact ⟨by rw [o5.size]; exact x34.size, fun i hi => (o5.block i (by have := x1.size; omega)).trans (x34.block i hi)⟩
  · have hk32 : k = 32 := by
      have : ¬ (k : Int) < 32 := by simpa using hf
      omega
    subst hk32
    unfold F20_k3
    rw [List.take_of_length_le (by omega)] at n3
    refine ⟨str (Sha.hex D), by rw [str_size, hex_len, hl], fun ad e => ?_, (by rintro ⟨⟩), rfl, x3⟩
    cases e
    rw [bytesV_str' _ (hex_lt D)]
    refine cells_blk n3 fun i v hv => ?_
    rw [Nat.zero_add, List.getElem?_toArray, List.getElem?_append_left (List.getElem?_eq_some_iff.1 hv).1]; exact hv

theorem works_ok (h : Heap) (hK : KAt h) : HEnt Tryd.prog 13 #[] h fun v h' => v = .bool true ∧ Ext h h' := by
  refine F13_ent _ _ ?_
  unfold F13
  refine ⟨by decide, newK_intro fun h1 n1 x1 s1 => ⟨⟨_, _, _, n1⟩, ?_⟩⟩
  rintro h2 rfl
  have n2 : (h1.modify (at0 h.size).block markO)[h.size]? = some (.cells ([97, 98, 99].map u8).toArray 5 (3, 4)) := by
    rw [Array.getElem?_modify]
    have : (at0 h.size).block = h.size := rfl
    rw [if_pos this, n1]; rfl
  have o2 : Only h.size h1 (h1.modify (at0 h.size).block markO) := ⟨by simp, fun k hk => by
    rw [Array.getElem?_modify, if_neg (fun e => hk e.symm)]⟩
  generalize (h1.modify (at0 h.size).block markO) = h2 at *
  have k2 : Keep (· = h.size) h h2 := (x1.keep _).trans (o2.keep rfl)
  have x2 : Ext h h2 := k2.ext fun k hk e => by omega
  refine HEnt.use (sum_ok (some ⟨h.size, 0, none⟩) 3 3 [97, 98, 99] h2 (hK.ext x2) ?_ (by decide)) ?_
  · intro p hp
    refine ⟨rfl, by omega, by decide, ?_, by rintro ⟨⟩⟩
    rintro ad ⟨⟩ _
    have := blk_lt n2
    exact ⟨h.size, 0, rfl, by omega, cells_blk0 n2⟩
  rintro _ h3 ⟨rfl, x3⟩
  have l32 : (Sha.sum [97, 98, 99]).length = 32 := by simp [Sha.sum, digest]
  refine ⟨_, by simp [l32], rfl, ?_⟩
  refine HEnt.use (hex_ok _ l32 (by rw [sum_abc]; decide) h3) ?_
  rintro _ h4 ⟨rfl, x4⟩
  refine ⟨_, rfl, ?_, x2.trans (x3.trans x4)⟩
  rw [hex_abc, seq_self]

theorem or64 (a b : Nat) (ha : a < 18446744073709551616) (hb : b < 18446744073709551616) : orI .u64 (a : Int) b = ((a ||| b : Nat) : Int) := by
  have : a ||| b < 2 ^ 64 := Nat.or_lt_two_pow ha hb
  have e : (BitVec.ofInt 64 (a : Int) ||| BitVec.ofInt 64 (b : Int)).toNat = a ||| b := by
    rw [BitVec.ofInt_natCast, BitVec.ofInt_natCast, BitVec.toNat_or, BitVec.toNat_ofNat, BitVec.toNat_ofNat, Nat.mod_eq_of_lt (show a < 2 ^ 64 from ha), Nat.mod_eq_of_lt (show b < 2 ^ 64 from hb)]
  show IntKind.u64.wrap ((BitVec.ofInt 64 (a : Int) ||| BitVec.ofInt 64 (b : Int)).toNat : Int) = _
  rw [e]; exact u64_lt _ (by omega) (by omega)
theorem shl64 (a k : Nat) (hk : k ≤ 64) : shlI .u64 (a : Int) k = ((a <<< k % 18446744073709551616 : Nat) : Int) := by
  unfold shlI
  rw [show min ((k : Int).toNat) IntKind.u64.bits = k from by simp [IntKind.bits]; omega, ← u64_wrap, Nat.shiftLeft_eq]
  simp

def first (n : Int) : Nat := (max 0 (min 64 n)).toNat
theorem top_ok (D : List Nat) (hl : D.length = 32) (hD : ∀ x ∈ D, x < 256) (n : Int) (h : Heap) :
    HEnt Tryd.prog 18 #[.agg (D.map u8).toArray, .int .i64 n] h fun v h' => v = .int .u64 (refv D (first n)) ∧ Ext h h' := by
  refine F18_ent _ _ _ _ ?_
  unfold F18
  have em : maxI 0 (minI 64 n) = (first n : Int) := by unfold maxI minI first; split <;> split <;> omega
  have hf64 : first n ≤ 64 := by unfold first; omega
  refine newK_intro fun h1 n1 x1 s1 => ?_
  rintro _ rfl
  rw [em]
  refine ⟨fun v x h' => ∃ k : Nat, x = k ∧ k ≤ 8 ∧ v = (topv D k : Int) ∧ h' = h1, fun _ x _ => (8 - x).toNat, ⟨0, rfl, by omega, rfl, rfl⟩, ?_⟩
  rintro h3 _ _ ⟨k, rfl, hk, rfl, rfl⟩
  unfold F18_b1
  refine br_of (fun ht => ?_) (fun hf => ?_)
  · have hk8 : k < 8 := by
      have : (k : Int) < 8 := by simpa using ht
      omega
    unfold F18_k2
    have e1 : IntKind.i64.wrap ((k : Int) + 1) = ((k + 1 : Nat) : Int) := by rw [i64_lt _ (by omega) (by omega)]; omega
    have hx : D.getD k 0 < 256 := getD_lt hD (by decide) k
    refine ⟨by omega, by omega, by omega, (D.getD k 0 : Nat), ?_, ?_⟩
    · rw [Int.toNat_natCast, Nat.mul_one, at0_mk, add_mk, Nat.zero_add, cell_blk n1, List.getElem?_toArray]; exact get_map u8 (by omega)
    rintro _ rfl
    rw [e1]
    have hv := topv_lt D hD k
    have hv8 : 256 ^ k ≤ 256 ^ 7 := Nat.pow_le_pow_right (by decide) (by omega)
    have hlt : topv D k * 256 < 18446744073709551616 := by
      have : (256 : Nat) ^ 7 * 256 = 18446744073709551616 := by decide
      omega
    have sh := shl64 (topv D k) 8 (by decide)
    simp only [Int.cast_ofNat_Int] at sh
    rw [sh, u64_lt _ (by omega) (by omega), or64 _ _ (Nat.mod_lt _ (by decide)) (by omega), Nat.mod_eq_of_lt (by rw [Nat.shiftLeft_eq]; exact hlt)]
    refine ⟨⟨k + 1, rfl, by omega, ?_, rfl⟩, by show (8 - ((k + 1 : Nat) : Int)).toNat < (8 - (k : Int)).toNat; omega⟩
    rw [← Nat.shiftLeft_add_eq_or_of_lt (show D.getD k 0 < 2 ^ 8 from hx), Nat.shiftLeft_eq]; rfl
  · have hk8 : k = 8 := by
      have : ¬ (k : Int) < 8 := by simpa using hf
      omega
    subst hk8
    unfold F18_k3
    have ew : IntKind.u64.wrap (IntKind.i64.wrap (64 - (first n : Int))) = ((64 - first n : Nat) : Int) := by
      rw [i64_lt _ (by omega) (by omega), u64_lt _ (by omega) (by omega)]; omega
    rw [ew, shr64 _ _ (by omega)]
    refine ⟨by omega, ?_, x1⟩
    rw [refv_eq D hD _ hf64, Nat.shiftRight_eq_div_pow]

theorem refTop_ok (D : List Nat) (hl : D.length = 32) (hD : ∀ x ∈ D, x < 256) (n : Int) (h : Heap) :
    HEnt Tryd.prog 19 #[.agg (D.map u8).toArray, .int .i64 n] h fun v h' => v = .int .u64 (refv D (first n)) ∧ Ext h h' := by
  refine F19_ent _ _ _ _ ?_
  unfold F19
  have hf64 : first n ≤ 64 := by unfold first; omega
  refine newK_intro fun h1 n1 x1 s1 => ?_
  rintro _ rfl _ rfl
  refine ⟨fun v x h' => ∃ k : Nat, x = k ∧ k ≤ first n ∧ v = (refv D k : Int) ∧ h' = h1, fun _ x _ => (64 - x).toNat, ⟨0, rfl, by omega, rfl, rfl⟩, ?_⟩
  rintro h3 _ _ ⟨k, rfl, hk, rfl, rfl⟩
  have hv : refv D k < 2 ^ k := by
    rw [refv_eq D hD k (by omega)]
    refine Nat.div_lt_of_lt_mul ?_
    rw [← Nat.pow_add, show 64 - k + k = 64 by omega]
    exact topv_lt D hD 8
  have fin : k = first n → F19_k8 (refv D k : Int) h3 (fun v h' => v = .int .u64 (refv D (first n)) ∧ Ext h h') := fun e => by
    unfold F19_k8; exact ⟨by rw [e], x1⟩
  unfold F19_b1
  refine br_of (fun ht => ?_) (fun hf => ?_)
  · have hkn : (k : Int) < n := by simpa using ht
    unfold F19_k2
    refine br_of (fun ht2 => ?_) (fun hf2 => ?_)
    · have hk64 : k < 64 := by
        have : (k : Int) < 64 := by simpa using ht2
        omega
      unfold F19_k3
      have hkf : k < first n := by unfold first; omega
      have hx : D.getD (k / 8) 0 < 256 := getD_lt hD (by decide) _
      have ed : IntKind.i64.wrap ((k : Int).tdiv 8) = ((k / 8 : Nat) : Int) := by
        rw [Int.tdiv_eq_ediv_of_nonneg (by omega), i64_lt _ (by omega) (by omega)]; omega
      have em : (k : Int).tmod 8 = ((k % 8 : Nat) : Int) := by
        rw [Int.tmod_eq_emod_of_nonneg (by omega)]; omega
      rw [ed, em]
      refine ⟨by decide, by omega, by omega, (D.getD (k / 8) 0 : Nat), ?_, ?_⟩
      · rw [Int.toNat_natCast, Nat.mul_one, at0_mk, add_mk, Nat.zero_add, cell_blk n1, List.getElem?_toArray]; exact get_map u8 (by omega)
      rintro _ rfl
      refine ⟨by decide, ?_⟩
      rintro _ rfl
      rw [i64_lt _ (by omega) (by omega)]
      refine ⟨fun b x h' => ∃ j : Nat, x = ((k % 8 + j : Nat) : Int) ∧ k % 8 + j ≤ 7 ∧ b = ((D.getD (k / 8) 0 / 2 ^ j : Nat) : Int) ∧ h' = h3, fun _ x _ => (7 - x).toNat, ⟨0, rfl, by omega, by simp, rfl⟩, ?_⟩
      rintro h4 _ _ ⟨j, rfl, hj, rfl, rfl⟩
      have hb : D.getD (k / 8) 0 / 2 ^ j < 256 := Nat.lt_of_le_of_lt (Nat.div_le_self _ _) hx
      unfold F19_b4
      refine br_of (fun ht3 => ?_) (fun hf3 => ?_)
      · have hj7 : k % 8 + j < 7 := by
          have : ((k % 8 + j : Nat) : Int) < 7 := by simpa using ht3
          omega
        unfold F19_k5
        refine ⟨by decide, ?_⟩
        rintro _ rfl _ rfl
        refine ⟨⟨j + 1, ?_, by omega, ?_, rfl⟩, ?_⟩
        · rw [i64_lt _ (by omega) (by omega)]; omega
        · rw [Nat.pow_succ, ← Nat.div_div_eq_div_mul]
          generalize D.getD (k / 8) 0 / 2 ^ j = B at *
          rw [Int.tdiv_eq_ediv_of_nonneg (by omega), i64_lt _ (by omega) (by omega)]; omega
        · show (7 - IntKind.i64.wrap (((k % 8 + j : Nat) : Int) + 1)).toNat < (7 - ((k % 8 + j : Nat) : Int)).toNat
          rw [i64_lt _ (by omega) (by omega)]; omega
      · have hj7 : k % 8 + j = 7 := by
          have : ¬ ((k % 8 + j : Nat) : Int) < 7 := by simpa using hf3
          omega
        unfold F19_k6
        refine ⟨by decide, ?_⟩
        rintro _ rfl
        unfold F19_k7
        rintro _ rfl
        have hjj : j = 7 - k % 8 := by omega
        have em2 : ((D.getD (k / 8) 0 / 2 ^ j : Nat) : Int).tmod 2 = ((D.getD (k / 8) 0 / 2 ^ j % 2 : Nat) : Int) := by
          generalize D.getD (k / 8) 0 / 2 ^ j = B at *
          rw [Int.tmod_eq_emod_of_nonneg (by omega)]; omega
        have hv63 : refv D k < 9223372036854775808 := Nat.lt_of_lt_of_le hv (Nat.pow_le_pow_right (by decide) (show k ≤ 63 by omega))
        refine ⟨⟨k + 1, ?_, by omega, ?_, rfl⟩, ?_⟩
        · rw [i64_lt _ (by omega) (by omega)]; omega
        · rw [em2, u64_lt (2 * (refv D k : Int)) (by omega) (by omega), u64_lt ((D.getD (k / 8) 0 / 2 ^ j % 2 : Nat) : Int) (by omega) (by omega), u64_lt _ (by omega) (by omega), refv, ← hjj]; omega
        · show (64 - IntKind.i64.wrap ((k : Int) + 1)).toNat < (64 - (k : Int)).toNat
          rw [i64_lt _ (by omega) (by omega)]; omega
    · have hk64 : ¬ (k : Int) < 64 := by simpa using hf2
      exact fin (by omega)
  · have hkn : ¬ (k : Int) < n := by simpa using hf
    unfold F19_k2
    refine br_of (fun ht2 => by simp at ht2) (fun hf2 => ?_)
    exact fin (by unfold first at *; omega)

theorem tops_ok (D : List Nat) (hl : D.length = 32) (hD : ∀ x ∈ D, x < 256) (n : Int) (h : Heap) (hK : KAt h) :
    HEnt Tryd.prog 5 #[.agg (D.map u8).toArray, .int .i64 n] h fun v h' => v = .bool true ∧ Ext h h' := by
  refine F5_ent _ _ _ _ ?_
  unfold F5
  refine newK_intro fun h1 n1 x1 s1 => ?_
  refine ⟨_, by simp [hl], cells_blk0 n1, _, fun h2 _ => top_ok D hl hD n h2, _, by simp [hl], cells_blk0 n1, _, fun h2 _ => refTop_ok D hl hD n h2, ?_⟩
  refine br_of (fun ht => ?_) (fun hf => by simp at hf)
  refine ⟨true, fun h2 x2 => works_ok h2 ((hK.ext x1).ext x2), fun h2 x2 => ⟨rfl, x1.trans x2⟩⟩
end Go.Proofs.YtoheacfggalcbaaDoor
