/- Chapter 3: the law ShaNested: contract. -/
import Derived.Test.YtoheacfggalcbaaDoorShaH
namespace Go.Proofs.YtoheacfggalcbaaDoor
open Go.Vc Go.Sha
set_option linter.unusedVariables false

theorem nibble : ∀ n < 16, (bt (str [sg n]) 0 = (sg n : Int)) := by decide +kernel
theorem sign_num : ∀ n < 16, ((sg n : Int) > 57 → IntKind.u64.wrap ((IntKind.u64.wrap (IntKind.u8.wrap ((sg n : Int) - 97))) + 10) = (n : Int)) ∧ (¬ (sg n : Int) > 57 → IntKind.u64.wrap (IntKind.u8.wrap ((sg n : Int) - 48)) = (n : Int)) := by
  have : ∀ n : Fin 16, ((sg n.1 : Int) > 57 → IntKind.u64.wrap ((IntKind.u64.wrap (IntKind.u8.wrap ((sg n.1 : Int) - 97))) + 10) = (n.1 : Int)) ∧ (¬ (sg n.1 : Int) > 57 → IntKind.u64.wrap (IntKind.u8.wrap ((sg n.1 : Int) - 48)) = (n.1 : Int)) := by decide +kernel
  exact fun n hn => this ⟨n, hn⟩
theorem in65 (x : Int) : ∃ m : Nat, m ≤ 64 ∧ (IntKind.i64.wrap ((x.tmod 65) + 65)).tmod 65 = (m : Int) := by
  have h1 := Int.tmod_lt_of_pos x (show (0 : Int) < 65 by decide)
  have h2 := Int.lt_tmod_of_pos x (show (0 : Int) < 65 by decide)
  rw [i64_lt _ (by omega) (by omega), Int.tmod_eq_emod_of_nonneg (by omega)]
  exact ⟨((x.tmod 65 + 65) % 65).toNat, by omega, by omega⟩
theorem first_nat (n : Nat) (h : n ≤ 64) : first (n : Int) = n := by unfold first; omega

theorem nested_go (D : List Nat) (hl : D.length = 32) (hD : ∀ x ∈ D, x < 256) (n m : Nat) (hnm : n ≤ m) (hm : m ≤ 64) (h h1 : Heap) (hK : KAt h) (n1 : h1[h.size]? = some (.cells (D.map u8).toArray 24 (0, 0))) (x1 : Ext h h1) :
    F6_k1 (n : Int) (m : Int) (at0 h.size) h1 fun v h' => v = .bool true ∧ Ext h h' := by
  unfold F6_k1
  refine ⟨_, by simp [hl], cells_blk0 n1, HEnt.use (hex_ok D hl hD h1) ?_⟩
  rintro _ h2 ⟨rfl, x2⟩
  refine ⟨_, rfl, ?_⟩
  have hsz : (str (Sha.hex D)).size = 64 := by rw [str_size, hex_len, hl]
  refine ⟨fun v x h' => ∃ k : Nat, x = k ∧ k ≤ 16 ∧ v = (nv D k : Int) ∧ h' = h2, fun _ x _ => (16 - x).toNat, ⟨0, rfl, by omega, rfl, rfl⟩, ?_⟩
  rintro h3 _ _ ⟨k, rfl, hk, rfl, rfl⟩
  have n3 := x2.blk n1
  unfold F6_b2
  refine br_of (fun ht => ?_) (fun hf => ?_)
  · have hk16 : k < 16 := by
      have : (k : Int) < 16 := by simpa using ht
      omega
    unfold F6_k3
    refine br_of (fun _ => ?_) (fun hb => ?_)
    · unfold F6_k4
      have hnib := nib_lt D hD k
      have hbt : bt (str (Sha.hex D)) (k : Int) = (sg (nib D k) : Int) := by
        rw [bt_lst, lst_str _ (hex_lt D), hex_get D k (by omega)]
      obtain ⟨g1, g2⟩ := sign_num (nib D k) hnib
      rw [hsz, hbt]
      have hv := nv_lt D hD k
      have hv16 : 16 ^ k ≤ 16 ^ 15 := Nat.pow_le_pow_right (by decide) (by omega)
      have step : ∀ x : Int, x = (nib D k : Int) → F6_k5 (fun v x h' => ∃ k : Nat, x = k ∧ k ≤ 16 ∧ v = (nv D k : Int) ∧ h' = h3) (fun _ x _ => (16 - x).toNat) ((16 - (k : Int)).toNat) (n : Int) (m : Int) (at0 h.size) (nv D k : Int) (str (Sha.hex D)) (k : Int) x h3 (fun v h' => v = .bool true ∧ Ext h h') := by
        rintro _ rfl
        unfold F6_k5
        have sh := shl64 (nv D k) 4 (by decide)
        simp only [Int.cast_ofNat_Int] at sh
        have hlt : nv D k * 16 < 18446744073709551616 := by
          have : (16 : Nat) ^ 15 * 16 = 18446744073709551616 := by decide
          omega
        rw [sh, Nat.mod_eq_of_lt (by rw [Nat.shiftLeft_eq]; exact hlt), or64 _ _ (by rw [Nat.shiftLeft_eq]; exact hlt) (by omega), ← Nat.shiftLeft_add_eq_or_of_lt (show nib D k < 2 ^ 4 from hnib), Nat.shiftLeft_eq]
        refine ⟨by omega, ?_⟩
        unfold F6_k6
        have e1 : IntKind.i64.wrap ((k : Int) + 1) = ((k + 1 : Nat) : Int) := by rw [i64_lt _ (by omega) (by omega)]; omega
        rw [e1]
        exact ⟨⟨k + 1, rfl, by omega, rfl, rfl⟩, by show (16 - ((k + 1 : Nat) : Int)).toNat < (16 - (k : Int)).toNat; omega⟩
      refine ⟨by omega, by omega, by omega, by omega, br_of (fun hb => ?_) (fun hb => ?_)⟩
      · exact ⟨by omega, by omega, step _ (g1 (by simpa using hb))⟩
      · exact step _ (g2 (by simpa using hb))
    · exfalso
      rw [hsz] at hb
      have : ¬ (k : Int) < 64 := by simpa using hb
      omega
  · have hk16 : k = 16 := by
      have : ¬ (k : Int) < 16 := by simpa using hf
      omega
    subst hk16
    unfold F6_k3
    refine br_of (fun hb => by simp at hb) (fun _ => ?_)
    unfold F6_k7
    have ew : IntKind.u64.wrap (IntKind.i64.wrap ((m : Int) - (n : Int))) = ((m - n : Nat) : Int) := by
      rw [i64_lt _ (by omega) (by omega), u64_lt _ (by omega) (by omega)]; omega
    rw [ew]
    refine ⟨_, by simp [hl], cells_blk0 n3, _, fun h4 _ => top_ok D hl hD m h4, by omega, _, by simp [hl], cells_blk0 n3, _, fun h4 _ => top_ok D hl hD n h4, ?_⟩
    rw [shr64 _ _ (by omega), first_nat m hm, first_nat n (by omega)]
    refine br_of (fun _ => ?_) (fun hb => ?_)
    · refine ⟨_, by simp [hl], cells_blk0 n3, _, fun h4 _ => top_ok D hl hD 64 h4, br_of (fun _ => ?_) (fun hb => ?_)⟩
      · refine ⟨_, by simp [hl], cells_blk0 n3, _, fun h4 _ => top_ok D hl hD 0 h4, br_of (fun _ => ?_) (fun hb => ?_)⟩
        · exact ⟨true, fun h4 x4 => works_ok h4 ((hK.ext (x1.trans x2)).ext x4), fun h4 x4 => ⟨rfl, (x1.trans x2).trans x4⟩⟩
        · exfalso
          have e : refv D (first 0) = 0 := by
            have := first_nat 0 (by omega)
            rw [show first 0 = 0 from this]; rfl
          rw [e] at hb; simp at hb
      · exfalso
        have e : refv D (first 64) = nv D 16 := by
          rw [show first 64 = 64 from first_nat 64 (by omega), refv_eq D hD 64 (by omega), show nv D 16 = topv D 8 from nv_two D 8]; simp
        rw [e] at hb; simp at hb
    · exfalso
      have e : refv D m >>> (m - n) = refv D n := by
        rw [refv_eq D hD m hm, refv_eq D hD n (by omega), Nat.shiftRight_eq_div_pow, Nat.div_div_eq_div_mul, ← Nat.pow_add, show 64 - m + (m - n) = 64 - n by omega]
      rw [e] at hb; simp at hb

theorem nested_ok (D : List Nat) (hl : D.length = 32) (hD : ∀ x ∈ D, x < 256) (x y : Int) (h : Heap) (hK : KAt h) :
    HEnt Tryd.prog 6 #[.agg (D.map u8).toArray, .int .i64 x, .int .i64 y] h fun v h' => v = .bool true ∧ Ext h h' := by
  refine F6_ent _ _ _ _ _ ?_
  unfold F6
  refine newK_intro fun h1 n1 x1 s1 => ⟨by decide, by decide, by decide, by decide, ?_⟩
  obtain ⟨n, hn, en⟩ := in65 x
  obtain ⟨m, hm, em⟩ := in65 y
  rw [en, em]
  refine br_of (fun hb => ?_) (fun hb => ?_)
  · have : (n : Int) > m := by simpa using hb
    exact nested_go D hl hD m n (by omega) hn h h1 hK n1 x1
  · have : ¬ (n : Int) > m := by simpa using hb
    exact nested_go D hl hD n m (by omega) hm h h1 hK n1 x1
end Go.Proofs.YtoheacfggalcbaaDoor
