/- Chapter 3: what the document's Sum computes. -/
import Derived.Test.YtoheacfggalcbaaDoorShaJ
namespace Go.Proofs.YtoheacfggalcbaaDoor
open Go.Vc Go.Sha
set_option linter.unusedVariables false

theorem padded_len (bs : List Nat) : ∃ q, (padded bs).length = 64 * q ∧ bs.length + 1 + zlen bs + 8 = 64 * q := by
  have e : (padded bs).length = bs.length + 1 + zlen bs + 8 := by simp [padded, zlen, lenBytes_len]; omega
  have hz : zlen bs = (119 - bs.length % 64) % 64 := rfl
  exact ⟨(bs.length + 1 + zlen bs + 8) / 64, by rw [e]; omega, by omega⟩

theorem refSum_ok (a : Option Addr) (l c : Nat) (bs : List Nat) (h0 h : Heap) (ib : In h0 a l c bs) (hx0 : Ext h0 h) (hlen : bs.length < 2 ^ 40) :
    HEnt Tryd.prog 12 #[.slice a l c] h fun v h' => v = .agg ((Sha.sum bs).map u8).toArray ∧ Ext h h' := by
  refine F12_ent _ _ _ _ _ ?_
  have hl := ib.len
  unfold F12
  refine newK_intro fun h1 n1 x1 s1 => HEnt.use (table_ok h1) ?_
  rintro _ h2 ⟨rfl, t2, x2, s2⟩
  refine ⟨_, _, _, rfl, by decide, newK_intro fun h3 n3 x3 s3 => ?_⟩
  have o3 : Own 5 h3 h2.size (some ⟨h2.size, 0, none⟩) 0 0 [] := Own.new (cs := #[]) n3 (Nat.le_refl _)
  have x03 : Ext h h3 := x1.trans (x2.trans x3)
  refine appK_own cells5 zero5 o3 (by omega) (ib.src (hx0.trans x03)) (by simp [hl]) (by simp [u8, one]) (by rw [bytes5]; omega) fun a4 c4 h4 o4 k34 => ⟨by decide, newK_intro fun h5 n5 x5 s5 => ?_⟩
  have sz34 := k34.size
  have k35 : Keep (h2.size ≤ ·) h3 h5 := k34.trans (x5.keep _)
  refine appK_own (m := 1) (news := [u8 128]) cells5 zero5 (o4.ext x5) (by omega) (srcK_slice rfl (fun ad e => by cases e; exact cells_blk0 n5) (by rintro ⟨⟩)) rfl (by simp [u8, one]) (by rw [bytes5]; omega) fun a6 c6 h6 o6 k56 => ?_
  have k36 := k35.trans k56
  have x36 : Ext h2 h6 := (Keep.trans (x3.keep _) k36).ext fun i hi e => by omega
  have hz : zlen bs < 64 := Nat.mod_lt _ (by decide)
  have hzd : zlen bs = (119 - bs.length % 64) % 64 := rfl
  have o6' : Own 5 h6 h2.size a6 (bs.length + 1 + 0) c6 ((bs ++ 128 :: List.replicate 0 0).map u8) := by
    have : (bs ++ 128 :: List.replicate 0 0).map u8 = [] ++ bs.map u8 ++ [u8 128] := by simp
    rw [this, show bs.length + 1 + 0 = 0 + l + 1 by omega]; exact o6
  refine ⟨fun a' l' c' h' => ∃ j, j ≤ zlen bs ∧ l' = bs.length + 1 + j ∧ Own 5 h' h2.size a' l' c' ((bs ++ 128 :: List.replicate j 0).map u8) ∧ Ext h2 h', fun _ l' _ _ => bs.length + 1 + 64 - l', ⟨0, by omega, by omega, (by rw [show 0 + l + 1 = bs.length + 1 + 0 by omega]; exact o6'), x36⟩, ?_⟩
  rintro h7 a7 _ c7 ⟨j, hj, rfl, o7, x7⟩
  unfold F12_b1
  have et : (((bs.length + 1 + j : Nat) : Int)).tmod 64 = ((bs.length + 1 + j) % 64 : Nat) := by rw [Int.tmod_eq_emod_of_nonneg (by omega)]; omega
  rw [et]
  refine ⟨by decide, br_of (fun ht => ?_) (fun hf => ?_)⟩
  · have hne : (bs.length + 1 + j) % 64 ≠ 56 := by
      intro e; rw [e] at ht; simp at ht
    unfold F12_k2
    refine ⟨by decide, newK_intro fun h8 n8 x8 s8 => ?_⟩
    have sz7 := x7.size
    refine appK_own (m := 1) (news := [u8 0]) cells5 zero5 (o7.ext x8) (by omega) (srcK_slice rfl (fun ad e => by cases e; exact cells_blk0 n8) (by rintro ⟨⟩)) rfl (by simp [u8, one]) (by rw [bytes5]; omega) fun a9 c9 h9 o9 k89 => ?_
    refine ⟨⟨j + 1, by omega, by omega, ?_, ?_⟩, by show bs.length + 1 + 64 - (bs.length + 1 + j + 1) < bs.length + 1 + 64 - (bs.length + 1 + j); omega⟩
    · have : (bs ++ 128 :: List.replicate (j + 1) 0).map u8 = (bs ++ 128 :: List.replicate j 0).map u8 ++ [u8 0] := by
        rw [List.replicate_succ', ← List.cons_append, ← List.append_assoc, List.map_append]; rfl
      rw [this]; exact o9
    · exact (Keep.trans ((x7.trans x8).keep _) k89).ext fun i hi e => by omega
  have heq : (bs.length + 1 + j) % 64 = 56 := by
    have : ¬ (((bs.length + 1 + j) % 64 : Nat) : Int) ≠ 56 := by simpa using hf
    omega
  have hjz : j = zlen bs := by omega
  subst hjz
  unfold F12_k3
  have eb : IntKind.u64.wrap ((IntKind.u64.wrap (l : Int)) * 8) = ((bs.length * 8 % 18446744073709551616 : Nat) : Int) := by
    rw [u64_lt (l : Int) (by omega) (by omega), ← u64_wrap, ← hl]; simp
  rw [eb]
  have hN : bs.length * 8 % 18446744073709551616 = bs.length * 8 := Nat.mod_eq_of_lt (by omega)
  refine ⟨fun a' l' c' i h' => ∃ k : Nat, i = 7 - (k : Int) ∧ k ≤ 8 ∧ l' = bs.length + 1 + zlen bs + k ∧ Own 5 h' h2.size a' l' c' (((bs ++ 128 :: List.replicate (zlen bs) 0) ++ (lenBytes bs.length).take k).map u8) ∧ Ext h2 h', fun _ _ _ i _ => (i + 1).toNat,
    ⟨0, rfl, by omega, rfl, by simpa using o7, x7⟩, ?_⟩
  rintro h8 a8 _ c8 _ ⟨k, rfl, hk, rfl, o8, x8⟩
  unfold F12_b4
  refine br_of (fun ht => ?_) (fun hf => ?_)
  · have hk8 : k < 8 := by
      have : 7 - (k : Int) ≥ 0 := by simpa using ht
      omega
    unfold F12_k5
    refine ⟨fun x j h' => ∃ n : Nat, j = n ∧ n ≤ 7 - k ∧ x = ((bs.length * 8 % 18446744073709551616 / 256 ^ n : Nat) : Int) ∧ h' = h8, fun _ j _ => (8 - j).toNat, ⟨0, rfl, by omega, by simp, rfl⟩, ?_⟩
    rintro h9 _ _ ⟨n, rfl, hn, rfl, rfl⟩
    have hdl : bs.length * 8 % 18446744073709551616 / 256 ^ n ≤ bs.length * 8 := Nat.le_trans (Nat.div_le_self _ _) (Nat.mod_le _ _)
    unfold F12_b6
    refine br_of (fun ht2 => ?_) (fun hf2 => ?_)
    · have hn7 : n < 7 - k := by
        have : (n : Int) < 7 - (k : Int) := by simpa using ht2
        omega
      unfold F12_k7
      refine ⟨by decide, ⟨n + 1, ?_, by omega, ?_, rfl⟩, ?_⟩
      · rw [i64_lt _ (by omega) (by omega)]; omega
      · rw [Nat.pow_succ, ← Nat.div_div_eq_div_mul]
        generalize bs.length * 8 % 18446744073709551616 / 256 ^ n = B at *
        rw [Int.tdiv_eq_ediv_of_nonneg (by omega), u64_lt _ (by omega) (by omega)]; omega
      · show (8 - IntKind.i64.wrap ((n : Int) + 1)).toNat < (8 - (n : Int)).toNat
        rw [i64_lt _ (by omega) (by omega)]; omega
    · have hn7 : n = 7 - k := by
        have : ¬ (n : Int) < 7 - (k : Int) := by simpa using hf2
        omega
      unfold F12_k8
      have ev : IntKind.u8.wrap (((bs.length * 8 % 18446744073709551616 / 256 ^ n : Nat) : Int).tmod 256) = (((bs.length * 8 % 18446744073709551616) >>> (56 - 8 * k) % 256 : Nat) : Int) := by
        rw [Nat.shiftRight_eq_div_pow, show (2 : Nat) ^ (56 - 8 * k) = 256 ^ n by rw [show (256 : Nat) = 2 ^ 8 from rfl, ← Nat.pow_mul]; congr 1; omega]
        generalize bs.length * 8 % 18446744073709551616 / 256 ^ n = B at *
        rw [Int.tmod_eq_emod_of_nonneg (by omega), show (B : Int) % 256 = ((B % 256 : Nat) : Int) by omega, wrap8 _ (Nat.mod_lt _ (by decide))]
      rw [ev]
      refine ⟨by decide, by decide, newK_intro fun h10 n10 x10 s10 => ?_⟩
      have sz8 := x8.size
      refine appK_own (m := 1) (news := [u8 ((bs.length * 8 % 18446744073709551616) >>> (56 - 8 * k) % 256)]) cells5 zero5 (o8.ext x10) (by omega) (srcK_slice rfl (fun ad e => by cases e; exact cells_blk0 n10) (by rintro ⟨⟩)) rfl (by simp [u8, one]) (by rw [bytes5]; omega) fun a11 c11 h11 o11 k1011 => ?_
      unfold F12_k9
      refine ⟨⟨k + 1, ?_, by omega, by omega, ?_, ?_⟩, ?_⟩
      · rw [i64_lt _ (by omega) (by omega)]; omega
      · rw [lenBytes_take _ _ hk8, ← List.append_assoc, List.map_append (l₂ := [_])]; exact o11
      · exact (Keep.trans ((x8.trans x10).keep _) k1011).ext fun i hi e => by omega
      · show (IntKind.i64.wrap (7 - (k : Int) - 1) + 1).toNat < (7 - (k : Int) + 1).toNat
        rw [i64_lt _ (by omega) (by omega)]; omega
  have hk8 : k = 8 := by
    have : ¬ 7 - (k : Int) ≥ 0 := by simpa using hf
    omega
  subst hk8
  have hP : (bs ++ 128 :: List.replicate (zlen bs) 0) ++ (lenBytes bs.length).take 8 = padded bs := by
    rw [List.take_of_length_le (by rw [lenBytes_len]; omega)]; simp [padded, zlen]
  rw [hP] at o8
  obtain ⟨Q, hQ, hQ'⟩ := padded_len bs
  have hPlt : ∀ x ∈ padded bs, x < 256 := by
    intro x hx
    simp only [padded, List.mem_append, List.mem_cons, List.mem_replicate] at hx
    rcases hx with h | rfl | ⟨_, rfl⟩ | h
    · exact ib.lt x h
    · decide
    · decide
    · simp only [lenBytes, List.mem_map] at h
      obtain ⟨i, _, rfl⟩ := h
      exact Nat.mod_lt _ (by decide)
  have hS : Sha.sum bs = digest (comp (padded bs) ((padded bs).length / 64)) := rfl
  rw [hQ, Nat.mul_div_cancel_left _ (by decide)] at hS
  obtain ⟨mb, -, hmb, -⟩ : ∃ b, True ∧ a8 = some ⟨b, 0, none⟩ ∧ True := by
    obtain ⟨_, _, b, cs, e, _⟩ := o8
    exact ⟨b, trivial, e, trivial⟩
  subst hmb
  have cP : CellsAt h8 ⟨mb, 0, none⟩ ((padded bs).map u8) := by
    obtain ⟨b, e1, _, _, e2⟩ := o8.cells _ rfl
    cases e1; exact e2
  have t8 : Row32 h8 h1.size 44 Sha.K := x8.blk t2
  have lP : (padded bs).length = bs.length + 1 + zlen bs + 8 := by omega
  generalize padded bs = P at *
  have hb2 := n1
  have d8 : h8[h.size]? = some (.cells ((List.replicate 32 0).map u8).toArray 24 (0, 0)) := by rw [← z24]; exact (x2.trans x8).blk n1
  have x08 : Ext h h8 := x1.trans (x2.trans x8)
  unfold F12_k10
  refine ⟨by decide, newK_intro fun h9 n9 x9 s9 => ?_⟩
  refine ⟨fun a' l' c' i h' => ∃ q b, i = ((64 * q : Nat) : Int) ∧ q ≤ Q ∧ a' = some ⟨b, 0, none⟩ ∧ l' = 8 ∧ Row32 h' b 44 (comp P q) ∧ Ext h8 h', fun _ _ _ i _ => (64 * Q - i).toNat,
    ⟨0, _, rfl, by omega, rfl, rfl, n9, x9⟩, ?_⟩
  rintro h10 _ _ c10 _ ⟨q, pb, rfl, hq, rfl, rfl, r10, x10⟩
  unfold F12_b11
  refine br_of (fun ht => ?_) (fun hf => ?_)
  · have hqQ : q < Q := by
      have : ((64 * q : Nat) : Int) < ((bs.length + 1 + zlen bs + 8 : Nat) : Int) := by simpa using ht
      omega
    refine blockRef (x10.blk t8) (cP.ext x10) lP hPlt (by omega) (by omega) r10 (comp_len _ _) (comp_lt _ _) fun h11 b' x11 r11 => ?_
    refine ⟨⟨q + 1, b', rfl, by omega, rfl, rfl, r11, x10.trans x11⟩, ?_⟩
    show (64 * Q - ((64 * (q + 1) : Nat) : Int)).toNat < (64 * Q - ((64 * q : Nat) : Int)).toNat
    omega
  have hqQ : q = Q := by
    have : ¬ ((64 * q : Nat) : Int) < ((bs.length + 1 + zlen bs + 8 : Nat) : Int) := by simpa using hf
    omega
  subst hqQ
  have clen := comp_len P q
  have clt := comp_lt P q
  rw [hS]
  generalize comp P q = C at *
  unfold F12_k24
  refine newK_intro fun h11 n11 x11 s11 => ?_
  have z24' : zeroC Tryd.prog 24 = ((dg C 0).map u8).toArray := by rw [dg_zero, z24]
  rw [z24'] at n11
  have d11 := (x10.trans x11).blk d8
  have x811 := x10.trans x11
  have hb8 := blk_lt d8
  have hs811 := x811.size
  have hs10 := x10.size
  refine ⟨fun i h' => ∃ k : Nat, i = k ∧ k ≤ 32 ∧ h'[h10.size]? = some (.cells ((dg C k).map u8).toArray 24 (0, 0)) ∧ h'[h.size]? = some (.cells ((List.replicate 32 0).map u8).toArray 24 (0, 0)) ∧ Ext h10 h', fun i _ => (32 - i).toNat, ⟨0, rfl, by omega, n11, d11, x11⟩, ?_⟩
  rintro h12 _ ⟨k, rfl, hk, n12, d12, x12⟩
  unfold F12_b25
  refine br_of (fun ht => ?_) (fun hf => ?_)
  · have hk32 : k < 32 := by
      have : (k : Int) < 32 := by simpa using ht
      omega
    unfold F12_k26
    have ed : IntKind.i64.wrap ((k : Int).tdiv 4) = ((k / 4 : Nat) : Int) := by
      rw [Int.tdiv_eq_ediv_of_nonneg (by omega), i64_lt _ (by omega) (by omega)]; omega
    have em : (k : Int).tmod 4 = ((k % 4 : Nat) : Int) := by
      rw [Int.tmod_eq_emod_of_nonneg (by omega)]; omega
    rw [ed, em]
    have hC : C.getD (k / 4) 0 < 4294967296 := getD_lt clt (by decide) _
    refine ⟨by decide, _, rfl, by omega, by omega, (C.getD (k / 4) 0 : Nat), ?_, by decide, ?_⟩
    · rw [Int.toNat_natCast, Nat.mul_one, add_mk, Nat.zero_add]; exact Row32.cell (Ext.blk x12 r10) (by omega)
    refine ⟨fun x j h' => ∃ n : Nat, j = ((k % 4 + n : Nat) : Int) ∧ k % 4 + n ≤ 3 ∧ x = ((C.getD (k / 4) 0 / 256 ^ n : Nat) : Int) ∧ h' = h12, fun _ j _ => (3 - j).toNat, ⟨0, rfl, by omega, by simp, rfl⟩, ?_⟩
    rintro h13 _ _ ⟨n, rfl, hn, rfl, rfl⟩
    have hB : C.getD (k / 4) 0 / 256 ^ n < 4294967296 := Nat.lt_of_le_of_lt (Nat.div_le_self _ _) hC
    unfold F12_b27
    refine br_of (fun ht2 => ?_) (fun hf2 => ?_)
    · have hn3 : k % 4 + n < 3 := by
        have : ((k % 4 + n : Nat) : Int) < 3 := by simpa using ht2
        omega
      unfold F12_k28
      refine ⟨by decide, ⟨n + 1, ?_, by omega, ?_, rfl⟩, ?_⟩
      · rw [i64_lt _ (by omega) (by omega)]; omega
      · rw [Nat.pow_succ, ← Nat.div_div_eq_div_mul]
        generalize C.getD (k / 4) 0 / 256 ^ n = B at *
        rw [Int.tdiv_eq_ediv_of_nonneg (by omega), show (B : Int) / 256 = ((B / 256 : Nat) : Int) by omega, u32_lt _ (by omega)]
      · show (3 - IntKind.i64.wrap (((k % 4 + n : Nat) : Int) + 1)).toNat < (3 - ((k % 4 + n : Nat) : Int)).toNat
        rw [i64_lt _ (by omega) (by omega)]; omega
    · have hn3 : k % 4 + n = 3 := by
        have : ¬ ((k % 4 + n : Nat) : Int) < 3 := by simpa using hf2
        omega
      unfold F12_k29
      have ev : IntKind.u8.wrap (((C.getD (k / 4) 0 / 256 ^ n : Nat) : Int).tmod 256) = ((C.getD (k / 4) 0 >>> (24 - 8 * (k % 4)) % 256 : Nat) : Int) := by
        rw [Nat.shiftRight_eq_div_pow, show (2 : Nat) ^ (24 - 8 * (k % 4)) = 256 ^ n by rw [show (256 : Nat) = 2 ^ 8 from rfl, ← Nat.pow_mul]; congr 1; omega]
        generalize C.getD (k / 4) 0 / 256 ^ n = B at *
        rw [Int.tmod_eq_emod_of_nonneg (by omega), show (B : Int) % 256 = ((B % 256 : Nat) : Int) by omega, wrap8 _ (Nat.mod_lt _ (by decide))]
      rw [ev, Int.toNat_natCast, Nat.mul_one, at0_mk, add_mk, Nat.zero_add]
      refine ⟨by decide, by omega, by omega, ?_⟩
      refine storeK_one n12 (by simp [dg_len]; omega) (.inr (Nat.zero_le _)) rfl fun h14 b14 o14 => ?_
      unfold F12_k30
      have e1 : IntKind.i64.wrap ((k : Int) + 1) = ((k + 1 : Nat) : Int) := by rw [i64_lt _ (by omega) (by omega)]; omega
      rw [e1]
      refine ⟨⟨k + 1, rfl, by omega, ?_, o14.blk d12 (by omega), ?_⟩, by show (32 - ((k + 1 : Nat) : Int)).toNat < (32 - (k : Int)).toNat; omega⟩
      · rw [b14, List.setIfInBounds_toArray, ← dg_set C k hk32, List.map_set]; rfl
      · exact ⟨by rw [o14.size]; exact x12.size, fun i hi => (o14.block i (by omega)).trans (x12.block i hi)⟩
  · have hk32 : k = 32 := by
      have : ¬ (k : Int) < 32 := by simpa using hf
      omega
    subst hk32
    unfold F12_k31
    rw [dg_all] at n12
    refine ⟨_, by simp [digest], cells_blk0 n12, storeK_whole d12 (by simp [digest]) (by simp) (by simp [u8, one]) fun h13 b13 o13 => ⟨_, by simp [digest], cells_blk0 b13, rfl, ?_⟩⟩
    have x012 : Ext h h12 := x08.trans (x10.trans x12)
    exact ⟨by rw [o13.size]; exact x012.size, fun i hi => (o13.block i (by omega)).trans (x012.block i hi)⟩
end Go.Proofs.YtoheacfggalcbaaDoor
