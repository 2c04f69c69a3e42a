/- Chapter 3: what (Hash).Sum and Sum compute. -/
import Derived.Test.YtoheacfggalcbaaDoorShaC
namespace Go.Proofs.YtoheacfggalcbaaDoor
open Go.Vc Go.Sha
set_option linter.unusedVariables false

theorem bytes_one {h : Heap} {b p x : Nat} {t : TypeId} {fr : Nat × Nat} (hb : h[b]? = some (.cells #[u8 x] t fr)) (hx : x < 256) (hp : b ≠ p) : Bytes h p (some ⟨b, 0, none⟩) 1 1 [x] := by
  refine ⟨rfl, Nat.le_refl _, by simpa using hx, ?_, by rintro ⟨⟩⟩
  rintro ad ⟨⟩ _
  exact ⟨b, 0, rfl, hp, cells_blk0 hb⟩

/-- the first t bytes of the digest, then zeros -/
def dg (H : List Nat) (t : Nat) : List Nat := (List.range 32).map fun i => if i < t then H.getD (i / 4) 0 >>> (24 - 8 * (i % 4)) % 256 else 0
theorem dg_len (H : List Nat) (t : Nat) : (dg H t).length = 32 := by simp [dg]
theorem dg_set (H : List Nat) (t : Nat) (ht : t < 32) : (dg H t).set t (H.getD (t / 4) 0 >>> (24 - 8 * (t % 4)) % 256) = dg H (t + 1) := by
  apply List.ext_getElem (by simp [dg])
  intro i h1 h2
  simp only [dg, List.getElem_set, List.getElem_map, List.getElem_range]
  split
  · rename_i h; subst h; rw [if_pos (by omega)]
  · rename_i h
    by_cases hi : i < t
    · rw [if_pos hi, if_pos (by omega)]
    · rw [if_neg hi, if_neg (by omega)]
theorem dg_all (H : List Nat) : dg H 32 = digest H := by
  unfold dg digest
  apply List.map_congr_left
  intro i hi
  rw [if_pos (by simpa using hi)]
theorem dg_lt (H : List Nat) (t : Nat) : ∀ x ∈ dg H t, x < 256 := by
  intro x hx
  simp only [dg, List.mem_map] at hx
  obtain ⟨i, _, rfl⟩ := hx
  split
  · exact Nat.mod_lt _ (by decide)
  · decide
theorem dg_zero (H : List Nat) : dg H 0 = List.replicate 32 0 := by
  unfold dg; simp only [Nat.not_lt_zero, if_false]; rfl
theorem z24 : zeroC Tryd.prog 24 = ((List.replicate 32 0).map u8).toArray := by kernel_rfl
theorem lenBytes_len (n : Nat) : (lenBytes n).length = 8 := by simp [lenBytes]
theorem lenBytes_take (n k : Nat) (hk : k < 8) : (lenBytes n).take (k + 1) = (lenBytes n).take k ++ [(n * 8 % 18446744073709551616) >>> (56 - 8 * k) % 256] := by
  rw [List.take_succ_eq_append_getElem (by rw [lenBytes_len]; exact hk)]
  simp [lenBytes]

theorem Rep.n {h : Heap} {p : Nat} {bs : List Nat} (r : Rep h p bs) : Vc.cell h ⟨p, 73, none⟩ = some (.int .i64 bs.length) := by
  obtain ⟨L, h1, h2, h3, h4⟩ := r
  rw [cell_blk h3, List.getElem?_toArray, hash_n (comp_len _ _) h1]
/-- how far the Hash at p stands from n -/
def left (p n : Nat) (h : Heap) : Nat := match Vc.cell h ⟨p, 73, none⟩ with
  | some (.int _ k) => (n - k).toNat
  | _ => 0
theorem left_of {h : Heap} {p : Nat} {bs : List Nat} (r : Rep h p bs) (n : Nat) : left p n h = n - bs.length := by
  rw [left, r.n]
  show ((n : Int) - (bs.length : Int)).toNat = _
  omega
theorem Bytes.ext {h h' : Heap} {p : Nat} {a : Option Addr} {l c : Nat} {bs : List Nat} (x : Bytes h p a l c bs) (k : Ext h h') : Bytes h' p a l c bs := x.keep (k.keep _)

def zlen (bs : List Nat) : Nat := (119 - bs.length % 64) % 64
theorem u64_wrap (n : Nat) : IntKind.u64.wrap (n : Int) = ((n % 18446744073709551616 : Nat) : Int) := by
  simp [IntKind.wrap, IntKind.bits, IntKind.signed]
theorem shr64 (a k : Nat) (hk : k ≤ 64) : shrI .u64 (a : Int) k = ((a >>> k : Nat) : Int) := by
  unfold shrI
  rw [show min ((k : Int).toNat) IntKind.u64.bits = k from by simp [IntKind.bits]; omega, Nat.shiftRight_eq_div_pow]
  rw [Int.fdiv_eq_ediv_of_nonneg _ (by exact_mod_cast Nat.zero_le _)]
  simp

theorem hsum_ok (p : Nat) (bs : List Nat) (h : Heap) (hK : KAt h) (hr : Rep h p bs) (hlen : bs.length < 2 ^ 61) :
    HEnt Tryd.prog 16 #[.pointer (some ⟨p, 0, none⟩)] h fun v h' => v = .agg ((Sha.sum bs).map u8).toArray ∧ Ext h h' := by
  refine F16_ent _ _ _ ?_
  have hpl := hr.lt
  have h0l : 0 < h.size := hK.lt
  have hr0 := hr
  obtain ⟨L, hL, hL8, hp, hLt⟩ := hr
  have cl := comp_len bs (bs.length / 64)
  unfold F16
  refine newK_intro fun h1 n1 x1 s1 => newK_intro fun h2 n2 x2 s2 => ?_
  refine br_of (fun ht => by simp at ht) (fun hf => ?_)
  have x02 := x1.trans x2
  have hp2 : h2[p]? = some (.cells (hash (comp bs (bs.length / 64)) L bs.length).toArray 48 (0, 0)) := x02.blk hp
  refine ⟨_, rfl, true, ?_, ?_⟩
  · rw [add_mk, cell_blk hp2]; simp [hash]
  unfold F16_k1
  refine br_of (fun ht => by simp at ht) (fun hf => ?_)
  unfold F16_k2
  refine ⟨_, rfl, (hash (comp bs (bs.length / 64)) L bs.length).toArray, hash_len cl hL, cells_blk0 hp2, newK_intro fun h3 n3 x3 s3 => ?_⟩
  have z48 : (zeroC Tryd.prog 48).size = 74 := by kernel_rfl
  refine storeK_whole n3 (hash_len cl hL) z48 (by intro u hu; simp [hash] at hu; rcases hu with rfl | ⟨_, _, rfl⟩ | ⟨_, _, rfl⟩ | rfl <;> rfl) fun h4 b4 o4 => ?_
  have k4 : Keep (· = h2.size) h2 h4 := (x3.keep _).trans (o4.keep rfl)
  have hp4 : h4[p]? = _ := k4.blk hp2 (by have := blk_lt hp2; intro e; omega)
  refine ⟨_, rfl, bs.length, ?_, by decide, newK_intro fun h5 n5 x5 s5 => ?_⟩
  · rw [add_mk, cell_blk hp4, List.getElem?_toArray, hash_n cl hL]
  have k5 : Keep (· = h2.size) h2 h5 := k4.trans (x5.keep _)
  have s4 := o4.size
  have r5 : Rep h5 h2.size bs := ⟨L, hL, hL8, x5.blk b4, hLt⟩
  have hK2 : KAt h2 := hK.ext x02
  have x02s := x02.size
  refine HEnt.use (write_ok h2.size _ 1 1 bs [128] h5 (hK2.keep k5 (by omega)) r5 (bytes_one n5 (by decide) (by omega)) (by simp; omega)) ?_
  rintro _ h6 ⟨rfl, r6, k6⟩
  have k26 := k5.trans k6
  refine ⟨rfl, fun h' => ∃ j, j ≤ zlen bs ∧ Rep h' h2.size (bs ++ 128 :: List.replicate j 0) ∧ Keep (· = h2.size) h2 h', fun h' => left h2.size (bs.length + 65) h', ⟨0, by omega, r6, k26⟩, ?_⟩
  rintro h7 ⟨j, hj, r7, k7⟩
  have hz : zlen bs < 64 := Nat.mod_lt _ (by decide)
  have hzd : zlen bs = (119 - bs.length % 64) % 64 := rfl
  have len7 : (bs ++ 128 :: List.replicate j 0).length = bs.length + 1 + j := by simp; omega
  have m7 := left_of r7 (bs.length + 65)
  rw [len7] at m7
  unfold F16_b3
  refine ⟨((bs.length + 1 + j : Nat) : Int), ?_, by decide, ?_⟩
  · rw [at0_mk, add_mk, ← len7]; exact r7.n
  have e7 : (((bs.length + 1 + j : Nat) : Int)).tmod 64 = ((bs.length + 1 + j) % 64 : Nat) := by rw [Int.tmod_eq_emod_of_nonneg (by omega)]; omega
  rw [e7]
  refine br_of (fun ht => ?_) (fun hf => ?_)
  · have hne : (bs.length + 1 + j) % 64 ≠ 56 := by
      intro e; rw [e] at ht; simp at ht
    unfold F16_k4
    refine ⟨by decide, newK_intro fun h8 n8 x8 s8 => ?_⟩
    have k8 := k7.trans (x8.keep _)
    refine HEnt.use (write_ok h2.size _ 1 1 _ [0] h8 (hK2.keep k8 (by omega)) (r7.of (x8.block _ r7.lt)) (bytes_one n8 (by decide) (by have := r7.lt; omega)) (by rw [len7]; simp; omega)) ?_
    rintro _ h9 ⟨rfl, r9, k9⟩
    have r9' : Rep h9 h2.size (bs ++ 128 :: List.replicate (j + 1) 0) := by
      rw [List.replicate_succ', ← List.cons_append, ← List.append_assoc]; exact r9
    have m9 := left_of r9' (bs.length + 65)
    have len9 : (bs ++ 128 :: List.replicate (j + 1) 0).length = bs.length + 2 + j := by simp; omega
    rw [len9] at m9
    refine ⟨rfl, ⟨j + 1, by omega, r9', k8.trans k9⟩, ?_⟩
    show left _ _ h9 < left _ _ h7
    rw [m9, m7]; omega
  · have heq : (bs.length + 1 + j) % 64 = 56 := by
      have : ¬ (((bs.length + 1 + j) % 64 : Nat) : Int) ≠ 56 := by simpa using hf
      omega
    have hjz : j = zlen bs := by omega
    subst hjz
    unfold F16_k5
    refine ⟨fun i h' => ∃ k : Nat, i = k ∧ k ≤ 8 ∧ Rep h' h2.size ((bs ++ 128 :: List.replicate (zlen bs) 0) ++ (lenBytes bs.length).take k) ∧ Keep (· = h2.size) h2 h', fun i _ => (8 - i).toNat,
      ⟨0, rfl, by omega, by simpa using r7, k7⟩, ?_⟩
    rintro h8 _ ⟨k, rfl, hk, r8, k8⟩
    unfold F16_b6
    refine br_of (fun ht => ?_) (fun hf => ?_)
    · have hk8 : k < 8 := by
        have : (k : Int) < 8 := by simpa using ht
        omega
      unfold F16_k7
      have ew : IntKind.u64.wrap (56 - (IntKind.u64.wrap (8 * (IntKind.u64.wrap (k : Int))))) = ((56 - 8 * k : Nat) : Int) := by
        rw [u64_lt (k : Int) (by omega) (by omega), u64_lt (8 * (k : Int)) (by omega) (by omega), u64_lt _ (by omega) (by omega)]; omega
      have eb : IntKind.u64.wrap ((IntKind.u64.wrap (bs.length : Int)) * 8) = ((bs.length * 8 % 18446744073709551616 : Nat) : Int) := by
        rw [u64_lt (bs.length : Int) (by omega) (by omega), ← u64_wrap]; simp
      have e1 : IntKind.i64.wrap ((k : Int) + 1) = ((k + 1 : Nat) : Int) := by rw [i64_lt _ (by omega) (by omega)]; omega
      rw [ew, eb, shr64 _ _ (by omega), u8_wrap, e1]
      refine ⟨by omega, by decide, newK_intro fun h9 n9 x9 s9 => ?_⟩
      have k9 := k8.trans (x9.keep _)
      refine HEnt.use (write_ok h2.size _ 1 1 _ [(bs.length * 8 % 18446744073709551616) >>> (56 - 8 * k) % 256] h9 (hK2.keep k9 (by omega)) (r8.of (x9.block _ r8.lt)) (bytes_one n9 (Nat.mod_lt _ (by decide)) (by have := r8.lt; omega)) (by simp; omega)) ?_
      rintro _ h10 ⟨rfl, r10, k10⟩
      refine ⟨rfl, ⟨k + 1, rfl, by omega, ?_, k9.trans k10⟩, by show (8 - ((k + 1 : Nat) : Int)).toNat < (8 - (k : Int)).toNat; omega⟩
      rw [lenBytes_take _ _ hk8, ← List.append_assoc]; exact r10
    · have hk8 : k = 8 := by
        have : ¬ ((k : Int) < 8) := by simpa using hf
        omega
      subst hk8
      have hP : (bs ++ 128 :: List.replicate (zlen bs) 0) ++ (lenBytes bs.length).take 8 = padded bs := by
        rw [List.take_of_length_le (by rw [lenBytes_len]; omega)]; simp [padded, zlen]
      rw [hP] at r8
      obtain ⟨L', hL', hL8', hp8, hLt'⟩ := r8
      have cl8 := comp_len (padded bs) ((padded bs).length / 64)
      have clt := comp_lt (padded bs) ((padded bs).length / 64)
      have hS : Sha.sum bs = digest (comp (padded bs) ((padded bs).length / 64)) := rfl
      generalize comp (padded bs) ((padded bs).length / 64) = C at *
      rw [hS]
      unfold F16_k8
      have hb8 := blk_lt hp8
      have d8 : h8[h1.size]? = some (.cells (zeroC Tryd.prog 24) 24 (0, 0)) := k8.blk n2 (by intro e; omega)
      have d8' : h8[h.size]? = some (.cells (zeroC Tryd.prog 24) 24 (0, 0)) := k8.blk (x2.blk n1) (by intro e; omega)
      have z24 : zeroC Tryd.prog 24 = ((dg C 0).map u8).toArray := by rw [dg_zero, z24]
      rw [z24] at d8 d8'
      refine ⟨(C.map u32).toArray, by simp [cl8], ?_, fun i h' => ∃ k : Nat, i = k ∧ k ≤ 8 ∧ h'[h1.size]? = some (.cells ((dg C (4 * k)).map u8).toArray 24 (0, 0)) ∧ h'[h.size]? = some (.cells ((dg C 0).map u8).toArray 24 (0, 0)) ∧ Ext h h',
        fun i _ => (8 - i).toNat, ⟨0, rfl, by omega, d8, d8', x02.trans (k8.ext fun k hk e => by omega)⟩, ?_⟩
      · rw [at0_mk, add_mk]
        refine cells_blk hp8 fun i v hv => ?_
        simp only [List.getElem?_map, Option.map_eq_some_iff] at hv
        obtain ⟨x, hx, rfl⟩ := hv
        have hi : i < C.length := (List.getElem?_eq_some_iff.1 hx).1
        rw [Nat.zero_add, List.getElem?_toArray, hash_h i hi]
        simp [List.getD_eq_getElem?_getD, hx]
      rintro h9 _ ⟨k, rfl, hk, d9, d9', x9⟩
      unfold F16_b9
      refine br_of (fun ht => ?_) (fun hf => ?_)
      · have hk8 : k < 8 := by
          have : (k : Int) < 8 := by simpa using ht
          omega
        unfold F16_k10
        have e1 : IntKind.i64.wrap ((k : Int) + 1) = ((k + 1 : Nat) : Int) := by rw [i64_lt _ (by omega) (by omega)]; omega
        refine ⟨by omega, by omega, (C.getD k 0 : Nat), ?_, ?_⟩
        · rw [Int.toNat_natCast, Nat.mul_one, List.getElem?_toArray]; exact get_map u32 (by omega)
        refine ⟨fun i h' => ∃ j : Nat, i = j ∧ j ≤ 4 ∧ h'[h1.size]? = some (.cells ((dg C (4 * k + j)).map u8).toArray 24 (0, 0)) ∧ h'[h.size]? = some (.cells ((dg C 0).map u8).toArray 24 (0, 0)) ∧ Ext h h',
          fun i _ => (4 - i).toNat, ⟨0, rfl, by omega, d9, d9', x9⟩, ?_⟩
        rintro h10 _ ⟨j, rfl, hj4, d10, d10', x10⟩
        unfold F16_b11
        refine br_of (fun ht => ?_) (fun hf => ?_)
        · have hj4 : j < 4 := by
            have : (j : Int) < 4 := by simpa using ht
            omega
          unfold F16_k12
          have ew : IntKind.u64.wrap (24 - (IntKind.u64.wrap (8 * (IntKind.u64.wrap (j : Int))))) = ((24 - 8 * j : Nat) : Int) := by
            rw [u64_lt (j : Int) (by omega) (by omega), u64_lt (8 * (j : Int)) (by omega) (by omega), u64_lt _ (by omega) (by omega)]; omega
          have ei : IntKind.i64.wrap ((IntKind.i64.wrap (4 * (k : Int))) + (j : Int)) = ((4 * k + j : Nat) : Int) := by
            rw [i64_lt (4 * (k : Int)) (by omega) (by omega), i64_lt _ (by omega) (by omega)]; omega
          have e1 : IntKind.i64.wrap ((j : Int) + 1) = ((j + 1 : Nat) : Int) := by rw [i64_lt _ (by omega) (by omega)]; omega
          rw [ew, ei, e1, shr32 _ _ (by omega), u8_wrap, Int.toNat_natCast, Nat.mul_one, at0_mk, add_mk, Nat.zero_add]
          refine ⟨by omega, by omega, by omega, ?_⟩
          refine storeK_one d10 (by simp [dg_len]; omega) (.inr (Nat.zero_le _)) rfl fun h11 b11 o11 => ⟨⟨j + 1, rfl, by omega, ?_, o11.blk d10' (by omega), ?_⟩, by show (4 - ((j + 1 : Nat) : Int)).toNat < (4 - (j : Int)).toNat; omega⟩
          · rw [b11, List.setIfInBounds_toArray]
            have := dg_set C (4 * k + j) (by omega)
            rw [show (4 * k + j) / 4 = k by omega, show (4 * k + j) % 4 = j by omega] at this
            rw [show 4 * k + (j + 1) = 4 * k + j + 1 by omega, ← this, List.map_set]; rfl
          · exact ⟨by rw [o11.size]; exact x10.size, fun i hi => (o11.block i (by omega)).trans (x10.block i hi)⟩
        · have hj4 : j = 4 := by
            have : ¬ ((j : Int) < 4) := by simpa using hf
            omega
          subst hj4
          unfold F16_k13
          rw [e1]
          exact ⟨⟨k + 1, rfl, by omega, d10, d10', x10⟩, by show (8 - ((k + 1 : Nat) : Int)).toNat < (8 - (k : Int)).toNat; omega⟩
      · have hk8 : k = 8 := by
          have : ¬ ((k : Int) < 8) := by simpa using hf
          omega
        subst hk8
        unfold F16_k14
        refine ⟨((digest C).map u8).toArray, by simp [digest], ?_, ?_⟩
        · rw [show 4 * 8 = 32 from rfl, dg_all] at d9
          exact cells_blk0 d9
        refine storeK_whole d9' (by simp [digest]) (by simp [dg_len]) (by simp [u8, one]) fun h10 b10 o10 => ⟨((digest C).map u8).toArray, by simp [digest], cells_blk0 b10, rfl, ?_⟩
        exact ⟨by rw [o10.size]; exact x9.size, fun i hi => (o10.block i (by omega)).trans (x9.block i hi)⟩

theorem sum_ok (a : Option Addr) (l c : Nat) (bs : List Nat) (h : Heap) (hK : KAt h) (hb : ∀ p, h.size ≤ p → Bytes h p a l c bs) (hlen : bs.length < 2 ^ 61) :
    HEnt Tryd.prog 11 #[.slice a l c] h fun v h' => v = .agg ((Sha.sum bs).map u8).toArray ∧ Ext h h' := by
  refine F11_ent _ _ _ _ _ ?_
  have h0l : 0 < h.size := hK.lt
  unfold F11
  refine newK_intro fun h1 n1 x1 s1 => ?_
  refine HEnt.use (new_ok h1) ?_
  rintro _ h2 ⟨rfl, r2, x2, s2⟩
  refine ⟨_, rfl, ?_⟩
  have x12 := x1.trans x2
  refine HEnt.use (write_ok h1.size a l c [] bs h2 (hK.ext x12) r2 ((hb h1.size (by omega)).ext x12) (by simp; omega)) ?_
  rintro _ h3 ⟨rfl, r3, k3⟩
  have k13 : Keep (· = h1.size) h1 h3 := (x2.keep _).trans k3
  refine ⟨rfl, ?_⟩
  refine HEnt.use (hsum_ok h1.size bs h3 ((hK.ext x1).keep k13 (by omega)) r3 hlen) ?_
  rintro _ h4 ⟨rfl, x4⟩
  have k14 := k13.trans (x4.keep _)
  have n4 := k14.blk n1 (by omega)
  have z24 : (zeroC Tryd.prog 24).size = 32 := by kernel_rfl
  have l32 : (Sha.sum bs).length = 32 := by simp [Sha.sum, digest]
  refine ⟨_, by simp [l32], rfl, storeK_whole n4 (by simp [l32]) z24 (by simp [u8, one]) fun h5 b5 o5 => ?_⟩
  refine ⟨_, by simp [l32], cells_blk0 b5, rfl, ?_⟩
  have x14 : Ext h h4 := x1.trans (k14.ext fun k hk e => by omega)
  exact ⟨by rw [o5.size]; exact x14.size, fun i hi => (o5.block i (by omega)).trans (x14.block i hi)⟩
end Go.Proofs.YtoheacfggalcbaaDoor
