import Derived.Test.YtpnbbgcaaogpdaaDoorManShaD
import Derived.Test.YtpnbbgcaaogpdaaDoorVmpR
import Derived.Test.YtpnbbgcaaogpdaaDoorVcT

namespace Go.Proofs.YtpnbbgcaaogpdaaDoor.Sh
open Go.Vc Go.Sha
set_option linter.unusedVariables false
set_option maxRecDepth 20000

theorem rotr_add (x n : Nat) (hx : x < 4294967296) (h1 : 1 ≤ n) (h2 : n ≤ 31) : rotr x n = (x >>> n + (x <<< (32 - n)) % 4294967296) % 4294967296 := by
  have e : (x <<< (32 - n)) % 4294967296 = (x % 2 ^ n) <<< (32 - n) := by
    rw [Nat.shiftLeft_eq, Nat.shiftLeft_eq, show 4294967296 = 2 ^ n * 2 ^ (32 - n) by rw [← Nat.pow_add, show n + (32 - n) = 32 by omega], Nat.mul_mod_mul_right]
  have hs : x >>> n < 2 ^ (32 - n) := by
    rw [Nat.shiftRight_eq_div_pow]
    refine Nat.div_lt_of_lt_mul ?_
    rw [← Nat.pow_add, show n + (32 - n) = 32 by omega]; exact hx
  have o : rotr x n = (x % 2 ^ n) <<< (32 - n) + x >>> n := by
    unfold rotr
    rw [e, Nat.or_comm, ← Nat.shiftLeft_add_eq_or_of_lt hs]
  have hl := rotr_lt x n hx
  rw [e, Nat.add_comm, ← o, Nat.mod_eq_of_lt hl]
theorem rotRef_ok (x n : Nat) (hx : x < 4294967296) (h1 : 1 ≤ n) (h2 : n ≤ 31) (h : Heap) : HEnt Tryd.prog 42 #[.int .u32 x, .int .u64 n] h fun v h' => v = u32 (rotr x n) ∧ h' = h := by
  refine F42_ent _ _ _ _ ?_
  have e : IntKind.u64.wrap (32 - (n : Int)) = ((32 - n : Nat) : Int) := by
    rw [u64_lt _ (by omega) (by omega)]; omega
  unfold F42
  rw [e]
  refine ⟨by omega, by omega, ?_, rfl⟩
  rw [shl32 _ _ (by omega), shr32 _ _ (by omega), add32, ← rotr_add x n hx h1 h2]
  rfl
theorem table_ok (h : Heap) : HEnt Tryd.prog 41 #[] h fun v h' => v = .slice (some ⟨h.size, 0, none⟩) 64 64 ∧ Row32 h' h.size 72 Sha.K ∧ Ext h h' ∧ h'.size = h.size + 1 := by
  refine F41_ent _ _ ?_
  unfold F41
  refine ⟨by decide, newK_intro fun h1 n1 x1 s1 => ⟨rfl, ?_, x1, s1⟩⟩
  exact n1

theorem xor_all (e : Nat) (he : e < 4294967296) : 4294967295 ^^^ e = 4294967295 - e := by
  have h := congrArg BitVec.toNat (BitVec.allOnes_xor (x := BitVec.ofNat 32 e))
  rw [BitVec.toNat_xor, BitVec.toNat_not, BitVec.toNat_ofNat, Nat.mod_eq_of_lt (show e < 2 ^ 32 from he), BitVec.toNat_allOnes] at h
  exact h

/-- a word, byte by byte -/
def part (bk : List Nat) (k : Nat) : Nat → Nat
  | 0 => 0
  | j + 1 => part bk k j * 256 + bk.getD (4 * k + j) 0
theorem part_lt (bk : List Nat) (hb : ∀ x ∈ bk, x < 256) (k j : Nat) : part bk k j < 256 ^ j := by
  induction j with
  | zero => exact (by decide : 0 < 1)
  | succ j ih => have := getD_lt hb (by decide) (4 * k + j); rw [part, Nat.pow_succ]; omega
theorem part_word (bk : List Nat) (hb : ∀ x ∈ bk, x < 256) (k : Nat) : part bk k 4 = word bk k := by
  have g := fun j => getD_lt hb (by decide : 0 < 256) j
  unfold word
  have j1 : ∀ a b i : Nat, b < 256 → (a <<< (8 + i)) ||| (b <<< i) = (a * 256 + b) <<< i := fun a b i hb => by
    rw [Nat.shiftLeft_add, ← Nat.shiftLeft_or_distrib, ← Nat.shiftLeft_add_eq_or_of_lt (show b < 2 ^ 8 from hb), Nat.shiftLeft_eq a]
  have e1 := j1 (bk.getD (4 * k) 0) (bk.getD (4 * k + 1) 0) 16 (g _)
  have e2 := j1 (bk.getD (4 * k) 0 * 256 + bk.getD (4 * k + 1) 0) (bk.getD (4 * k + 2) 0) 8 (g _)
  have e3 := j1 ((bk.getD (4 * k) 0 * 256 + bk.getD (4 * k + 1) 0) * 256 + bk.getD (4 * k + 2) 0) (bk.getD (4 * k + 3) 0) 0 (g _)
  simp only [Nat.shiftLeft_zero, Nat.add_zero] at e3
  rw [show 24 = 8 + 16 from rfl, e1, show (16 : Nat) = 8 + 8 from rfl, e2, e3]
  simp only [part, Nat.add_zero, Nat.zero_mul, Nat.zero_add]
theorem w1_zero (bk : List Nat) : ∀ (k i : Nat), k ≤ i → (w1 bk k).getD i 0 = 0
  | 0, i, h => by
    rw [w1, List.getD_eq_getElem?_getD, List.getElem?_replicate]; split <;> rfl
  | k + 1, i, h => by
    rw [w1, List.getD_eq_getElem?_getD, List.getElem?_set_ne (by omega), ← List.getD_eq_getElem?_getD]
    exact w1_zero bk k i (by omega)
theorem set_getD (l : List Nat) (i : Nat) (hi : i < l.length) : l.set i (l.getD i 0) = l := by
  rw [List.getD_eq_getElem?_getD, List.getElem?_eq_getElem hi]; exact List.set_getElem_self hi
def wl (bk : List Nat) (k : Nat) : List Nat := if k ≤ 16 then w1 bk k else w2 bk (k - 16)
theorem wl_len (bk : List Nat) (k : Nat) : (wl bk k).length = 64 := by unfold wl; split; exact w1_len _ _; exact w2_len _ _
theorem wl_lt (bk : List Nat) (hb : ∀ x ∈ bk, x < 256) (k : Nat) : ∀ x ∈ wl bk k, x < 4294967296 := by unfold wl; split; exact w1_lt bk hb _; exact w2_lt bk hb _
theorem wl_w2 (bk : List Nat) (k : Nat) (hk : 16 ≤ k) : wl bk k = w2 bk (k - 16) := by
  unfold wl; split
  · have : k = 16 := by omega
    subst this; rfl
  · rfl
theorem add_all (H s : List Nat) (h1 : H.length = 8) : addTo s 8 H = [(H.getD 0 0 + s.getD 0 0) % 4294967296, (H.getD 1 0 + s.getD 1 0) % 4294967296, (H.getD 2 0 + s.getD 2 0) % 4294967296, (H.getD 3 0 + s.getD 3 0) % 4294967296, (H.getD 4 0 + s.getD 4 0) % 4294967296, (H.getD 5 0 + s.getD 5 0) % 4294967296, (H.getD 6 0 + s.getD 6 0) % 4294967296, (H.getD 7 0 + s.getD 7 0) % 4294967296] := by
  match H, h1 with
  | [a, b, c, d, e, f, g, i], _ => rfl
theorem made32 : mkCells (zeroC Tryd.prog 72) (64 * 1) = ((List.replicate 64 0).map u32).toArray := by kernel_rfl

theorem blockRef {I11 : Option Addr → Nat → Nat → Int → Heap → Prop} {M11 : Option Addr → Nat → Nat → Int → Heap → Nat} {m11 : Nat} {R : Value → Heap → Prop} {q2 : Addr} {c3 c5 c10 tb mb pb l5 q : Nat} {h : Heap} {P H : List Nat}
    (ht : Row32 h tb 72 Sha.K) (hp : CellsAt h ⟨mb, 0, none⟩ (P.map u8)) (hPl : P.length = l5) (hP : ∀ x ∈ P, x < 256) (hq : 64 * q + 64 ≤ P.length) (hlen : P.length < 2 ^ 50)
    (hH : Row32 h pb 72 H) (hH8 : H.length = 8) (hHlt : ∀ x ∈ H, x < 4294967296)
    (next : ∀ h' b', Ext h h' → Row32 h' b' 72 (Sha.block H ((P.drop (64 * q)).take 64)) → I11 (some ⟨b', 0, none⟩) 8 8 ((64 * (q + 1) : Nat) : Int) h' ∧ M11 (some ⟨b', 0, none⟩) 8 8 ((64 * (q + 1) : Nat) : Int) h' < m11) :
    F25_k12 I11 M11 m11 q2 (some ⟨tb, 0, none⟩) 64 c3 (some ⟨mb, 0, none⟩) l5 c5 (some ⟨pb, 0, none⟩) 8 c10 ((64 * q : Nat) : Int) h R := by
  have hbk : ∀ i, i < 64 → ((P.drop (64 * q)).take 64).getD i 0 = P.getD (64 * q + i) 0 := fun i hi => by
    rw [List.getD_eq_getElem?_getD, List.getElem?_take, if_pos hi, List.getElem?_drop, ← List.getD_eq_getElem?_getD]
  have hbl : ((P.drop (64 * q)).take 64).length = 64 := by rw [List.length_take, List.length_drop]; omega
  have hbb : ∀ x ∈ (P.drop (64 * q)).take 64, x < 256 := fun x hx => hP x (List.mem_of_mem_drop (List.mem_of_mem_take hx))
  generalize (P.drop (64 * q)).take 64 = bk at *
  unfold F25_k12
  refine ⟨by omega, by omega, by omega, by omega, newK_intro fun h1 n1 x1 s1 => ?_⟩
  rw [made32] at n1
  refine ⟨fun i h' => ∃ k : Nat, i = k ∧ k ≤ 64 ∧ Row32 h' h.size 72 (wl bk k) ∧ Ext h h', fun i _ => (64 - i).toNat, ⟨0, rfl, by omega, n1, x1⟩, ?_⟩
  rintro h2 _ ⟨k, rfl, hk, hw, hx⟩
  have wlen := wl_len bk k
  unfold F25_b13
  refine br_of (fun hb => ?_) (fun hb => ?_)
  · have hk64 : k < 64 := by
      have : (k : Int) < 64 := by simpa using hb
      omega
    have e1 : IntKind.i64.wrap ((k : Int) + 1) = ((k + 1 : Nat) : Int) := by rw [i64_lt _ (by omega) (by omega)]; omega
    unfold F25_k14
    refine br_of (fun hb2 => ?_) (fun hb2 => ?_)
    · have hk16 : k < 16 := by
        have : (k : Int) < 16 := by simpa using hb2
        omega
      have ew : wl bk k = (w1 bk k).set k (part bk k 0) := by
        unfold wl
        rw [if_pos (by omega), part, ← w1_zero bk k k (Nat.le_refl _), set_getD _ _ (by rw [w1_len]; omega)]
      rw [ew] at hw
      refine ⟨fun j h' => ∃ n : Nat, j = n ∧ n ≤ 4 ∧ Row32 h' h.size 72 ((w1 bk k).set k (part bk k n)) ∧ Ext h h', fun j _ => (4 - j).toNat, ⟨0, rfl, by omega, hw, hx⟩, ?_⟩
      rintro h3 _ ⟨n, rfl, hn, hw, hx⟩
      unfold F25_b15
      refine br_of (fun hb3 => ?_) (fun hb3 => ?_)
      · have hn4 : n < 4 := by
          have : (n : Int) < 4 := by simpa using hb3
          omega
        unfold F25_k16
        have ei : IntKind.i64.wrap ((IntKind.i64.wrap (((64 * q : Nat) : Int) + (IntKind.i64.wrap (4 * (k : Int))))) + (n : Int)) = ((64 * q + (4 * k + n) : Nat) : Int) := by
          rw [i64_lt (4 * (k : Int)) (by omega) (by omega), i64_lt (((64 * q : Nat) : Int) + 4 * (k : Int)) (by omega) (by omega), i64_lt _ (by omega) (by omega)]; omega
        have en : IntKind.i64.wrap ((n : Int) + 1) = ((n + 1 : Nat) : Int) := by rw [i64_lt _ (by omega) (by omega)]; omega
        simp only [ei, en, Int.toNat_natCast, mul1]
        have hpl := part_lt bk hbb k n
        have hp3 : 256 ^ n ≤ 256 ^ 3 := Nat.pow_le_pow_right (by decide) (by omega)
        have hp4 : part bk k n < 16777216 := Nat.lt_of_lt_of_le hpl hp3
        have hc := hw.cell (i := k) (by rw [List.length_set, w1_len]; omega)
        have eg : ((w1 bk k).set k (part bk k n)).getD k 0 = part bk k n := by
          rw [List.getD_eq_getElem?_getD, List.getElem?_set_self (by rw [w1_len]; omega)]; rfl
        rw [eg] at hc
        have hby : bk.getD (4 * k + n) 0 < 256 := getD_lt hbb (by decide) _
        refine ⟨_, rfl, by omega, by omega, (part bk k n : Nat), by rw [at0_mk, add_mk, Nat.zero_add]; exact hc, _, rfl, by omega, by omega, (bk.getD (4 * k + n) 0 : Nat), ?_, _, rfl, by omega, by omega, ?_⟩
        · rw [hbk _ (by omega)]
          have := (hp.ext hx) (64 * q + (4 * k + n)) _ (get_map u8 (by omega))
          rw [add_mk, Nat.zero_add] at this
          rw [add_mk, Nat.zero_add]; exact this
        intro h4 hcl; obtain rfl := hcl.eq
        have ev : IntKind.u32.wrap ((IntKind.u32.wrap ((part bk k n : Int) * 256)) + (IntKind.u32.wrap ((bk.getD (4 * k + n) 0 : Nat) : Int))) = ((part bk k (n + 1) : Nat) : Int) := by
          rw [part]
          rw [show (part bk k n : Int) * 256 = ((part bk k n * 256 : Nat) : Int) by omega, u32_lt _ (by omega), u32_lt _ (by omega), ← Int.natCast_add, u32_lt _ (by omega)]
        rw [ev, at0_mk, add_mk, Nat.zero_add]
        refine hw.set (by rw [List.length_set, w1_len]; omega) _ fun h5 r5 o5 => ⟨⟨n + 1, rfl, by omega, ?_, ?_⟩, by show (4 - ((n + 1 : Nat) : Int)).toNat < (4 - (n : Int)).toNat; omega⟩
        · rw [List.set_set] at r5; exact r5
        · exact ⟨by rw [o5.size]; exact hx.size, fun i hi => (o5.block i (by omega)).trans (hx.block i hi)⟩
      · have hn4 : n = 4 := by
          have : ¬ (n : Int) < 4 := by simpa using hb3
          omega
        subst hn4
        unfold F25_k17
        rw [e1]
        refine ⟨⟨k + 1, rfl, by omega, ?_, hx⟩, by show (64 - ((k + 1 : Nat) : Int)).toNat < (64 - (k : Int)).toNat; omega⟩
        rw [part_word bk hbb] at hw
        unfold wl; rw [if_pos (by omega)]; exact hw
    · have hk16 : 16 ≤ k := by
        have : ¬ (k : Int) < 16 := by simpa using hb2
        omega
      unfold F25_k18
      rw [wl_w2 bk k hk16] at hw
      have len := w2_len bk (k - 16)
      have g := fun i => getD_lt (w2_lt bk hbb (k - 16)) (by decide) i
      have e15 : IntKind.i64.wrap ((k : Int) - 15) = ((k - 15 : Nat) : Int) := by rw [i64_lt _ (by omega) (by omega)]; omega
      have e2 : IntKind.i64.wrap ((k : Int) - 2) = ((k - 2 : Nat) : Int) := by rw [i64_lt _ (by omega) (by omega)]; omega
      have e16 : IntKind.i64.wrap ((k : Int) - 16) = ((k - 16 : Nat) : Int) := by rw [i64_lt _ (by omega) (by omega)]; omega
      have e7 : IntKind.i64.wrap ((k : Int) - 7) = ((k - 7 : Nat) : Int) := by rw [i64_lt _ (by omega) (by omega)]; omega
      simp only [e15, e2, e16, e7, Int.toNat_natCast, mul1]
      have cc : ∀ i, i < 64 → Vc.cell h2 ((⟨h.size, 0, none⟩ : Addr).add i) = some (u32 ((w2 bk (k - 16)).getD i 0)) := fun i hi => by rw [add_mk, Nat.zero_add]; exact hw.cell (by omega)
      refine ⟨_, rfl, by omega, by omega, _, cc _ (by omega), _, fun h6 _ => rotRef_ok _ 7 (g _) (by decide) (by decide) h6, _, rfl, by omega, by omega, _, cc _ (by omega), _, fun h6 _ => rotRef_ok _ 18 (g _) (by decide) (by decide) h6,
        _, rfl, by omega, by omega, _, cc _ (by omega), by decide, ?_⟩
      intro h4 hcl; obtain rfl := hcl.eq
      refine ⟨_, rfl, by omega, by omega, _, cc _ (by omega), _, fun h6 _ => rotRef_ok _ 17 (g _) (by decide) (by decide) h6, _, rfl, by omega, by omega, _, cc _ (by omega), _, fun h6 _ => rotRef_ok _ 19 (g _) (by decide) (by decide) h6,
        _, rfl, by omega, by omega, _, cc _ (by omega), by decide, ?_⟩
      intro h4 hcl; obtain rfl := hcl.eq
      refine ⟨_, rfl, by omega, by omega, _, cc _ (by omega), _, rfl, by omega, by omega, _, cc _ (by omega), _, rfl, by omega, by omega, ?_⟩
      intro h4 hcl; obtain rfl := hcl.eq
      have dv : ∀ a b : Nat, a < 4294967296 → 0 < b → IntKind.u32.wrap ((a : Int).tdiv (b : Int)) = ((a / b : Nat) : Int) := fun a b ha hb => by
        rw [Int.tdiv_eq_ediv_of_nonneg (by omega), ← Int.natCast_ediv, u32_lt _ (Nat.lt_of_le_of_lt (Nat.div_le_self _ _) ha)]
      have d8 := dv ((w2 bk (k - 16)).getD (k - 15) 0) 8 (g _) (by decide)
      have d1024 := dv ((w2 bk (k - 16)).getD (k - 2) 0) 1024 (g _) (by decide)
      simp only [Int.cast_ofNat_Int] at d8 d1024
      have x32 : ∀ a b, a < 4294967296 → b < 4294967296 → a ^^^ b < 4294967296 := fun a b h1 h2 => Nat.xor_lt_two_pow (n := 32) h1 h2
      have dlt : ∀ a b : Nat, a < 4294967296 → a / b < 4294967296 := fun a b ha => Nat.lt_of_le_of_lt (Nat.div_le_self _ _) ha
      rw [add_mk, Nat.zero_add, d8, d1024, xor32 _ _ (rotr_lt _ _ (g _)) (rotr_lt _ _ (g _)), xor32 _ _ (x32 _ _ (rotr_lt _ _ (g _)) (rotr_lt _ _ (g _))) (dlt _ _ (g _)), xor32 _ _ (rotr_lt _ _ (g _)) (rotr_lt _ _ (g _)), xor32 _ _ (x32 _ _ (rotr_lt _ _ (g _)) (rotr_lt _ _ (g _))) (dlt _ _ (g _)), add32, add32, add32]
      refine hw.set (by omega) _ fun h5 r5 o5 => ?_
      unfold F25_k17
      rw [e1]
      refine ⟨⟨k + 1, rfl, by omega, ?_, ?_⟩, by show (64 - ((k + 1 : Nat) : Int)).toNat < (64 - (k : Int)).toNat; omega⟩
      · rw [wl_w2 bk (k + 1) (by omega), show k + 1 - 16 = (k - 16) + 1 by omega, w2, show 16 + (k - 16) = k by omega]
        unfold wNext
        have s3 : ∀ a, a / 8 = a >>> 3 := fun a => by rw [Nat.shiftRight_eq_div_pow]
        have s10 : ∀ a, a / 1024 = a >>> 10 := fun a => by rw [Nat.shiftRight_eq_div_pow]
        rw [s3, s10] at r5
        refine Eq.mp ?_ r5
        congr 2
        omega
      · exact ⟨by rw [o5.size]; exact hx.size, fun i hi => (o5.block i (by omega)).trans (hx.block i hi)⟩
  · have hk64 : k = 64 := by
      have : ¬ (k : Int) < 64 := by simpa using hb
      omega
    subst hk64
    rw [wl_w2 bk 64 (by omega)] at hw
    have hw' : Row32 h2 h.size 72 (words bk) := hw
    have wlt := w2_lt bk hbb 48
    have wln := w2_len bk 48
    have hH2 : Row32 h2 pb 72 H := hx.blk hH
    have ht2 : Row32 h2 tb 72 Sha.K := hx.blk ht
    have cH : ∀ i, i < 8 → Vc.cell h2 ((⟨pb, 0, none⟩ : Addr).add i) = some (u32 (H.getD i 0)) := fun i hi => by rw [add_mk, Nat.zero_add]; exact hH2.cell (by omega)
    unfold F25_k19
    simp only [mul1]
    refine ⟨_, rfl, by omega, by omega, _, cH 0 (by omega), _, rfl, by omega, by omega, _, cH 1 (by omega), _, rfl, by omega, by omega, _, cH 2 (by omega), _, rfl, by omega, by omega, _, cH 3 (by omega),
      _, rfl, by omega, by omega, _, cH 4 (by omega), _, rfl, by omega, by omega, _, cH 5 (by omega), _, rfl, by omega, by omega, _, cH 6 (by omega), _, rfl, by omega, by omega, _, cH 7 (by omega), ?_⟩
    intro h4 hcl; obtain rfl := hcl.eq
    refine ⟨fun a b c d e f g o i h' => ∃ k : Nat, i = k ∧ k ≤ 64 ∧ a = ((rounds (words bk) H k).getD 0 0 : Nat) ∧ b = ((rounds (words bk) H k).getD 1 0 : Nat) ∧ c = ((rounds (words bk) H k).getD 2 0 : Nat) ∧ d = ((rounds (words bk) H k).getD 3 0 : Nat) ∧
        e = ((rounds (words bk) H k).getD 4 0 : Nat) ∧ f = ((rounds (words bk) H k).getD 5 0 : Nat) ∧ g = ((rounds (words bk) H k).getD 6 0 : Nat) ∧ o = ((rounds (words bk) H k).getD 7 0 : Nat) ∧ h' = h4,
      fun _ _ _ _ _ _ _ _ i _ => (64 - i).toNat, ⟨0, rfl, by omega, rfl, rfl, rfl, rfl, rfl, rfl, rfl, rfl, rfl⟩, ?_⟩
    rintro h5 _ _ _ _ _ _ _ _ _ ⟨k, rfl, hk, rfl, rfl, rfl, rfl, rfl, rfl, rfl, rfl, rfl⟩
    have slt := rounds_lt (words bk) H hHlt k
    have g := fun i => getD_lt slt (by decide) i
    unfold F25_b20
    refine br_of (fun hb => ?_) (fun hb => ?_)
    · have hk64 : k < 64 := by
        have : (k : Int) < 64 := by simpa using hb
        omega
      have e1 : IntKind.i64.wrap ((k : Int) + 1) = ((k + 1 : Nat) : Int) := by rw [i64_lt _ (by omega) (by omega)]; omega
      unfold F25_k21
      have hS1 : rounds (words bk) H (k + 1) = rnd (words bk) (rounds (words bk) H k) k := rfl
      generalize rounds (words bk) H k = S at *
      have cK : Vc.cell h5 ((⟨tb, 0, none⟩ : Addr).add ((k : Int).toNat * 1)) = some (u32 (Sha.K.getD k 0)) := by rw [Int.toNat_natCast, Nat.mul_one, add_mk, Nat.zero_add]; exact ht2.cell (by simp [Sha.K]; omega)
      have cW : Vc.cell h5 ((⟨h.size, 0, none⟩ : Addr).add ((k : Int).toNat * 1)) = some (u32 ((words bk).getD k 0)) := by rw [Int.toNat_natCast, Nat.mul_one, add_mk, Nat.zero_add]; exact hw'.cell (by rw [words, wln]; omega)
      refine ⟨_, fun h6 _ => rotRef_ok _ 6 (g _) (by decide) (by decide) h6, _, fun h6 _ => rotRef_ok _ 11 (g _) (by decide) (by decide) h6, _, fun h6 _ => rotRef_ok _ 25 (g _) (by decide) (by decide) h6,
        _, rfl, by omega, by omega, _, cK, _, rfl, by omega, by omega, _, cW, ?_⟩
      intro h6 hcl; obtain rfl := hcl.eq
      refine HEnt.use (rotRef_ok _ 2 (g 0) (by decide) (by decide) h6) ?_
      rintro _ _ ⟨rfl, rfl⟩
      refine ⟨_, rfl, HEnt.use (rotRef_ok _ 13 (g 0) (by decide) (by decide) _) ?_⟩
      rintro _ _ ⟨rfl, rfl⟩
      refine ⟨_, rfl, HEnt.use (rotRef_ok _ 22 (g 0) (by decide) (by decide) _) ?_⟩
      rintro _ _ ⟨rfl, rfl⟩
      refine ⟨_, rfl, ?_⟩
      have x32 : ∀ a b, a < 4294967296 → b < 4294967296 → a ^^^ b < 4294967296 := fun a b h1 h2 => Nat.xor_lt_two_pow (n := 32) h1 h2
      have a32 : ∀ a b, b < 4294967296 → a &&& b < 4294967296 := fun a b h2 => Nat.and_lt_two_pow (n := 32) _ h2
      have r32 := fun i n => rotr_lt _ n (g i)
      have nt : IntKind.u32.wrap (4294967295 - (S.getD 4 0 : Nat)) = ((4294967295 ^^^ S.getD 4 0 : Nat) : Int) := by
        have := g 4
        rw [xor_all _ this, show (4294967295 - ((S.getD 4 0 : Nat) : Int)) = ((4294967295 - S.getD 4 0 : Nat) : Int) by omega, u32_lt _ (by omega)]
      have nlt : 4294967295 ^^^ S.getD 4 0 < 4294967296 := x32 _ _ (by decide) (g 4)
      rw [nt, xor32 _ _ (r32 4 6) (r32 4 11), xor32 _ _ (x32 _ _ (r32 4 6) (r32 4 11)) (r32 4 25), and32 _ _ (g 4) (g 5), and32 _ _ nlt (g 6), xor32 _ _ (a32 _ _ (g 5)) (a32 _ _ (g 6)),
        xor32 _ _ (r32 0 2) (r32 0 13), xor32 _ _ (x32 _ _ (r32 0 2) (r32 0 13)) (r32 0 22), and32 _ _ (g 0) (g 1), and32 _ _ (g 0) (g 2), and32 _ _ (g 1) (g 2), xor32 _ _ (a32 _ _ (g 1)) (a32 _ _ (g 2)), xor32 _ _ (x32 _ _ (a32 _ _ (g 1)) (a32 _ _ (g 2))) (a32 _ _ (g 2))]
      simp only [add32, e1]
      refine ⟨⟨k + 1, rfl, by omega, ?_⟩, by show (64 - ((k + 1 : Nat) : Int)).toNat < (64 - (k : Int)).toNat; omega⟩
      rw [hS1]
      exact ⟨rfl, rfl, rfl, rfl, rfl, rfl, rfl, rfl, trivial⟩
    · have hk64 : k = 64 := by
        have : ¬ (k : Int) < 64 := by simpa using hb
        omega
      subst hk64
      unfold F25_k22
      simp only [mul1]
      have eb : Sha.block H bk = addTo (rounds (words bk) H 64) 8 H := rfl
      rw [add_all H _ hH8] at eb
      generalize rounds (words bk) H 64 = S at *
      refine ⟨_, rfl, by omega, by omega, _, cH 0 (by omega), _, rfl, by omega, by omega, _, cH 1 (by omega), _, rfl, by omega, by omega, _, cH 2 (by omega), _, rfl, by omega, by omega, _, cH 3 (by omega),
        _, rfl, by omega, by omega, _, cH 4 (by omega), _, rfl, by omega, by omega, _, cH 5 (by omega), _, rfl, by omega, by omega, _, cH 6 (by omega), _, rfl, by omega, by omega, _, cH 7 (by omega), ?_⟩
      intro h6 hcl; obtain rfl := hcl.eq
      refine ⟨by decide, newK_intro fun h7 n7 x7 s7 => ?_⟩
      unfold F25_k23
      have en : IntKind.i64.wrap (((64 * q : Nat) : Int) + 64) = ((64 * (q + 1) : Nat) : Int) := by rw [i64_lt _ (by omega) (by omega)]; omega
      rw [en]
      refine next h7 _ (hx.trans x7) ?_
      rw [eb]
      simp only [add32] at n7
      exact n7
end Go.Proofs.YtpnbbgcaaogpdaaDoor.Sh

namespace Go.Proofs.YtpnbbgcaaogpdaaDoor.Sh
open Go.Vc Go.Sha
set_option linter.unusedVariables false
set_option maxRecDepth 20000

structure In (h0 : Heap) (a : Option Addr) (l c : Nat) (bs : List Nat) : Prop where
  len : bs.length = l
  cap : l ≤ c
  lt : ∀ x ∈ bs, x < 256
  at_ : ∀ ad, a = some ad → bs ≠ [] → ∃ b o, ad = ⟨b, o, none⟩ ∧ b < h0.size ∧ CellsAt h0 ⟨b, o, none⟩ (bs.map u8)
  nil : a = none → bs = []
theorem In.bytes {h0 h : Heap} {a : Option Addr} {l c p : Nat} {bs : List Nat} (i : In h0 a l c bs) (x : Ext h0 h) (hp : h0.size ≤ p) : Bytes h p a l c bs :=
  ⟨i.len, i.cap, i.lt, fun ad e hne => by
    obtain ⟨b, o, e1, e2, e3⟩ := i.at_ ad e hne
    exact ⟨b, o, e1, by omega, e3.ext x⟩, i.nil⟩
theorem In.src {h0 h : Heap} {a : Option Addr} {l c : Nat} {bs : List Nat} (i : In h0 a l c bs) (x : Ext h0 h) : srcK h 1 (.slice a l c) l (bs.map u8) := by
  refine srcK_slice (by simp [i.len]) (fun ad e => ?_) (fun e => by simp [i.nil e])
  by_cases hne : bs = []
  · subst hne; intro j v hv; simp at hv
  obtain ⟨b, o, rfl, e2, e3⟩ := i.at_ ad e hne
  exact e3.ext x

theorem cells5 : Tryd.prog.cellsOf 5 = 1 := by kernel_rfl
theorem zero5 : (((Tryd.prog.info? 5).bind (·.zero)).getD undef).cells.size = 1 := by kernel_rfl
theorem bytes5 : Tryd.prog.bytesOf 5 = 1 := by kernel_rfl
theorem wrap8 (n : Nat) (h : n < 256) : IntKind.u8.wrap (n : Int) = (n : Int) := by rw [u8_wrap, Nat.mod_eq_of_lt h]
theorem padded_len (bs : List Nat) : ∃ q, (padded bs).length = 64 * q ∧ bs.length + 1 + zlen bs + 8 = 64 * q := by
  have e : (padded bs).length = bs.length + 1 + zlen bs + 8 := by simp [padded, zlen, lenBytes_len]; omega
  have hz : zlen bs = (119 - bs.length % 64) % 64 := rfl
  exact ⟨(bs.length + 1 + zlen bs + 8) / 64, by rw [e]; omega, by omega⟩

theorem refSum_ok (a : Option Addr) (l c : Nat) (bs : List Nat) (h0 h : Heap) (ib : In h0 a l c bs) (hx0 : Ext h0 h) (hlen : bs.length < 2 ^ 40) :
    HEnt Tryd.prog 25 #[.slice a l c] h fun v h' => v = .agg ((Sha.sum bs).map u8).toArray ∧ Ext h h' := by
  refine F25_ent _ _ _ _ _ ?_
  have hl := ib.len
  unfold F25
  refine newK_intro fun h1 n1 x1 s1 => HEnt.use (table_ok h1) ?_
  rintro _ h2 ⟨rfl, t2, x2, s2⟩
  refine ⟨_, _, _, rfl, by decide, newK_intro fun h3 n3 x3 s3 => ?_⟩
  have o3 : Own 5 h3 h2.size (some ⟨h2.size, 0, none⟩) 0 0 [] := Own.new (cs := #[]) n3 (Nat.le_refl _)
  have x03 : Ext h h3 := x1.trans (x2.trans x3)
  refine appK_own cells5 zero5 o3 (by omega) (ib.src (hx0.trans x03)) (by simp [hl]) (by simp [u8, one]) (by rw [bytes5]; omega) fun a4 c4 h4 o4 k34 => ⟨by decide, newK_intro fun h5 n5 x5 s5 => ?_⟩
  have sz34 := k34.size
  have k35 : Keep (h2.size ≤ ·) h3 h5 := k34.trans (x5.keep _)
  refine appK_own (m := 1) (news := [u8 128]) cells5 zero5 (o4.ext x5) (by omega) (srcK_slice rfl (fun ad e => by cases e; exact cells_blk0 n5) (by rintro ⟨⟩)) rfl (by simp [u8, one]) (by rw [bytes5]; omega) fun a6 c6 h6 o6 k56 => ?_
  have k36 := k35.trans k56
  have x36 : Ext h2 h6 := (Keep.trans (x3.keep _) k36).ext fun i hi e => by omega
  have hz : zlen bs < 64 := Nat.mod_lt _ (by decide)
  have hzd : zlen bs = (119 - bs.length % 64) % 64 := rfl
  have o6' : Own 5 h6 h2.size a6 (bs.length + 1 + 0) c6 ((bs ++ 128 :: List.replicate 0 0).map u8) := by
    have : (bs ++ 128 :: List.replicate 0 0).map u8 = [] ++ bs.map u8 ++ [u8 128] := by simp
    rw [this, show bs.length + 1 + 0 = 0 + l + 1 by omega]; exact o6
  refine ⟨fun a' l' c' h' => ∃ j, j ≤ zlen bs ∧ l' = bs.length + 1 + j ∧ Own 5 h' h2.size a' l' c' ((bs ++ 128 :: List.replicate j 0).map u8) ∧ Ext h2 h', fun _ l' _ _ => bs.length + 1 + 64 - l', ⟨0, by omega, by omega, (by rw [show 0 + l + 1 = bs.length + 1 + 0 by omega]; exact o6'), x36⟩, ?_⟩
  rintro h7 a7 _ c7 ⟨j, hj, rfl, o7, x7⟩
  unfold F25_b1
  have et : (((bs.length + 1 + j : Nat) : Int)).tmod 64 = ((bs.length + 1 + j) % 64 : Nat) := by rw [Int.tmod_eq_emod_of_nonneg (by omega)]; omega
  rw [et]
  refine ⟨by decide, br_of (fun ht => ?_) (fun hf => ?_)⟩
  · have hne : (bs.length + 1 + j) % 64 ≠ 56 := by
      intro e; rw [e] at ht; simp at ht
    unfold F25_k2
    refine ⟨by decide, newK_intro fun h8 n8 x8 s8 => ?_⟩
    have sz7 := x7.size
    refine appK_own (m := 1) (news := [u8 0]) cells5 zero5 (o7.ext x8) (by omega) (srcK_slice rfl (fun ad e => by cases e; exact cells_blk0 n8) (by rintro ⟨⟩)) rfl (by simp [u8, one]) (by rw [bytes5]; omega) fun a9 c9 h9 o9 k89 => ?_
    refine ⟨⟨j + 1, by omega, by omega, ?_, ?_⟩, by show bs.length + 1 + 64 - (bs.length + 1 + j + 1) < bs.length + 1 + 64 - (bs.length + 1 + j); omega⟩
    · have : (bs ++ 128 :: List.replicate (j + 1) 0).map u8 = (bs ++ 128 :: List.replicate j 0).map u8 ++ [u8 0] := by
        rw [List.replicate_succ', ← List.cons_append, ← List.append_assoc, List.map_append]; rfl
      rw [this]; exact o9
    · exact (Keep.trans ((x7.trans x8).keep _) k89).ext fun i hi e => by omega
  have heq : (bs.length + 1 + j) % 64 = 56 := by
    have : ¬ (((bs.length + 1 + j) % 64 : Nat) : Int) ≠ 56 := by simpa using hf
    omega
  have hjz : j = zlen bs := by omega
  subst hjz
  unfold F25_k3
  have eb : IntKind.u64.wrap ((IntKind.u64.wrap (l : Int)) * 8) = ((bs.length * 8 % 18446744073709551616 : Nat) : Int) := by
    rw [u64_lt (l : Int) (by omega) (by omega), ← u64_wrap, ← hl]; simp
  rw [eb]
  have hN : bs.length * 8 % 18446744073709551616 = bs.length * 8 := Nat.mod_eq_of_lt (by omega)
  refine ⟨fun a' l' c' i h' => ∃ k : Nat, i = 7 - (k : Int) ∧ k ≤ 8 ∧ l' = bs.length + 1 + zlen bs + k ∧ Own 5 h' h2.size a' l' c' (((bs ++ 128 :: List.replicate (zlen bs) 0) ++ (lenBytes bs.length).take k).map u8) ∧ Ext h2 h', fun _ _ _ i _ => (i + 1).toNat,
    ⟨0, rfl, by omega, rfl, by simpa using o7, x7⟩, ?_⟩
  rintro h8 a8 _ c8 _ ⟨k, rfl, hk, rfl, o8, x8⟩
  unfold F25_b4
  refine br_of (fun ht => ?_) (fun hf => ?_)
  · have hk8 : k < 8 := by
      have : 7 - (k : Int) ≥ 0 := by simpa using ht
      omega
    unfold F25_k5
    refine ⟨fun x j h' => ∃ n : Nat, j = n ∧ n ≤ 7 - k ∧ x = ((bs.length * 8 % 18446744073709551616 / 256 ^ n : Nat) : Int) ∧ h' = h8, fun _ j _ => (8 - j).toNat, ⟨0, rfl, by omega, by simp, rfl⟩, ?_⟩
    rintro h9 _ _ ⟨n, rfl, hn, rfl, rfl⟩
    have hdl : bs.length * 8 % 18446744073709551616 / 256 ^ n ≤ bs.length * 8 := Nat.le_trans (Nat.div_le_self _ _) (Nat.mod_le _ _)
    unfold F25_b6
    refine br_of (fun ht2 => ?_) (fun hf2 => ?_)
    · have hn7 : n < 7 - k := by
        have : (n : Int) < 7 - (k : Int) := by simpa using ht2
        omega
      unfold F25_k7
      refine ⟨by decide, ⟨n + 1, ?_, by omega, ?_, rfl⟩, ?_⟩
      · rw [i64_lt _ (by omega) (by omega)]; omega
      · rw [Nat.pow_succ, ← Nat.div_div_eq_div_mul]
        generalize bs.length * 8 % 18446744073709551616 / 256 ^ n = B at *
        rw [Int.tdiv_eq_ediv_of_nonneg (by omega), u64_lt _ (by omega) (by omega)]; omega
      · show (8 - IntKind.i64.wrap ((n : Int) + 1)).toNat < (8 - (n : Int)).toNat
        rw [i64_lt _ (by omega) (by omega)]; omega
    · have hn7 : n = 7 - k := by
        have : ¬ (n : Int) < 7 - (k : Int) := by simpa using hf2
        omega
      unfold F25_k8
      have ev : IntKind.u8.wrap (((bs.length * 8 % 18446744073709551616 / 256 ^ n : Nat) : Int).tmod 256) = (((bs.length * 8 % 18446744073709551616) >>> (56 - 8 * k) % 256 : Nat) : Int) := by
        rw [Nat.shiftRight_eq_div_pow, show (2 : Nat) ^ (56 - 8 * k) = 256 ^ n by rw [show (256 : Nat) = 2 ^ 8 from rfl, ← Nat.pow_mul]; congr 1; omega]
        generalize bs.length * 8 % 18446744073709551616 / 256 ^ n = B at *
        rw [Int.tmod_eq_emod_of_nonneg (by omega), show (B : Int) % 256 = ((B % 256 : Nat) : Int) by omega, wrap8 _ (Nat.mod_lt _ (by decide))]
      rw [ev]
      refine ⟨by decide, by decide, newK_intro fun h10 n10 x10 s10 => ?_⟩
      have sz8 := x8.size
      refine appK_own (m := 1) (news := [u8 ((bs.length * 8 % 18446744073709551616) >>> (56 - 8 * k) % 256)]) cells5 zero5 (o8.ext x10) (by omega) (srcK_slice rfl (fun ad e => by cases e; exact cells_blk0 n10) (by rintro ⟨⟩)) rfl (by simp [u8, one]) (by rw [bytes5]; omega) fun a11 c11 h11 o11 k1011 => ?_
      unfold F25_k9
      refine ⟨⟨k + 1, ?_, by omega, by omega, ?_, ?_⟩, ?_⟩
      · rw [i64_lt _ (by omega) (by omega)]; omega
      · rw [lenBytes_take _ _ hk8, ← List.append_assoc, List.map_append (l₂ := [_])]; exact o11
      · exact (Keep.trans ((x8.trans x10).keep _) k1011).ext fun i hi e => by omega
      · show (IntKind.i64.wrap (7 - (k : Int) - 1) + 1).toNat < (7 - (k : Int) + 1).toNat
        rw [i64_lt _ (by omega) (by omega)]; omega
  have hk8 : k = 8 := by
    have : ¬ 7 - (k : Int) ≥ 0 := by simpa using hf
    omega
  subst hk8
  have hP : (bs ++ 128 :: List.replicate (zlen bs) 0) ++ (lenBytes bs.length).take 8 = padded bs := by
    rw [List.take_of_length_le (by rw [lenBytes_len]; omega)]; simp [padded, zlen]
  rw [hP] at o8
  obtain ⟨Q, hQ, hQ'⟩ := padded_len bs
  have hPlt : ∀ x ∈ padded bs, x < 256 := by
    intro x hx
    simp only [padded, List.mem_append, List.mem_cons, List.mem_replicate] at hx
    rcases hx with h | rfl | ⟨_, rfl⟩ | h
    · exact ib.lt x h
    · decide
    · decide
    · simp only [lenBytes, List.mem_map] at h
      obtain ⟨i, _, rfl⟩ := h
      exact Nat.mod_lt _ (by decide)
  have hS : Sha.sum bs = digest (comp (padded bs) ((padded bs).length / 64)) := rfl
  rw [hQ, Nat.mul_div_cancel_left _ (by decide)] at hS
  obtain ⟨mb, -, hmb, -⟩ : ∃ b, True ∧ a8 = some ⟨b, 0, none⟩ ∧ True := by
    obtain ⟨_, _, b, cs, e, _⟩ := o8
    exact ⟨b, trivial, e, trivial⟩
  subst hmb
  have cP : CellsAt h8 ⟨mb, 0, none⟩ ((padded bs).map u8) := by
    obtain ⟨b, e1, _, _, e2⟩ := o8.cells _ rfl
    cases e1; exact e2
  have t8 : Row32 h8 h1.size 72 Sha.K := x8.blk t2
  have lP : (padded bs).length = bs.length + 1 + zlen bs + 8 := by omega
  generalize padded bs = P at *
  have hb2 := n1
  have d8 : h8[h.size]? = some (.cells ((List.replicate 32 0).map u8).toArray 48 (0, 0)) := by rw [← z24]; exact (x2.trans x8).blk n1
  have x08 : Ext h h8 := x1.trans (x2.trans x8)
  unfold F25_k10
  refine ⟨by decide, newK_intro fun h9 n9 x9 s9 => ?_⟩
  refine ⟨fun a' l' c' i h' => ∃ q b, i = ((64 * q : Nat) : Int) ∧ q ≤ Q ∧ a' = some ⟨b, 0, none⟩ ∧ l' = 8 ∧ Row32 h' b 72 (comp P q) ∧ Ext h8 h', fun _ _ _ i _ => (64 * Q - i).toNat,
    ⟨0, _, rfl, by omega, rfl, rfl, n9, x9⟩, ?_⟩
  rintro h10 _ _ c10 _ ⟨q, pb, rfl, hq, rfl, rfl, r10, x10⟩
  unfold F25_b11
  refine br_of (fun ht => ?_) (fun hf => ?_)
  · have hqQ : q < Q := by
      have : ((64 * q : Nat) : Int) < ((bs.length + 1 + zlen bs + 8 : Nat) : Int) := by simpa using ht
      omega
    refine blockRef (x10.blk t8) (cP.ext x10) lP hPlt (by omega) (by omega) r10 (comp_len _ _) (comp_lt _ _) fun h11 b' x11 r11 => ?_
    refine ⟨⟨q + 1, b', rfl, by omega, rfl, rfl, r11, x10.trans x11⟩, ?_⟩
    show (64 * Q - ((64 * (q + 1) : Nat) : Int)).toNat < (64 * Q - ((64 * q : Nat) : Int)).toNat
    omega
  have hqQ : q = Q := by
    have : ¬ ((64 * q : Nat) : Int) < ((bs.length + 1 + zlen bs + 8 : Nat) : Int) := by simpa using hf
    omega
  subst hqQ
  have clen := comp_len P q
  have clt := comp_lt P q
  rw [hS]
  generalize comp P q = C at *
  unfold F25_k24
  refine newK_intro fun h11 n11 x11 s11 => ?_
  have z24' : zeroC Tryd.prog 48 = ((dg C 0).map u8).toArray := by rw [dg_zero, z24]
  rw [z24'] at n11
  have d11 := (x10.trans x11).blk d8
  have x811 := x10.trans x11
  have hb8 := blk_lt d8
  have hs811 := x811.size
  have hs10 := x10.size
  refine ⟨fun i h' => ∃ k : Nat, i = k ∧ k ≤ 32 ∧ h'[h10.size]? = some (.cells ((dg C k).map u8).toArray 48 (0, 0)) ∧ h'[h.size]? = some (.cells ((List.replicate 32 0).map u8).toArray 48 (0, 0)) ∧ Ext h10 h', fun i _ => (32 - i).toNat, ⟨0, rfl, by omega, n11, d11, x11⟩, ?_⟩
  rintro h12 _ ⟨k, rfl, hk, n12, d12, x12⟩
  unfold F25_b25
  refine br_of (fun ht => ?_) (fun hf => ?_)
  · have hk32 : k < 32 := by
      have : (k : Int) < 32 := by simpa using ht
      omega
    unfold F25_k26
    have ed : IntKind.i64.wrap ((k : Int).tdiv 4) = ((k / 4 : Nat) : Int) := by
      rw [Int.tdiv_eq_ediv_of_nonneg (by omega), i64_lt _ (by omega) (by omega)]; omega
    have em : (k : Int).tmod 4 = ((k % 4 : Nat) : Int) := by
      rw [Int.tmod_eq_emod_of_nonneg (by omega)]; omega
    rw [ed, em]
    have hC : C.getD (k / 4) 0 < 4294967296 := getD_lt clt (by decide) _
    refine ⟨by decide, _, rfl, by omega, by omega, (C.getD (k / 4) 0 : Nat), ?_, by decide, ?_⟩
    · rw [Int.toNat_natCast, Nat.mul_one, add_mk, Nat.zero_add]; exact Row32.cell (Ext.blk x12 r10) (by omega)
    refine ⟨fun x j h' => ∃ n : Nat, j = ((k % 4 + n : Nat) : Int) ∧ k % 4 + n ≤ 3 ∧ x = ((C.getD (k / 4) 0 / 256 ^ n : Nat) : Int) ∧ h' = h12, fun _ j _ => (3 - j).toNat, ⟨0, rfl, by omega, by simp, rfl⟩, ?_⟩
    rintro h13 _ _ ⟨n, rfl, hn, rfl, rfl⟩
    have hB : C.getD (k / 4) 0 / 256 ^ n < 4294967296 := Nat.lt_of_le_of_lt (Nat.div_le_self _ _) hC
    unfold F25_b27
    refine br_of (fun ht2 => ?_) (fun hf2 => ?_)
    · have hn3 : k % 4 + n < 3 := by
        have : ((k % 4 + n : Nat) : Int) < 3 := by simpa using ht2
        omega
      unfold F25_k28
      refine ⟨by decide, ⟨n + 1, ?_, by omega, ?_, rfl⟩, ?_⟩
      · rw [i64_lt _ (by omega) (by omega)]; omega
      · rw [Nat.pow_succ, ← Nat.div_div_eq_div_mul]
        generalize C.getD (k / 4) 0 / 256 ^ n = B at *
        rw [Int.tdiv_eq_ediv_of_nonneg (by omega), show (B : Int) / 256 = ((B / 256 : Nat) : Int) by omega, u32_lt _ (by omega)]
      · show (3 - IntKind.i64.wrap (((k % 4 + n : Nat) : Int) + 1)).toNat < (3 - ((k % 4 + n : Nat) : Int)).toNat
        rw [i64_lt _ (by omega) (by omega)]; omega
    · have hn3 : k % 4 + n = 3 := by
        have : ¬ ((k % 4 + n : Nat) : Int) < 3 := by simpa using hf2
        omega
      unfold F25_k29
      have ev : IntKind.u8.wrap (((C.getD (k / 4) 0 / 256 ^ n : Nat) : Int).tmod 256) = ((C.getD (k / 4) 0 >>> (24 - 8 * (k % 4)) % 256 : Nat) : Int) := by
        rw [Nat.shiftRight_eq_div_pow, show (2 : Nat) ^ (24 - 8 * (k % 4)) = 256 ^ n by rw [show (256 : Nat) = 2 ^ 8 from rfl, ← Nat.pow_mul]; congr 1; omega]
        generalize C.getD (k / 4) 0 / 256 ^ n = B at *
        rw [Int.tmod_eq_emod_of_nonneg (by omega), show (B : Int) % 256 = ((B % 256 : Nat) : Int) by omega, wrap8 _ (Nat.mod_lt _ (by decide))]
      rw [ev, Int.toNat_natCast, Nat.mul_one, at0_mk, add_mk, Nat.zero_add]
      refine ⟨by decide, by omega, by omega, ?_⟩
      refine storeK_one n12 (by simp [dg_len]; omega) (.inr (Nat.zero_le _)) rfl fun h14 b14 o14 => ?_
      unfold F25_k30
      have e1 : IntKind.i64.wrap ((k : Int) + 1) = ((k + 1 : Nat) : Int) := by rw [i64_lt _ (by omega) (by omega)]; omega
      rw [e1]
      refine ⟨⟨k + 1, rfl, by omega, ?_, o14.blk d12 (by omega), ?_⟩, by show (32 - ((k + 1 : Nat) : Int)).toNat < (32 - (k : Int)).toNat; omega⟩
      · rw [b14, List.setIfInBounds_toArray, ← dg_set C k hk32, List.map_set]; rfl
      · exact ⟨by rw [o14.size]; exact x12.size, fun i hi => (o14.block i (by omega)).trans (x12.block i hi)⟩
  · have hk32 : k = 32 := by
      have : ¬ (k : Int) < 32 := by simpa using hf
      omega
    subst hk32
    unfold F25_k31
    rw [dg_all] at n12
    refine ⟨_, by simp [digest], cells_blk0 n12, storeK_whole d12 (by simp [digest]) (by simp) (by simp [u8, one]) fun h13 b13 o13 => ⟨_, by simp [digest], cells_blk0 b13, rfl, ?_⟩⟩
    have x012 : Ext h h12 := x08.trans (x10.trans x12)
    exact ⟨by rw [o13.size]; exact x012.size, fun i hi => (o13.block i (by omega)).trans (x012.block i hi)⟩
end Go.Proofs.YtpnbbgcaaogpdaaDoor.Sh
