/- Chapter 3: what the document's rot, table and one block of its Sum compute. -/
import Derived.Test.YtoheacfggalcbaaDoorShaH
namespace Go.Proofs.YtoheacfggalcbaaDoor
open Go.Vc Go.Sha
set_option linter.unusedVariables false

theorem rotr_add (x n : Nat) (hx : x < 4294967296) (h1 : 1 ≤ n) (h2 : n ≤ 31) : rotr x n = (x >>> n + (x <<< (32 - n)) % 4294967296) % 4294967296 := by
  have e : (x <<< (32 - n)) % 4294967296 = (x % 2 ^ n) <<< (32 - n) := by
    rw [Nat.shiftLeft_eq, Nat.shiftLeft_eq, show 4294967296 = 2 ^ n * 2 ^ (32 - n) by rw [← Nat.pow_add, show n + (32 - n) = 32 by omega], Nat.mul_mod_mul_right]
  have hs : x >>> n < 2 ^ (32 - n) := by
    rw [Nat.shiftRight_eq_div_pow]
    refine Nat.div_lt_of_lt_mul ?_
    rw [← Nat.pow_add, show n + (32 - n) = 32 by omega]; exact hx
  have o : rotr x n = (x % 2 ^ n) <<< (32 - n) + x >>> n := by
    unfold rotr
    rw [e, Nat.or_comm, ← Nat.shiftLeft_add_eq_or_of_lt hs]
  have hl := rotr_lt x n hx
  rw [e, Nat.add_comm, ← o, Nat.mod_eq_of_lt hl]
theorem rotRef_ok (x n : Nat) (hx : x < 4294967296) (h1 : 1 ≤ n) (h2 : n ≤ 31) (h : Heap) : HEnt Tryd.prog 26 #[.int .u32 x, .int .u64 n] h fun v h' => v = u32 (rotr x n) ∧ h' = h := by
  refine F26_ent _ _ _ _ ?_
  have e : IntKind.u64.wrap (32 - (n : Int)) = ((32 - n : Nat) : Int) := by
    rw [u64_lt _ (by omega) (by omega)]; omega
  unfold F26
  rw [e]
  refine ⟨by omega, by omega, ?_, rfl⟩
  rw [shl32 _ _ (by omega), shr32 _ _ (by omega), add32, ← rotr_add x n hx h1 h2]
  rfl
theorem table_ok (h : Heap) : HEnt Tryd.prog 25 #[] h fun v h' => v = .slice (some ⟨h.size, 0, none⟩) 64 64 ∧ Row32 h' h.size 44 Sha.K ∧ Ext h h' ∧ h'.size = h.size + 1 := by
  refine F25_ent _ _ ?_
  unfold F25
  refine ⟨by decide, newK_intro fun h1 n1 x1 s1 => ⟨rfl, ?_, x1, s1⟩⟩
  exact n1

theorem xor_all (e : Nat) (he : e < 4294967296) : 4294967295 ^^^ e = 4294967295 - e := by
  have h := congrArg BitVec.toNat (BitVec.allOnes_xor (x := BitVec.ofNat 32 e))
  rw [BitVec.toNat_xor, BitVec.toNat_not, BitVec.toNat_ofNat, Nat.mod_eq_of_lt (show e < 2 ^ 32 from he), BitVec.toNat_allOnes] at h
  exact h

/-- a word, byte by byte -/
def part (bk : List Nat) (k : Nat) : Nat → Nat
  | 0 => 0
  | j + 1 => part bk k j * 256 + bk.getD (4 * k + j) 0
theorem part_lt (bk : List Nat) (hb : ∀ x ∈ bk, x < 256) (k j : Nat) : part bk k j < 256 ^ j := by
  induction j with
  | zero => exact (by decide : 0 < 1)
  | succ j ih => have := getD_lt hb (by decide) (4 * k + j); rw [part, Nat.pow_succ]; omega
theorem part_word (bk : List Nat) (hb : ∀ x ∈ bk, x < 256) (k : Nat) : part bk k 4 = word bk k := by
  have g := fun j => getD_lt hb (by decide : 0 < 256) j
  unfold word
  have j1 : ∀ a b i : Nat, b < 256 → (a <<< (8 + i)) ||| (b <<< i) = (a * 256 + b) <<< i := fun a b i hb => by
    rw [Nat.shiftLeft_add, ← Nat.shiftLeft_or_distrib, ← Nat.shiftLeft_add_eq_or_of_lt (show b < 2 ^ 8 from hb), Nat.shiftLeft_eq a]
  have e1 := j1 (bk.getD (4 * k) 0) (bk.getD (4 * k + 1) 0) 16 (g _)
  have e2 := j1 (bk.getD (4 * k) 0 * 256 + bk.getD (4 * k + 1) 0) (bk.getD (4 * k + 2) 0) 8 (g _)
  have e3 := j1 ((bk.getD (4 * k) 0 * 256 + bk.getD (4 * k + 1) 0) * 256 + bk.getD (4 * k + 2) 0) (bk.getD (4 * k + 3) 0) 0 (g _)
  simp only [Nat.shiftLeft_zero, Nat.add_zero] at e3
  rw [show 24 = 8 + 16 from rfl, e1, show (16 : Nat) = 8 + 8 from rfl, e2, e3]
  simp only [part, Nat.add_zero, Nat.zero_mul, Nat.zero_add]
theorem w1_zero (bk : List Nat) : ∀ (k i : Nat), k ≤ i → (w1 bk k).getD i 0 = 0
  | 0, i, h => by
    rw [w1, List.getD_eq_getElem?_getD, List.getElem?_replicate]; split <;> rfl
  | k + 1, i, h => by
    rw [w1, List.getD_eq_getElem?_getD, List.getElem?_set_ne (by omega), ← List.getD_eq_getElem?_getD]
    exact w1_zero bk k i (by omega)
theorem set_getD (l : List Nat) (i : Nat) (hi : i < l.length) : l.set i (l.getD i 0) = l := by
  rw [List.getD_eq_getElem?_getD, List.getElem?_eq_getElem hi]; exact List.set_getElem_self hi
def wl (bk : List Nat) (k : Nat) : List Nat := if k ≤ 16 then w1 bk k else w2 bk (k - 16)
theorem wl_len (bk : List Nat) (k : Nat) : (wl bk k).length = 64 := by unfold wl; split; exact w1_len _ _; exact w2_len _ _
theorem wl_lt (bk : List Nat) (hb : ∀ x ∈ bk, x < 256) (k : Nat) : ∀ x ∈ wl bk k, x < 4294967296 := by unfold wl; split; exact w1_lt bk hb _; exact w2_lt bk hb _
theorem wl_w2 (bk : List Nat) (k : Nat) (hk : 16 ≤ k) : wl bk k = w2 bk (k - 16) := by
  unfold wl; split
  · have : k = 16 := by omega
    subst this; rfl
  · rfl
theorem add_all (H s : List Nat) (h1 : H.length = 8) : addTo s 8 H = [(H.getD 0 0 + s.getD 0 0) % 4294967296, (H.getD 1 0 + s.getD 1 0) % 4294967296, (H.getD 2 0 + s.getD 2 0) % 4294967296, (H.getD 3 0 + s.getD 3 0) % 4294967296, (H.getD 4 0 + s.getD 4 0) % 4294967296, (H.getD 5 0 + s.getD 5 0) % 4294967296, (H.getD 6 0 + s.getD 6 0) % 4294967296, (H.getD 7 0 + s.getD 7 0) % 4294967296] := by
  match H, h1 with
  | [a, b, c, d, e, f, g, i], _ => rfl
theorem made32 : mkCells (zeroC Tryd.prog 44) (64 * 1) = ((List.replicate 64 0).map u32).toArray := by kernel_rfl

theorem blockRef {I11 : Option Addr → Nat → Nat → Int → Heap → Prop} {M11 : Option Addr → Nat → Nat → Int → Heap → Nat} {m11 : Nat} {R : Value → Heap → Prop} {q2 : Addr} {c3 c5 c10 tb mb pb l5 q : Nat} {h : Heap} {P H : List Nat}
    (ht : Row32 h tb 44 Sha.K) (hp : CellsAt h ⟨mb, 0, none⟩ (P.map u8)) (hPl : P.length = l5) (hP : ∀ x ∈ P, x < 256) (hq : 64 * q + 64 ≤ P.length) (hlen : P.length < 2 ^ 50)
    (hH : Row32 h pb 44 H) (hH8 : H.length = 8) (hHlt : ∀ x ∈ H, x < 4294967296)
    (next : ∀ h' b', Ext h h' → Row32 h' b' 44 (Sha.block H ((P.drop (64 * q)).take 64)) → I11 (some ⟨b', 0, none⟩) 8 8 ((64 * (q + 1) : Nat) : Int) h' ∧ M11 (some ⟨b', 0, none⟩) 8 8 ((64 * (q + 1) : Nat) : Int) h' < m11) :
    F12_k12 I11 M11 m11 q2 (some ⟨tb, 0, none⟩) 64 c3 (some ⟨mb, 0, none⟩) l5 c5 (some ⟨pb, 0, none⟩) 8 c10 ((64 * q : Nat) : Int) h R := by
  have hbk : ∀ i, i < 64 → ((P.drop (64 * q)).take 64).getD i 0 = P.getD (64 * q + i) 0 := fun i hi => by
    rw [List.getD_eq_getElem?_getD, List.getElem?_take, if_pos hi, List.getElem?_drop, ← List.getD_eq_getElem?_getD]
  have hbl : ((P.drop (64 * q)).take 64).length = 64 := by rw [List.length_take, List.length_drop]; omega
  have hbb : ∀ x ∈ (P.drop (64 * q)).take 64, x < 256 := fun x hx => hP x (List.mem_of_mem_drop (List.mem_of_mem_take hx))
  generalize (P.drop (64 * q)).take 64 = bk at *
  unfold F12_k12
  refine ⟨by omega, by omega, by omega, by omega, newK_intro fun h1 n1 x1 s1 => ?_⟩
  rw [made32] at n1
  refine ⟨fun i h' => ∃ k : Nat, i = k ∧ k ≤ 64 ∧ Row32 h' h.size 44 (wl bk k) ∧ Ext h h', fun i _ => (64 - i).toNat, ⟨0, rfl, by omega, n1, x1⟩, ?_⟩
  rintro h2 _ ⟨k, rfl, hk, hw, hx⟩
  have wlen := wl_len bk k
  unfold F12_b13
  refine br_of (fun hb => ?_) (fun hb => ?_)
  · have hk64 : k < 64 := by
      have : (k : Int) < 64 := by simpa using hb
      omega
    have e1 : IntKind.i64.wrap ((k : Int) + 1) = ((k + 1 : Nat) : Int) := by rw [i64_lt _ (by omega) (by omega)]; omega
    unfold F12_k14
    refine br_of (fun hb2 => ?_) (fun hb2 => ?_)
    · have hk16 : k < 16 := by
        have : (k : Int) < 16 := by simpa using hb2
        omega
      have ew : wl bk k = (w1 bk k).set k (part bk k 0) := by
        unfold wl
        rw [if_pos (by omega), part, ← w1_zero bk k k (Nat.le_refl _), set_getD _ _ (by rw [w1_len]; omega)]
      rw [ew] at hw
      refine ⟨fun j h' => ∃ n : Nat, j = n ∧ n ≤ 4 ∧ Row32 h' h.size 44 ((w1 bk k).set k (part bk k n)) ∧ Ext h h', fun j _ => (4 - j).toNat, ⟨0, rfl, by omega, hw, hx⟩, ?_⟩
      rintro h3 _ ⟨n, rfl, hn, hw, hx⟩
      unfold F12_b15
      refine br_of (fun hb3 => ?_) (fun hb3 => ?_)
      · have hn4 : n < 4 := by
          have : (n : Int) < 4 := by simpa using hb3
          omega
        unfold F12_k16
        have ei : IntKind.i64.wrap ((IntKind.i64.wrap (((64 * q : Nat) : Int) + (IntKind.i64.wrap (4 * (k : Int))))) + (n : Int)) = ((64 * q + (4 * k + n) : Nat) : Int) := by
          rw [i64_lt (4 * (k : Int)) (by omega) (by omega), i64_lt (((64 * q : Nat) : Int) + 4 * (k : Int)) (by omega) (by omega), i64_lt _ (by omega) (by omega)]; omega
        have en : IntKind.i64.wrap ((n : Int) + 1) = ((n + 1 : Nat) : Int) := by rw [i64_lt _ (by omega) (by omega)]; omega
        simp only [ei, en, Int.toNat_natCast, mul1]
        have hpl := part_lt bk hbb k n
        have hp3 : 256 ^ n ≤ 256 ^ 3 := Nat.pow_le_pow_right (by decide) (by omega)
        have hp4 : part bk k n < 16777216 := Nat.lt_of_lt_of_le hpl hp3
        have hc := hw.cell (i := k) (by rw [List.length_set, w1_len]; omega)
        have eg : ((w1 bk k).set k (part bk k n)).getD k 0 = part bk k n := by
          rw [List.getD_eq_getElem?_getD, List.getElem?_set_self (by rw [w1_len]; omega)]; rfl
        rw [eg] at hc
        have hby : bk.getD (4 * k + n) 0 < 256 := getD_lt hbb (by decide) _
        refine ⟨_, rfl, by omega, by omega, (part bk k n : Nat), by rw [at0_mk, add_mk, Nat.zero_add]; exact hc, _, rfl, by omega, by omega, (bk.getD (4 * k + n) 0 : Nat), ?_, _, rfl, by omega, by omega, ?_⟩
        · rw [hbk _ (by omega)]
          have := (hp.ext hx) (64 * q + (4 * k + n)) _ (get_map u8 (by omega))
          rw [add_mk, Nat.zero_add] at this
          rw [add_mk, Nat.zero_add]; exact this
        intro h4 hcl; obtain rfl := hcl.eq
        have ev : IntKind.u32.wrap ((IntKind.u32.wrap ((part bk k n : Int) * 256)) + (IntKind.u32.wrap ((bk.getD (4 * k + n) 0 : Nat) : Int))) = ((part bk k (n + 1) : Nat) : Int) := by
          rw [part]
          rw [show (part bk k n : Int) * 256 = ((part bk k n * 256 : Nat) : Int) by omega, u32_lt _ (by omega), u32_lt _ (by omega), ← Int.natCast_add, u32_lt _ (by omega)]
        rw [ev, at0_mk, add_mk, Nat.zero_add]
        refine hw.set (by rw [List.length_set, w1_len]; omega) _ fun h5 r5 o5 => ⟨⟨n + 1, rfl, by omega, ?_, ?_⟩, by show (4 - ((n + 1 : Nat) : Int)).toNat < (4 - (n : Int)).toNat; omega⟩
        · rw [List.set_set] at r5; exact r5
        · exact ⟨by rw [o5.size]; exact hx.size, fun i hi => (o5.block i (by omega)).trans (hx.block i hi)⟩
      · have hn4 : n = 4 := by
          have : ¬ (n : Int) < 4 := by simpa using hb3
          omega
        subst hn4
        unfold F12_k17
        rw [e1]
        refine ⟨⟨k + 1, rfl, by omega, ?_, hx⟩, by show (64 - ((k + 1 : Nat) : Int)).toNat < (64 - (k : Int)).toNat; omega⟩
        rw [part_word bk hbb] at hw
        unfold wl; rw [if_pos (by omega)]; exact hw
    · have hk16 : 16 ≤ k := by
        have : ¬ (k : Int) < 16 := by simpa using hb2
        omega
      unfold F12_k18
      rw [wl_w2 bk k hk16] at hw
      have len := w2_len bk (k - 16)
      have g := fun i => getD_lt (w2_lt bk hbb (k - 16)) (by decide) i
      have e15 : IntKind.i64.wrap ((k : Int) - 15) = ((k - 15 : Nat) : Int) := by rw [i64_lt _ (by omega) (by omega)]; omega
      have e2 : IntKind.i64.wrap ((k : Int) - 2) = ((k - 2 : Nat) : Int) := by rw [i64_lt _ (by omega) (by omega)]; omega
      have e16 : IntKind.i64.wrap ((k : Int) - 16) = ((k - 16 : Nat) : Int) := by rw [i64_lt _ (by omega) (by omega)]; omega
      have e7 : IntKind.i64.wrap ((k : Int) - 7) = ((k - 7 : Nat) : Int) := by rw [i64_lt _ (by omega) (by omega)]; omega
      simp only [e15, e2, e16, e7, Int.toNat_natCast, mul1]
      have cc : ∀ i, i < 64 → Vc.cell h2 ((⟨h.size, 0, none⟩ : Addr).add i) = some (u32 ((w2 bk (k - 16)).getD i 0)) := fun i hi => by rw [add_mk, Nat.zero_add]; exact hw.cell (by omega)
      refine ⟨_, rfl, by omega, by omega, _, cc _ (by omega), _, fun h6 _ => rotRef_ok _ 7 (g _) (by decide) (by decide) h6, _, rfl, by omega, by omega, _, cc _ (by omega), _, fun h6 _ => rotRef_ok _ 18 (g _) (by decide) (by decide) h6,
        _, rfl, by omega, by omega, _, cc _ (by omega), by decide, ?_⟩
      intro h4 hcl; obtain rfl := hcl.eq
      refine ⟨_, rfl, by omega, by omega, _, cc _ (by omega), _, fun h6 _ => rotRef_ok _ 17 (g _) (by decide) (by decide) h6, _, rfl, by omega, by omega, _, cc _ (by omega), _, fun h6 _ => rotRef_ok _ 19 (g _) (by decide) (by decide) h6,
        _, rfl, by omega, by omega, _, cc _ (by omega), by decide, ?_⟩
      intro h4 hcl; obtain rfl := hcl.eq
      refine ⟨_, rfl, by omega, by omega, _, cc _ (by omega), _, rfl, by omega, by omega, _, cc _ (by omega), _, rfl, by omega, by omega, ?_⟩
      intro h4 hcl; obtain rfl := hcl.eq
      have dv : ∀ a b : Nat, a < 4294967296 → 0 < b → IntKind.u32.wrap ((a : Int).tdiv (b : Int)) = ((a / b : Nat) : Int) := fun a b ha hb => by
        rw [Int.tdiv_eq_ediv_of_nonneg (by omega), ← Int.natCast_ediv, u32_lt _ (Nat.lt_of_le_of_lt (Nat.div_le_self _ _) ha)]
      have d8 := dv ((w2 bk (k - 16)).getD (k - 15) 0) 8 (g _) (by decide)
      have d1024 := dv ((w2 bk (k - 16)).getD (k - 2) 0) 1024 (g _) (by decide)
      simp only [Int.cast_ofNat_Int] at d8 d1024
      have x32 : ∀ a b, a < 4294967296 → b < 4294967296 → a ^^^ b < 4294967296 := fun a b h1 h2 => Nat.xor_lt_two_pow (n := 32) h1 h2
      have dlt : ∀ a b : Nat, a < 4294967296 → a / b < 4294967296 := fun a b ha => Nat.lt_of_le_of_lt (Nat.div_le_self _ _) ha
      rw [add_mk, Nat.zero_add, d8, d1024, xor32 _ _ (rotr_lt _ _ (g _)) (rotr_lt _ _ (g _)), xor32 _ _ (x32 _ _ (rotr_lt _ _ (g _)) (rotr_lt _ _ (g _))) (dlt _ _ (g _)), xor32 _ _ (rotr_lt _ _ (g _)) (rotr_lt _ _ (g _)), xor32 _ _ (x32 _ _ (rotr_lt _ _ (g _)) (rotr_lt _ _ (g _))) (dlt _ _ (g _)), add32, add32, add32]
      refine hw.set (by omega) _ fun h5 r5 o5 => ?_
      unfold F12_k17
      rw [e1]
      refine ⟨⟨k + 1, rfl, by omega, ?_, ?_⟩, by show (64 - ((k + 1 : Nat) : Int)).toNat < (64 - (k : Int)).toNat; omega⟩
      · rw [wl_w2 bk (k + 1) (by omega), show k + 1 - 16 = (k - 16) + 1 by omega, w2, show 16 + (k - 16) = k by omega]
        unfold wNext
        have s3 : ∀ a, a / 8 = a >>> 3 := fun a => by rw [Nat.shiftRight_eq_div_pow]
        have s10 : ∀ a, a / 1024 = a >>> 10 := fun a => by rw [Nat.shiftRight_eq_div_pow]
        rw [s3, s10] at r5
        refine Eq.mp ?_ r5
        congr 2
        omega
      · exact ⟨by rw [o5.size]; exact hx.size, fun i hi => (o5.block i (by omega)).trans (hx.block i hi)⟩
  · have hk64 : k = 64 := by
      have : ¬ (k : Int) < 64 := by simpa using hb
      omega
    subst hk64
    rw [wl_w2 bk 64 (by omega)] at hw
    have hw' : Row32 h2 h.size 44 (words bk) := hw
    have wlt := w2_lt bk hbb 48
    have wln := w2_len bk 48
    have hH2 : Row32 h2 pb 44 H := hx.blk hH
    have ht2 : Row32 h2 tb 44 Sha.K := hx.blk ht
    have cH : ∀ i, i < 8 → Vc.cell h2 ((⟨pb, 0, none⟩ : Addr).add i) = some (u32 (H.getD i 0)) := fun i hi => by rw [add_mk, Nat.zero_add]; exact hH2.cell (by omega)
    unfold F12_k19
    simp only [mul1]
    refine ⟨_, rfl, by omega, by omega, _, cH 0 (by omega), _, rfl, by omega, by omega, _, cH 1 (by omega), _, rfl, by omega, by omega, _, cH 2 (by omega), _, rfl, by omega, by omega, _, cH 3 (by omega),
      _, rfl, by omega, by omega, _, cH 4 (by omega), _, rfl, by omega, by omega, _, cH 5 (by omega), _, rfl, by omega, by omega, _, cH 6 (by omega), _, rfl, by omega, by omega, _, cH 7 (by omega), ?_⟩
    intro h4 hcl; obtain rfl := hcl.eq
    refine ⟨fun a b c d e f g o i h' => ∃ k : Nat, i = k ∧ k ≤ 64 ∧ a = ((rounds (words bk) H k).getD 0 0 : Nat) ∧ b = ((rounds (words bk) H k).getD 1 0 : Nat) ∧ c = ((rounds (words bk) H k).getD 2 0 : Nat) ∧ d = ((rounds (words bk) H k).getD 3 0 : Nat) ∧
        e = ((rounds (words bk) H k).getD 4 0 : Nat) ∧ f = ((rounds (words bk) H k).getD 5 0 : Nat) ∧ g = ((rounds (words bk) H k).getD 6 0 : Nat) ∧ o = ((rounds (words bk) H k).getD 7 0 : Nat) ∧ h' = h4,
      fun _ _ _ _ _ _ _ _ i _ => (64 - i).toNat, ⟨0, rfl, by omega, rfl, rfl, rfl, rfl, rfl, rfl, rfl, rfl, rfl⟩, ?_⟩
    rintro h5 _ _ _ _ _ _ _ _ _ ⟨k, rfl, hk, rfl, rfl, rfl, rfl, rfl, rfl, rfl, rfl, rfl⟩
    have slt := rounds_lt (words bk) H hHlt k
    have g := fun i => getD_lt slt (by decide) i
    unfold F12_b20
    refine br_of (fun hb => ?_) (fun hb => ?_)
    · have hk64 : k < 64 := by
        have : (k : Int) < 64 := by simpa using hb
        omega
      have e1 : IntKind.i64.wrap ((k : Int) + 1) = ((k + 1 : Nat) : Int) := by rw [i64_lt _ (by omega) (by omega)]; omega
      unfold F12_k21
      have hS1 : rounds (words bk) H (k + 1) = rnd (words bk) (rounds (words bk) H k) k := rfl
      generalize rounds (words bk) H k = S at *
      have cK : Vc.cell h5 ((⟨tb, 0, none⟩ : Addr).add ((k : Int).toNat * 1)) = some (u32 (Sha.K.getD k 0)) := by rw [Int.toNat_natCast, Nat.mul_one, add_mk, Nat.zero_add]; exact ht2.cell (by simp [Sha.K]; omega)
      have cW : Vc.cell h5 ((⟨h.size, 0, none⟩ : Addr).add ((k : Int).toNat * 1)) = some (u32 ((words bk).getD k 0)) := by rw [Int.toNat_natCast, Nat.mul_one, add_mk, Nat.zero_add]; exact hw'.cell (by rw [words, wln]; omega)
      refine ⟨_, fun h6 _ => rotRef_ok _ 6 (g _) (by decide) (by decide) h6, _, fun h6 _ => rotRef_ok _ 11 (g _) (by decide) (by decide) h6, _, fun h6 _ => rotRef_ok _ 25 (g _) (by decide) (by decide) h6,
        _, rfl, by omega, by omega, _, cK, _, rfl, by omega, by omega, _, cW, ?_⟩
      intro h6 hcl; obtain rfl := hcl.eq
      refine HEnt.use (rotRef_ok _ 2 (g 0) (by decide) (by decide) h6) ?_
      rintro _ _ ⟨rfl, rfl⟩
      refine ⟨_, rfl, HEnt.use (rotRef_ok _ 13 (g 0) (by decide) (by decide) _) ?_⟩
      rintro _ _ ⟨rfl, rfl⟩
      refine ⟨_, rfl, HEnt.use (rotRef_ok _ 22 (g 0) (by decide) (by decide) _) ?_⟩
      rintro _ _ ⟨rfl, rfl⟩
      refine ⟨_, rfl, ?_⟩
      have x32 : ∀ a b, a < 4294967296 → b < 4294967296 → a ^^^ b < 4294967296 := fun a b h1 h2 => Nat.xor_lt_two_pow (n := 32) h1 h2
      have a32 : ∀ a b, b < 4294967296 → a &&& b < 4294967296 := fun a b h2 => Nat.and_lt_two_pow (n := 32) _ h2
      have r32 := fun i n => rotr_lt _ n (g i)
      have nt : IntKind.u32.wrap (4294967295 - (S.getD 4 0 : Nat)) = ((4294967295 ^^^ S.getD 4 0 : Nat) : Int) := by
        have := g 4
        rw [xor_all _ this, show (4294967295 - ((S.getD 4 0 : Nat) : Int)) = ((4294967295 - S.getD 4 0 : Nat) : Int) by omega, u32_lt _ (by omega)]
      have nlt : 4294967295 ^^^ S.getD 4 0 < 4294967296 := x32 _ _ (by decide) (g 4)
      rw [nt, xor32 _ _ (r32 4 6) (r32 4 11), xor32 _ _ (x32 _ _ (r32 4 6) (r32 4 11)) (r32 4 25), and32 _ _ (g 4) (g 5), and32 _ _ nlt (g 6), xor32 _ _ (a32 _ _ (g 5)) (a32 _ _ (g 6)),
        xor32 _ _ (r32 0 2) (r32 0 13), xor32 _ _ (x32 _ _ (r32 0 2) (r32 0 13)) (r32 0 22), and32 _ _ (g 0) (g 1), and32 _ _ (g 0) (g 2), and32 _ _ (g 1) (g 2), xor32 _ _ (a32 _ _ (g 1)) (a32 _ _ (g 2)), xor32 _ _ (x32 _ _ (a32 _ _ (g 1)) (a32 _ _ (g 2))) (a32 _ _ (g 2))]
      simp only [add32, e1]
      refine ⟨⟨k + 1, rfl, by omega, ?_⟩, by show (64 - ((k + 1 : Nat) : Int)).toNat < (64 - (k : Int)).toNat; omega⟩
      rw [hS1]
      exact ⟨rfl, rfl, rfl, rfl, rfl, rfl, rfl, rfl, trivial⟩
    · have hk64 : k = 64 := by
        have : ¬ (k : Int) < 64 := by simpa using hb
        omega
      subst hk64
      unfold F12_k22
      simp only [mul1]
      have eb : Sha.block H bk = addTo (rounds (words bk) H 64) 8 H := rfl
      rw [add_all H _ hH8] at eb
      generalize rounds (words bk) H 64 = S at *
      refine ⟨_, rfl, by omega, by omega, _, cH 0 (by omega), _, rfl, by omega, by omega, _, cH 1 (by omega), _, rfl, by omega, by omega, _, cH 2 (by omega), _, rfl, by omega, by omega, _, cH 3 (by omega),
        _, rfl, by omega, by omega, _, cH 4 (by omega), _, rfl, by omega, by omega, _, cH 5 (by omega), _, rfl, by omega, by omega, _, cH 6 (by omega), _, rfl, by omega, by omega, _, cH 7 (by omega), ?_⟩
      intro h6 hcl; obtain rfl := hcl.eq
      refine ⟨by decide, newK_intro fun h7 n7 x7 s7 => ?_⟩
      unfold F12_k23
      have en : IntKind.i64.wrap (((64 * q : Nat) : Int) + 64) = ((64 * (q + 1) : Nat) : Int) := by rw [i64_lt _ (by omega) (by omega)]; omega
      rw [en]
      refine next h7 _ (hx.trans x7) ?_
      rw [eb]
      simp only [add32] at n7
      exact n7
end Go.Proofs.YtoheacfggalcbaaDoor
