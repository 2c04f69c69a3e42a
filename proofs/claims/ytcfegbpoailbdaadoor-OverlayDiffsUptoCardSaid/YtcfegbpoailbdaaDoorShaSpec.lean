import Derived.Test.YtcfegbpoailbdaaDoorVcM

namespace Go.Sha
open Go.Vc
def rotr (x n : Nat) : Nat := (x >>> n) ||| ((x <<< (32 - n)) % 4294967296)
def K : List Nat := [1116352408, 1899447441, 3049323471, 3921009573, 961987163, 1508970993, 2453635748, 2870763221, 3624381080, 310598401, 607225278, 1426881987, 1925078388, 2162078206, 2614888103, 3248222580, 3835390401, 4022224774, 264347078, 604807628, 770255983, 1249150122, 1555081692, 1996064986, 2554220882, 2821834349, 2952996808, 3210313671, 3336571891, 3584528711, 113926993, 338241895, 666307205, 773529912, 1294757372, 1396182291, 1695183700, 1986661051, 2177026350, 2456956037, 2730485921, 2820302411, 3259730800, 3345764771, 3516065817, 3600352804, 4094571909, 275423344, 430227734, 506948616, 659060556, 883997877, 958139571, 1322822218, 1537002063, 1747873779, 1955562222, 2024104815, 2227730452, 2361852424, 2428436474, 2756734187, 3204031479, 3329325298]
def H0 : List Nat := [1779033703, 3144134277, 1013904242, 2773480762, 1359893119, 2600822924, 528734635, 1541459225]
def word (bk : List Nat) (i : Nat) : Nat := (((bk.getD (4 * i) 0 <<< 24) ||| (bk.getD (4 * i + 1) 0 <<< 16)) ||| (bk.getD (4 * i + 2) 0 <<< 8)) ||| bk.getD (4 * i + 3) 0
def w1 (bk : List Nat) : Nat → List Nat
  | 0 => List.replicate 64 0
  | i + 1 => (w1 bk i).set i (word bk i)
def wNext (w : List Nat) (i : Nat) : Nat :=
  (((w.getD (i - 16) 0 + w.getD (i - 7) 0) % 4294967296 + ((rotr (w.getD (i - 15) 0) 7 ^^^ rotr (w.getD (i - 15) 0) 18) ^^^ (w.getD (i - 15) 0 >>> 3))) % 4294967296 + ((rotr (w.getD (i - 2) 0) 17 ^^^ rotr (w.getD (i - 2) 0) 19) ^^^ (w.getD (i - 2) 0 >>> 10))) % 4294967296
def w2 (bk : List Nat) : Nat → List Nat
  | 0 => w1 bk 16
  | i + 1 => (w2 bk i).set (16 + i) (wNext (w2 bk i) (16 + i))
def words (bk : List Nat) : List Nat := w2 bk 48
def tOf (w s : List Nat) (i : Nat) : Nat :=
  ((((s.getD 7 0 + ((rotr (s.getD 4 0) 6 ^^^ rotr (s.getD 4 0) 11) ^^^ rotr (s.getD 4 0) 25)) % 4294967296 + ((s.getD 4 0 &&& s.getD 5 0) ^^^ ((4294967295 ^^^ s.getD 4 0) &&& s.getD 6 0))) % 4294967296 + K.getD i 0) % 4294967296 + w.getD i 0) % 4294967296
def uOf (s : List Nat) : Nat :=
  (((rotr (s.getD 0 0) 2 ^^^ rotr (s.getD 0 0) 13) ^^^ rotr (s.getD 0 0) 22) + (((s.getD 0 0 &&& s.getD 1 0) ^^^ (s.getD 0 0 &&& s.getD 2 0)) ^^^ (s.getD 1 0 &&& s.getD 2 0))) % 4294967296
def rnd (w s : List Nat) (i : Nat) : List Nat :=
  [(tOf w s i + uOf s) % 4294967296, s.getD 0 0, s.getD 1 0, s.getD 2 0, (s.getD 3 0 + tOf w s i) % 4294967296, s.getD 4 0, s.getD 5 0, s.getD 6 0]
def rounds (w s : List Nat) : Nat → List Nat
  | 0 => s
  | i + 1 => rnd w (rounds w s i) i
def addTo (s : List Nat) : Nat → List Nat → List Nat
  | 0, h => h
  | i + 1, h => (addTo s i h).set i (((addTo s i h).getD i 0 + s.getD i 0) % 4294967296)
def block (H bk : List Nat) : List Nat := addTo (rounds (words bk) H 64) 8 H
def comp (bs : List Nat) : Nat → List Nat
  | 0 => H0
  | i + 1 => block (comp bs i) ((bs.drop (64 * i)).take 64)
def lenBytes (n : Nat) : List Nat := (List.range 8).map fun i => (n * 8 % 18446744073709551616) >>> (56 - 8 * i) % 256
def padded (bs : List Nat) : List Nat := bs ++ 128 :: (List.replicate ((119 - bs.length % 64) % 64) 0 ++ lenBytes bs.length)
def digest (H : List Nat) : List Nat := (List.range 32).map fun i => H.getD (i / 4) 0 >>> (24 - 8 * (i % 4)) % 256
def sum (bs : List Nat) : List Nat := digest (comp (padded bs) ((padded bs).length / 64))

theorem sum_abc : sum [97, 98, 99] = [0xba, 0x78, 0x16, 0xbf, 0x8f, 0x01, 0xcf, 0xea, 0x41, 0x41, 0x40, 0xde, 0x5d, 0xae, 0x22, 0x23, 0xb0, 0x03, 0x61, 0xa3, 0x96, 0x17, 0x7a, 0x9c, 0xb4, 0x10, 0xff, 0x61, 0xf2, 0x00, 0x15, 0xad] := by decide +kernel

/-! ### the program's arithmetic, on numbers -/
theorem u32_wrap (n : Nat) : IntKind.u32.wrap (n : Int) = ((n % 4294967296 : Nat) : Int) := by rw [IntKind.wrap_u32]; omega
theorem u8_wrap (n : Nat) : IntKind.u8.wrap (n : Int) = ((n % 256 : Nat) : Int) := by rw [IntKind.wrap_u8]; omega
theorem u32_lt (n : Nat) (h : n < 4294967296) : IntKind.u32.wrap (n : Int) = (n : Int) := by rw [u32_wrap, Nat.mod_eq_of_lt h]
theorem i64_lt (n : Int) (h : -9223372036854775808 ≤ n) (h' : n < 9223372036854775808) : IntKind.i64.wrap n = n := IntWalk.i64_in _ (by omega)
theorem u64_lt (n : Int) (h : 0 ≤ n) (h' : n < 18446744073709551616) : IntKind.u64.wrap n = n := by
  simp [IntKind.wrap, IntKind.bits, IntKind.signed]; omega
theorem add32 (a b : Nat) : IntKind.u32.wrap ((a : Int) + b) = (((a + b) % 4294967296 : Nat) : Int) := by rw [← u32_wrap]; simp
theorem or32 (a b : Nat) (ha : a < 4294967296) (hb : b < 4294967296) : orI .u32 (a : Int) b = ((a ||| b : Nat) : Int) := by
  have : a ||| b < 2 ^ 32 := Nat.or_lt_two_pow ha hb
  have e : (BitVec.ofInt 32 (a : Int) ||| BitVec.ofInt 32 (b : Int)).toNat = a ||| b := by
    rw [BitVec.ofInt_natCast, BitVec.ofInt_natCast, BitVec.toNat_or, BitVec.toNat_ofNat, BitVec.toNat_ofNat, Nat.mod_eq_of_lt (show a < 2 ^ 32 from ha), Nat.mod_eq_of_lt (show b < 2 ^ 32 from hb)]
  show IntKind.u32.wrap ((BitVec.ofInt 32 (a : Int) ||| BitVec.ofInt 32 (b : Int)).toNat : Int) = _
  rw [e]; exact u32_lt _ this
theorem xor32 (a b : Nat) (ha : a < 4294967296) (hb : b < 4294967296) : xorI .u32 (a : Int) b = ((a ^^^ b : Nat) : Int) := by
  have : a ^^^ b < 2 ^ 32 := Nat.xor_lt_two_pow ha hb
  have e : (BitVec.ofInt 32 (a : Int) ^^^ BitVec.ofInt 32 (b : Int)).toNat = a ^^^ b := by
    rw [BitVec.ofInt_natCast, BitVec.ofInt_natCast, BitVec.toNat_xor, BitVec.toNat_ofNat, BitVec.toNat_ofNat, Nat.mod_eq_of_lt (show a < 2 ^ 32 from ha), Nat.mod_eq_of_lt (show b < 2 ^ 32 from hb)]
  show IntKind.u32.wrap ((BitVec.ofInt 32 (a : Int) ^^^ BitVec.ofInt 32 (b : Int)).toNat : Int) = _
  rw [e]; exact u32_lt _ this
theorem and32 (a b : Nat) (ha : a < 4294967296) (hb : b < 4294967296) : andI .u32 (a : Int) b = ((a &&& b : Nat) : Int) := by
  have : a &&& b < 2 ^ 32 := Nat.and_lt_two_pow _ hb
  have e : (BitVec.ofInt 32 (a : Int) &&& BitVec.ofInt 32 (b : Int)).toNat = a &&& b := by
    rw [BitVec.ofInt_natCast, BitVec.ofInt_natCast, BitVec.toNat_and, BitVec.toNat_ofNat, BitVec.toNat_ofNat, Nat.mod_eq_of_lt (show a < 2 ^ 32 from ha), Nat.mod_eq_of_lt (show b < 2 ^ 32 from hb)]
  show IntKind.u32.wrap ((BitVec.ofInt 32 (a : Int) &&& BitVec.ofInt 32 (b : Int)).toNat : Int) = _
  rw [e]; exact u32_lt _ this
theorem not32 (a : Nat) (ha : a < 4294967296) : notI .u32 (a : Int) = ((4294967295 ^^^ a : Nat) : Int) := by
  have := xor32 4294967295 a (by decide) ha
  exact this
theorem shl32 (a k : Nat) (hk : k ≤ 32) : shlI .u32 (a : Int) k = ((a <<< k % 4294967296 : Nat) : Int) := by
  unfold shlI
  rw [show min ((k : Int).toNat) IntKind.u32.bits = k from by simp [IntKind.bits]; omega, ← u32_wrap, Nat.shiftLeft_eq]
  simp
theorem shr32 (a k : Nat) (hk : k ≤ 32) : shrI .u32 (a : Int) k = ((a >>> k : Nat) : Int) := by
  unfold shrI
  rw [show min ((k : Int).toNat) IntKind.u32.bits = k from by simp [IntKind.bits]; omega, Nat.shiftRight_eq_div_pow]
  rw [Int.fdiv_eq_ediv_of_nonneg _ (by exact_mod_cast Nat.zero_le _)]
  simp
theorem rotr_lt (x n : Nat) (h : x < 4294967296) : rotr x n < 4294967296 := by
  unfold rotr
  exact Nat.or_lt_two_pow (n := 32) (Nat.lt_of_le_of_lt (Nat.shiftRight_le _ _) h) (Nat.mod_lt _ (by decide))

/-! ### texts and first bits -/
def sg (i : Nat) : Nat := [48, 49, 50, 51, 52, 53, 54, 55, 56, 57, 97, 98, 99, 100, 101, 102].getD i 0
def hex (D : List Nat) : List Nat := D.flatMap fun x => [sg (x / 16), sg (x % 16)]
def str (l : List Nat) : ByteArray := ⟨(l.map UInt8.ofNat).toArray⟩
theorem str_size (l : List Nat) : (str l).size = l.length := by simp [str, ByteArray.size]
theorem bytesV_str (l : List Nat) (hl : ∀ x ∈ l, x < 256) : bytesV (str l) = l.map fun n : Nat => Value.int .u8 (n : Int) := by
  simp only [bytesV, str, List.map_map]
  apply List.map_congr_left
  intro x hx
  simp [Nat.mod_eq_of_lt (hl x hx)]
theorem sg_lt (i : Nat) : sg i < 256 := by
  unfold sg
  rw [List.getD_eq_getElem?_getD]
  cases h : [48, 49, 50, 51, 52, 53, 54, 55, 56, 57, 97, 98, 99, 100, 101, 102][i]? with
  | none => decide
  | some x => exact (show ∀ y ∈ [48, 49, 50, 51, 52, 53, 54, 55, 56, 57, 97, 98, 99, 100, 101, 102], y < 256 by decide) x (List.mem_of_getElem? h)
theorem hex_lt (D : List Nat) : ∀ x ∈ hex D, x < 256 := by
  intro x hx
  simp only [hex, List.mem_flatMap, List.mem_cons, List.not_mem_nil, or_false] at hx
  obtain ⟨y, _, rfl | rfl⟩ := hx <;> exact sg_lt _
theorem hex_len (D : List Nat) : (hex D).length = 2 * D.length := by
  induction D with
  | nil => rfl
  | cons x D ih => simp only [hex, List.flatMap_cons, List.length_append, List.length_cons, List.length_nil] at *; omega
theorem hex_snoc (D : List Nat) (x : Nat) : hex (D ++ [x]) = hex D ++ [sg (x / 16), sg (x % 16)] := by simp [hex]
theorem hex_abc : str (hex (sum [97, 98, 99])) = ⟨#[98, 97, 55, 56, 49, 54, 98, 102, 56, 102, 48, 49, 99, 102, 101, 97, 52, 49, 52, 49, 52, 48, 100, 101, 53, 100, 97, 101, 50, 50, 50, 51, 98, 48, 48, 51, 54, 49, 97, 51, 57, 54, 49, 55, 55, 97, 57, 99, 98, 52, 49, 48, 102, 102, 54, 49, 102, 50, 48, 48, 49, 53, 97, 100]⟩ := by
  rw [sum_abc]; decide +kernel
theorem seq_self (a : ByteArray) : seq a a = true := by simp [seq]

def topv (D : List Nat) : Nat → Nat
  | 0 => 0
  | i + 1 => topv D i * 256 + D.getD i 0
theorem topv_lt (D : List Nat) (hD : ∀ x ∈ D, x < 256) (i : Nat) : topv D i < 256 ^ i := by
  induction i with
  | zero => exact (by decide : 0 < 1)
  | succ i ih =>
    have : D.getD i 0 < 256 := by
      rw [List.getD_eq_getElem?_getD]
      cases h : D[i]? with
      | none => decide
      | some x => exact hD x (List.mem_of_getElem? h)
    rw [topv, Nat.pow_succ]; omega
theorem topv_div (D : List Nat) (hD : ∀ x ∈ D, x < 256) (t s : Nat) : topv D (t + s) / 256 ^ s = topv D t := by
  induction s with
  | zero => simp
  | succ s ih =>
    have : D.getD (t + s) 0 < 256 := by
      rw [List.getD_eq_getElem?_getD]
      cases h : D[t + s]? with
      | none => decide
      | some x => exact hD x (List.mem_of_getElem? h)
    rw [← Nat.add_assoc, topv, Nat.pow_succ, Nat.mul_comm (256 ^ s) 256, ← Nat.div_div_eq_div_mul, show (topv D (t + s) * 256 + D.getD (t + s) 0) / 256 = topv D (t + s) by omega, ih]
/-- the i first bits, one by one -/
def refv (D : List Nat) : Nat → Nat
  | 0 => 0
  | i + 1 => 2 * refv D i + D.getD (i / 8) 0 / 2 ^ (7 - i % 8) % 2
theorem bit_of (A d r : Nat) (hr : r ≤ 7) : (A * 256 + d) / 2 ^ r % 2 = d / 2 ^ r % 2 := by
  have : r = 0 ∨ r = 1 ∨ r = 2 ∨ r = 3 ∨ r = 4 ∨ r = 5 ∨ r = 6 ∨ r = 7 := by omega
  rcases this with h | h | h | h | h | h | h | h <;> subst h <;> simp only [Nat.reducePow] <;> omega
theorem refv_eq (D : List Nat) (hD : ∀ x ∈ D, x < 256) (i : Nat) (hi : i ≤ 64) : refv D i = topv D 8 / 2 ^ (64 - i) := by
  induction i with
  | zero => rw [refv, Nat.div_eq_of_lt]; exact topv_lt D hD 8
  | succ i ih =>
    rw [refv, ih (by omega)]
    have e1 : topv D 8 / 2 ^ (64 - i) = topv D 8 / 2 ^ (64 - (i + 1)) / 2 := by
      rw [Nat.div_div_eq_div_mul, ← Nat.pow_succ, Nat.succ_eq_add_one, show 64 - (i + 1) + 1 = 64 - i by omega]
    have e2 : topv D 8 / 2 ^ (64 - (i + 1)) = topv D (i / 8 + 1) / 2 ^ (7 - i % 8) := by
      have h := topv_div D hD (i / 8 + 1) (7 - i / 8)
      rw [show i / 8 + 1 + (7 - i / 8) = 8 by omega] at h
      rw [← h, Nat.div_div_eq_div_mul, show 256 = 2 ^ 8 by decide, ← Nat.pow_mul, ← Nat.pow_add]
      congr 2; omega
    have e3 : topv D 8 / 2 ^ (64 - (i + 1)) % 2 = D.getD (i / 8) 0 / 2 ^ (7 - i % 8) % 2 := by
      rw [e2, topv, bit_of _ _ _ (by omega)]
    rw [e1, ← e3]; omega
end Go.Sha
