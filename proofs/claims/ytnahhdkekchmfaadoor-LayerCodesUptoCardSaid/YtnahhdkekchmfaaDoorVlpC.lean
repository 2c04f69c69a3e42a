import Derived.Test.YtnahhdkekchmfaaDoorProg
import Derived.Test.YtnahhdkekchmfaaDoorVlpA
import Derived.Test.YtnahhdkekchmfaaDoorVcQ

set_option linter.unusedVariables false
set_option maxRecDepth 100000
namespace Go.Proofs.YtnahhdkekchmfaaDoor
open Go.Vc
/-! ### 20 veneer/layer.Decode -/
def F20_k4 (Rp : Heap → Prop) (I1 : Int → Heap → Prop) (M1 : Int → Heap → Nat) (m1 : Nat) (q2 : Addr) (q3 : Addr) (q4 : Addr) (x19 : Int) (x20 : Int) (h : Heap) (R : Value → Heap → Prop) : Prop :=
  I1 (IntKind.i64.wrap (x20 + 1)) h ∧ M1 (IntKind.i64.wrap (x20 + 1)) h < m1
def F20_k3 (Rp : Heap → Prop) (I1 : Int → Heap → Prop) (M1 : Int → Heap → Nat) (m1 : Nat) (q2 : Addr) (q3 : Addr) (q4 : Addr) (q6 : Addr) (x19 : Int) (x20 : Int) (h : Heap) (R : Value → Heap → Prop) : Prop :=
  ∃ a59 : Option Addr, ∃ l59 : Nat, ∃ c59 : Nat, Vc.cell h q2 = some (Value.slice a59 l59 c59) ∧ ∃ s60_0 : ByteArray, ∃ x60_1 : Int, ∃ x60_2 : Int, ∃ s60_3 : ByteArray, Vc.cell h (q6.add 0) = some (Value.string s60_0) ∧ Vc.cell h (q6.add 1) = some (Value.int .i64 x60_1) ∧ Vc.cell h (q6.add 2) = some (Value.int .i64 x60_2) ∧ Vc.cell h (q6.add 3) = some (Value.string s60_3) ∧ 4 = 4 ∧ (#[Value.string s60_0, Value.int .i64 x60_1, Value.int .i64 x60_2, Value.string s60_3]).size = 4 ∧ 1 * 4 ≤ 16777216 ∧ newK h (.cells #[Value.string s60_0, Value.int .i64 x60_1, Value.int .i64 x60_2, Value.string s60_3] 30) fun b61 h1 => appK Tryd.prog 30 h1 a59 l59 c59 (Value.slice (some (at0 b61)) 1 1) fun a62 l62 c62 h2 => storeK 1 h2 q2 (Value.slice a62 l62 c62) fun h3 => F20_k4 Rp I1 M1 m1 q2 q3 q4 x19 x20 h3 R
def F20_k2 (Rp : Heap → Prop) (I1 : Int → Heap → Prop) (M1 : Int → Heap → Nat) (m1 : Nat) (q2 : Addr) (q3 : Addr) (q4 : Addr) (x19 : Int) (x20 : Int) (h : Heap) (R : Value → Heap → Prop) : Prop :=
  HCallsP Tryd.prog 33 #[Value.pointer (some q4), Value.int .i64 3] h (fun r23 h1 => ∃ s23 : ByteArray, r23 = Value.string s23 ∧ (0 : Int) ≤ 0 ∧ 0 < (s23.size : Int) ∧ (0 : Int) ≤ 1 ∧ 1 < (s23.size : Int) ∧ (0 : Int) ≤ 8 ∧ (0 : Int) ≤ 2 ∧ 2 < (s23.size : Int) ∧ ∀ (b6 : Nat) (h2 : Heap), h1.size ≤ b6 → Ext h1 h2 → h2[b6]? = some (.cells (zeroC Tryd.prog 30) 30) → storeK 4 h2 (at0 b6) (Value.agg #[Value.string ByteArray.empty, Value.int .i64 (IntKind.i64.wrap (bt s23 0)), Value.int .i64 (orI .i64 (shlI .i64 (IntKind.i64.wrap (bt s23 1)) 8) (IntKind.i64.wrap (bt s23 2))), Value.string ByteArray.empty]) fun h3 => ∃ q39 : Addr, some q4 = some q39 ∧ ∃ a41 : Option Addr, ∃ l41 : Nat, ∃ c41 : Nat, Vc.cell h3 (q39.add 0) = some (Value.slice a41 l41 c41) ∧ HCallsP Tryd.prog 34 #[Value.pointer (some q4), Value.int .i64 (l41 : Int)] h3 (fun r43 h4 => ∃ x43 : Int, r43 = Value.int .i64 x43 ∧ HCallsP Tryd.prog 33 #[Value.pointer (some q4), Value.int .i64 x43] h4 (fun r44 h5 => ∃ s44 : ByteArray, r44 = Value.string s44 ∧ storeK 1 h5 ((at0 b6).add 0) (Value.string s44) fun h6 => ∃ x47 : Int, Vc.cell h6 ((at0 b6).add 1) = some (Value.int .i64 x47) ∧ br ((x47 : Int) == 1) (∃ q52 : Addr, some q4 = some q52 ∧ ∃ a54 : Option Addr, ∃ l54 : Nat, ∃ c54 : Nat, Vc.cell h6 (q52.add 0) = some (Value.slice a54 l54 c54) ∧ HCallsP Tryd.prog 34 #[Value.pointer (some q4), Value.int .i64 (l54 : Int)] h6 (fun r56 h7 => ∃ x56 : Int, r56 = Value.int .i64 x56 ∧ HCallsP Tryd.prog 33 #[Value.pointer (some q4), Value.int .i64 x56] h7 (fun r57 h8 => ∃ s57 : ByteArray, r57 = Value.string s57 ∧ storeK 1 h8 ((at0 b6).add 3) (Value.string s57) fun h9 => F20_k3 Rp I1 M1 m1 q2 q3 q4 (at0 b6) x19 x20 h9 R) Rp) Rp) (F20_k3 Rp I1 M1 m1 q2 q3 q4 (at0 b6) x19 x20 h6 R)) Rp) Rp) Rp
def F20_k6 (Rp : Heap → Prop) (q2 : Addr) (q3 : Addr) (h : Heap) (R : Value → Heap → Prop) : Prop :=
  ∃ a81 : Option Addr, ∃ l81 : Nat, ∃ c81 : Nat, Vc.cell h q2 = some (Value.slice a81 l81 c81) ∧ storeK 1 h q2 (Value.slice a81 l81 c81) fun h1 => storeK 1 h1 q3 (Value.int .i64 0) fun h2 => ∃ ar0 : Option Addr, ∃ lr0 : Nat, ∃ cr0 : Nat, Vc.cell h2 q2 = some (Value.slice ar0 lr0 cr0) ∧ ∃ xr1 : Int, Vc.cell h2 q3 = some (Value.int .i64 xr1) ∧ R (Value.tuple #[Value.slice ar0 lr0 cr0, Value.int .i64 xr1]) h2
def F20_k5 (Rp : Heap → Prop) (q2 : Addr) (q3 : Addr) (q4 : Addr) (h : Heap) (R : Value → Heap → Prop) : Prop :=
  ∃ a65 : Option Addr, ∃ l65 : Nat, ∃ c65 : Nat, Vc.cell h q2 = some (Value.slice a65 l65 c65) ∧ HCalls Tryd.prog 10 #[Value.slice a65 l65 c65] h fun r66 h1 => ∃ x66_0 : Int, ∃ x66_1 : Int, r66 = Value.tuple #[Value.int .i64 x66_0, Value.int .i64 x66_1] ∧ ∃ q71 : Addr, some q4 = some q71 ∧ ∃ a73 : Option Addr, ∃ l73 : Nat, ∃ c73 : Nat, Vc.cell h1 (q71.add 0) = some (Value.slice a73 l73 c73) ∧ br (((l73 : Int) : Int) == 0) (HCallsP Tryd.prog 32 #[Value.pointer (some q4), Value.bool ((x66_1 : Int) == 0)] h1 (fun r80 h2 => r80 = Value.tuple #[] ∧ F20_k6 Rp q2 q3 h2 R) Rp) (HCallsP Tryd.prog 32 #[Value.pointer (some q4), Value.bool false] h1 (fun r80 h2 => r80 = Value.tuple #[] ∧ F20_k6 Rp q2 q3 h2 R) Rp)
def F20_b1 (Rp : Heap → Prop) (I1 : Int → Heap → Prop) (M1 : Int → Heap → Nat) (m1 : Nat) (q2 : Addr) (q3 : Addr) (q4 : Addr) (x19 : Int) (x20 : Int) (h : Heap) (R : Value → Heap → Prop) : Prop :=
  br (decide ((x20 : Int) < x19)) (F20_k2 Rp I1 M1 m1 q2 q3 q4 x19 x20 h R) (F20_k5 Rp q2 q3 q4 h R)
def F20 (a0 : Option Addr) (l0 : Nat) (c0 : Nat) (h : Heap) (R : Value → Heap → Prop) : Prop :=
  newK h (.cells (zeroC Tryd.prog 22) 22) fun b2 h1 => newK h1 (.cells (zeroC Tryd.prog 23) 23) fun b3 h2 => ∃ Rp : Heap → Prop, (∀ h1_1, Rp h1_1 → DefP Tryd.prog 31 #[Value.pointer (some (at0 b2)), Value.pointer (some (at0 b3))] h1_1 fun h2_1 => ∃ ar0 : Option Addr, ∃ lr0 : Nat, ∃ cr0 : Nat, Vc.cell h2_1 (at0 b2) = some (Value.slice ar0 lr0 cr0) ∧ ∃ xr1 : Int, Vc.cell h2_1 (at0 b3) = some (Value.int .i64 xr1) ∧ R (Value.tuple #[Value.slice ar0 lr0 cr0, Value.int .i64 xr1]) h2_1) ∧ DefR Tryd.prog 31 #[Value.pointer (some (at0 b2)), Value.pointer (some (at0 b3))] ∧ newK h2 (.cells #[Value.slice a0 l0 c0] 65) fun b12 h3 => HCallsP Tryd.prog 33 #[Value.pointer (some (at0 b12)), Value.int .i64 3] h3 (fun r15 h4 => ∃ s15 : ByteArray, r15 = Value.string s15 ∧ HCallsP Tryd.prog 32 #[Value.pointer (some (at0 b12)), Value.bool (seq s15 (⟨#[86, 76, 1]⟩ : ByteArray))] h4 (fun r17 h5 => r17 = Value.tuple #[] ∧ HCallsP Tryd.prog 34 #[Value.pointer (some (at0 b12)), Value.int .i64 64] h5 (fun r19 h6 => ∃ x19 : Int, r19 = Value.int .i64 x19 ∧ ∃ (I1 : Int → Heap → Prop) (M1 : Int → Heap → Nat), I1 0 h6 ∧ ∀ h7 (x20 : Int), I1 x20 h7 → F20_b1 Rp I1 M1 (M1 x20 h7) (at0 b2) (at0 b3) (at0 b12) x19 x20 h7 R) Rp) Rp) Rp
def A20 : Ann := { loops := [(5, [(20, .int .i64)])], draws := [(7, 2, 12)], pans := some [32, 33, 34] }
theorem F20_ent (a0 : Option Addr) (l0 : Nat) (c0 : Nat) (h : Heap) (R : Value → Heap → Prop) (H : F20 a0 l0 c0 h R) : HEnt Tryd.prog 20 #[Value.slice a0 l0 c0] h R :=
  hentD A20 mixed Tryd.func20 rfl (by kernel_rfl) (fun _ => by kernel_rfl) (Eq.mp (by kernel_rfl) H)

/-! ### 32 (*veneer/layer.reader).need -/
def F32 (Rp : Heap → Prop) (p0 : Option Addr) (b1 : Bool) (h : Heap) (R : Value → Heap → Prop) : Prop :=
  br (!b1) (Rp h) (R (Value.tuple #[]) h)
def A32 : Ann := { pans := some [32, 33, 34] }
theorem F32_ent (p0 : Option Addr) (b1 : Bool) (h : Heap) (R : Value → Heap → Prop) (Rp : Heap → Prop) (H : F32 Rp p0 b1 h R) : HCallsP Tryd.prog 32 #[Value.pointer p0, Value.bool b1] h R Rp :=
  hentP A32 mixed Tryd.func32 rfl (by kernel_rfl) (by kernel_rfl) (Eq.mp (by kernel_rfl) H)

/-! ### 33 (*veneer/layer.reader).take -/
def F33 (Rp : Heap → Prop) (p0 : Option Addr) (x1 : Int) (h : Heap) (R : Value → Heap → Prop) : Prop :=
  ∃ q9 : Addr, p0 = some q9 ∧ ∃ a11 : Option Addr, ∃ l11 : Nat, ∃ c11 : Nat, Vc.cell h (q9.add 0) = some (Value.slice a11 l11 c11) ∧ HCallsP Tryd.prog 32 #[Value.pointer p0, Value.bool (decide ((x1 : Int) ≤ (l11 : Int)))] h (fun r14 h1 => r14 = Value.tuple #[] ∧ ∃ q16 : Addr, p0 = some q16 ∧ ∃ a18 : Option Addr, ∃ l18 : Nat, ∃ c18 : Nat, Vc.cell h1 (q16.add 0) = some (Value.slice a18 l18 c18) ∧ (0 : Int) ≤ 0 ∧ (0 : Int) ≤ x1 ∧ x1 ≤ (c18 : Int) ∧ ∃ s21 : ByteArray, s21.size = x1.toNat - 0 ∧ (∀ ad, cutAt c18 0 1 a18 = some ad → CellsAt h1 ad (bytesV s21)) ∧ (cutAt c18 0 1 a18 = none → x1.toNat - 0 = 0) ∧ ∃ q24 : Addr, p0 = some q24 ∧ ∃ a26 : Option Addr, ∃ l26 : Nat, ∃ c26 : Nat, Vc.cell h1 (q24.add 0) = some (Value.slice a26 l26 c26) ∧ (0 : Int) ≤ x1 ∧ (x1 : Int) ≤ (l26 : Int) ∧ ∃ q29 : Addr, p0 = some q29 ∧ storeK 1 h1 (q29.add 0) (Value.slice (cutAt c26 x1.toNat 1 a26) (l26 - x1.toNat) (c26 - x1.toNat)) fun h2 => R (Value.string s21) h2) Rp
def A33 : Ann := { pans := some [32, 33, 34] }
theorem F33_ent (p0 : Option Addr) (x1 : Int) (h : Heap) (R : Value → Heap → Prop) (Rp : Heap → Prop) (H : F33 Rp p0 x1 h R) : HCallsP Tryd.prog 33 #[Value.pointer p0, Value.int .i64 x1] h R Rp :=
  hentP A33 mixed Tryd.func33 rfl (by kernel_rfl) (by kernel_rfl) (Eq.mp (by kernel_rfl) H)

/-! ### 34 (*veneer/layer.reader).number -/
def F34_k1 (Rp : Heap → Prop) (a0 : Option Addr) (x5 : Int) (x6 : Int) (h : Heap) (R : Value → Heap → Prop) : Prop :=
  ∃ q29 : Addr, a0 = some q29 ∧ ∃ a31 : Option Addr, ∃ l31 : Nat, ∃ c31 : Nat, Vc.cell h (q29.add 0) = some (Value.slice a31 l31 c31) ∧ (0 : Int) ≤ x6 ∧ (x6 : Int) ≤ (l31 : Int) ∧ ∃ q34 : Addr, a0 = some q34 ∧ storeK 1 h (q34.add 0) (Value.slice (cutAt c31 x6.toNat 1 a31) (l31 - x6.toNat) (c31 - x6.toNat)) fun h1 => R (Value.int .i64 (IntKind.i64.wrap x5)) h1
def F34 (Rp : Heap → Prop) (p0 : Option Addr) (x1 : Int) (h : Heap) (R : Value → Heap → Prop) : Prop :=
  ∃ q10 : Addr, p0 = some q10 ∧ ∃ a12 : Option Addr, ∃ l12 : Nat, ∃ c12 : Nat, Vc.cell h (q10.add 0) = some (Value.slice a12 l12 c12) ∧ HCalls Tryd.prog 50 #[Value.slice a12 l12 c12] h fun r13 h1 => ∃ x13_0 : Int, ∃ x13_1 : Int, ∃ x13_2 : Int, r13 = Value.tuple #[Value.int .u64 x13_0, Value.int .i64 x13_1, Value.int .i64 x13_2] ∧ br ((x13_2 : Int) == 0) (HCallsP Tryd.prog 32 #[Value.pointer p0, Value.bool (decide ((x13_0 : Int) ≤ (IntKind.u64.wrap x1)))] h1 (fun r26 h2 => r26 = Value.tuple #[] ∧ F34_k1 Rp p0 x13_0 x13_1 h2 R) Rp) (HCallsP Tryd.prog 32 #[Value.pointer p0, Value.bool false] h1 (fun r26 h2 => r26 = Value.tuple #[] ∧ F34_k1 Rp p0 x13_0 x13_1 h2 R) Rp)
def A34 : Ann := { pans := some [32, 33, 34] }
theorem F34_ent (p0 : Option Addr) (x1 : Int) (h : Heap) (R : Value → Heap → Prop) (Rp : Heap → Prop) (H : F34 Rp p0 x1 h R) : HCallsP Tryd.prog 34 #[Value.pointer p0, Value.int .i64 x1] h R Rp :=
  hentP A34 mixed Tryd.func34 rfl (by kernel_rfl) (by kernel_rfl) (Eq.mp (by kernel_rfl) H)

/-! ### 50 veneer/num.ReadVar -/
def F50_k7 (I1 : Int → Int → Heap → Prop) (M1 : Int → Int → Heap → Nat) (m1 : Nat) (x5 : Int) (x6 : Int) (h : Heap) (R : Value → Heap → Prop) : Prop :=
  R (Value.tuple #[Value.int .u64 x5, Value.int .i64 (IntKind.i64.wrap (x6 + 1)), Value.int .i64 0]) h
def F50_k6 (I1 : Int → Int → Heap → Prop) (M1 : Int → Int → Heap → Nat) (m1 : Nat) (x5 : Int) (x6 : Int) (b41 : Bool) (h : Heap) (R : Value → Heap → Prop) : Prop :=
  br b41 (R (Value.tuple #[Value.int .u64 0, Value.int .i64 0, Value.int .i64 5]) h) (F50_k7 I1 M1 m1 x5 x6 h R)
def F50_k8 (I1 : Int → Int → Heap → Prop) (M1 : Int → Int → Heap → Nat) (m1 : Nat) (a0_0 : Option Addr) (n0_1 : Nat) (n0_2 : Nat) (x5 : Int) (x8 : Int) (h : Heap) (R : Value → Heap → Prop) : Prop :=
  I1 x5 (IntKind.i64.wrap (x8 + 1)) h ∧ M1 x5 (IntKind.i64.wrap (x8 + 1)) h < m1
def F50_k5 (I1 : Int → Int → Heap → Prop) (M1 : Int → Int → Heap → Nat) (m1 : Nat) (a0_0 : Option Addr) (n0_1 : Nat) (n0_2 : Nat) (x5 : Int) (x6 : Int) (x7 : Int) (x8 : Int) (h : Heap) (R : Value → Heap → Prop) : Prop :=
  (0 : Int) ≤ (IntKind.u64.wrap (7 * (IntKind.u64.wrap x6))) ∧ ∀ x5_1 : Int, x5_1 = orI .u64 x5 (shlI .u64 (IntKind.u64.wrap (andI .u8 x7 127)) (IntKind.u64.wrap (7 * (IntKind.u64.wrap x6)))) → br (decide ((x7 : Int) < 128)) (br ((x7 : Int) == 0) (F50_k6 I1 M1 m1 x5_1 x6 (decide ((x6 : Int) > 0)) h R) (F50_k6 I1 M1 m1 x5_1 x6 false h R)) (F50_k8 I1 M1 m1 a0_0 n0_1 n0_2 x5_1 x8 h R)
def F50_k4 (I1 : Int → Int → Heap → Prop) (M1 : Int → Int → Heap → Nat) (m1 : Nat) (a0_0 : Option Addr) (n0_1 : Nat) (n0_2 : Nat) (x5 : Int) (x6 : Int) (x7 : Int) (x8 : Int) (b24 : Bool) (h : Heap) (R : Value → Heap → Prop) : Prop :=
  br b24 (R (Value.tuple #[Value.int .u64 0, Value.int .i64 0, Value.int .i64 5]) h) (F50_k5 I1 M1 m1 a0_0 n0_1 n0_2 x5 x6 x7 x8 h R)
def F50_k3 (I1 : Int → Int → Heap → Prop) (M1 : Int → Int → Heap → Nat) (m1 : Nat) (a0_0 : Option Addr) (n0_1 : Nat) (n0_2 : Nat) (x5 : Int) (x6 : Int) (x8 : Int) (h : Heap) (R : Value → Heap → Prop) : Prop :=
  ∃ q17 : Addr, a0_0 = some q17 ∧ (0 : Int) ≤ x6 ∧ x6 < (n0_1 : Int) ∧ ∃ x18 : Int, Vc.cell h (q17.add (x6.toNat * 1)) = some (Value.int .u8 x18) ∧ br ((x6 : Int) == 9) (F50_k4 I1 M1 m1 a0_0 n0_1 n0_2 x5 x6 x18 x8 (decide ((x18 : Int) > 1)) h R) (F50_k4 I1 M1 m1 a0_0 n0_1 n0_2 x5 x6 x18 x8 false h R)
def F50_k2 (I1 : Int → Int → Heap → Prop) (M1 : Int → Int → Heap → Nat) (m1 : Nat) (a0_0 : Option Addr) (n0_1 : Nat) (n0_2 : Nat) (x5 : Int) (x8 : Int) (h : Heap) (R : Value → Heap → Prop) : Prop :=
  br (decide ((x8 : Int) ≥ (n0_1 : Int))) (R (Value.tuple #[Value.int .u64 0, Value.int .i64 0, Value.int .i64 4]) h) (F50_k3 I1 M1 m1 a0_0 n0_1 n0_2 x5 x8 x8 h R)
def F50_k9 (h : Heap) (R : Value → Heap → Prop) : Prop :=
  R (Value.tuple #[Value.int .u64 0, Value.int .i64 0, Value.int .i64 5]) h
def F50_b1 (I1 : Int → Int → Heap → Prop) (M1 : Int → Int → Heap → Nat) (m1 : Nat) (a0_0 : Option Addr) (n0_1 : Nat) (n0_2 : Nat) (x5 : Int) (x8 : Int) (h : Heap) (R : Value → Heap → Prop) : Prop :=
  br (decide ((x8 : Int) < 10)) (F50_k2 I1 M1 m1 a0_0 n0_1 n0_2 x5 x8 h R) (F50_k9 h R)
def F50 (a0 : Option Addr) (l0 : Nat) (c0 : Nat) (h : Heap) (R : Value → Heap → Prop) : Prop :=
  ∀ x5 : Int, x5 = 0 → ∃ (I1 : Int → Int → Heap → Prop) (M1 : Int → Int → Heap → Nat), I1 x5 0 h ∧ ∀ h1 (x5_1 : Int) (x8 : Int), I1 x5_1 x8 h1 → F50_b1 I1 M1 (M1 x5_1 x8 h1) a0 l0 c0 x5_1 x8 h1 R
def A50 : Ann := { bind := [5], loops := [(3, [(5, .int .u64), (8, .int .i64)])] }
theorem F50_ent (a0 : Option Addr) (l0 : Nat) (c0 : Nat) (h : Heap) (R : Value → Heap → Prop) (H : F50 a0 l0 c0 h R) : HEnt Tryd.prog 50 #[Value.slice a0 l0 c0] h R :=
  hent A50 mixed Tryd.func50 rfl (by kernel_rfl) (by kernel_rfl) (Eq.mp (by kernel_rfl) H)

end Go.Proofs.YtnahhdkekchmfaaDoor
