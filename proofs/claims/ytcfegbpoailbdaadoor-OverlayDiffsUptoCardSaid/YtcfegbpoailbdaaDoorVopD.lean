import Derived.Test.YtcfegbpoailbdaaDoorProg
import Derived.Test.YtcfegbpoailbdaaDoorVopA
import Derived.Test.YtcfegbpoailbdaaDoorVxpC

set_option linter.unusedVariables false
set_option maxRecDepth 100000
namespace Go.Proofs.YtcfegbpoailbdaaDoor
open Go.Vc
/-! ### 16 veneer/veneerref06.Same -/
def F16_k4 (I2 : Int → Heap → Prop) (M2 : Int → Heap → Nat) (m2 : Nat) (a0_0 : Option Addr) (n0_1 : Nat) (n0_2 : Nat) (a1_0 : Option Addr) (n1_1 : Nat) (n1_2 : Nat) (x5 : Int) (h : Heap) (R : Value → Heap → Prop) : Prop :=
  ∀ x5_1 : Int, x5_1 = IntKind.i64.wrap (x5 + 1) → I2 x5_1 h ∧ M2 x5_1 h < m2
def F16_k3 (I2 : Int → Heap → Prop) (M2 : Int → Heap → Nat) (m2 : Nat) (a0_0 : Option Addr) (n0_1 : Nat) (n0_2 : Nat) (a1_0 : Option Addr) (n1_1 : Nat) (n1_2 : Nat) (x5 : Int) (h : Heap) (R : Value → Heap → Prop) : Prop :=
  ∃ q19 : Addr, a0_0 = some q19 ∧ (0 : Int) ≤ x5 ∧ x5 < (n0_1 : Int) ∧ ∃ s20_0 : ByteArray, ∃ x20_1 : Int, ∃ x20_2 : Int, ∃ s20_3 : ByteArray, Vc.cell h ((q19.add (x5.toNat * 4)).add 0) = some (Value.string s20_0) ∧ Vc.cell h ((q19.add (x5.toNat * 4)).add 1) = some (Value.int .i64 x20_1) ∧ Vc.cell h ((q19.add (x5.toNat * 4)).add 2) = some (Value.int .i64 x20_2) ∧ Vc.cell h ((q19.add (x5.toNat * 4)).add 3) = some (Value.string s20_3) ∧ 4 = 4 ∧ ∃ q23 : Addr, a1_0 = some q23 ∧ (0 : Int) ≤ x5 ∧ x5 < (n1_1 : Int) ∧ ∃ s24_0 : ByteArray, ∃ x24_1 : Int, ∃ x24_2 : Int, ∃ s24_3 : ByteArray, Vc.cell h ((q23.add (x5.toNat * 4)).add 0) = some (Value.string s24_0) ∧ Vc.cell h ((q23.add (x5.toNat * 4)).add 1) = some (Value.int .i64 x24_1) ∧ Vc.cell h ((q23.add (x5.toNat * 4)).add 2) = some (Value.int .i64 x24_2) ∧ Vc.cell h ((q23.add (x5.toNat * 4)).add 3) = some (Value.string s24_3) ∧ 4 = 4 ∧ ∃ e25 : Bool, (∀ w : World, (Op.equal 38 (Value.agg #[Value.string s20_0, Value.int .i64 x20_1, Value.int .i64 x20_2, Value.string s20_3]) (Value.agg #[Value.string s24_0, Value.int .i64 x24_1, Value.int .i64 x24_2, Value.string s24_3])).run Tryd.prog w = .ok e25 w) ∧ Tryd.prog.eqGuardType Tryd.prog.depth 38 = false ∧ ∀ h1, Cls false h h1 → br (!e25) (R (Value.bool false) h1) (F16_k4 I2 M2 m2 a0_0 n0_1 n0_2 a1_0 n1_1 n1_2 x5 h1 R)
def F16_k5 (h : Heap) (R : Value → Heap → Prop) : Prop :=
  R (Value.bool true) h
def F16_b2 (I2 : Int → Heap → Prop) (M2 : Int → Heap → Nat) (m2 : Nat) (a0_0 : Option Addr) (n0_1 : Nat) (n0_2 : Nat) (a1_0 : Option Addr) (n1_1 : Nat) (n1_2 : Nat) (x5 : Int) (h : Heap) (R : Value → Heap → Prop) : Prop :=
  br (decide ((x5 : Int) < (n0_1 : Int))) (F16_k3 I2 M2 m2 a0_0 n0_1 n0_2 a1_0 n1_1 n1_2 x5 h R) (F16_k5 h R)
def F16_k1 (a0_0 : Option Addr) (n0_1 : Nat) (n0_2 : Nat) (a1_0 : Option Addr) (n1_1 : Nat) (n1_2 : Nat) (h : Heap) (R : Value → Heap → Prop) : Prop :=
  ∀ x5 : Int, x5 = 0 → ∃ (I2 : Int → Heap → Prop) (M2 : Int → Heap → Nat), I2 x5 h ∧ ∀ h1 (x5_1 : Int), I2 x5_1 h1 → F16_b2 I2 M2 (M2 x5_1 h1) a0_0 n0_1 n0_2 a1_0 n1_1 n1_2 x5_1 h1 R
def F16 (a0 : Option Addr) (l0 : Nat) (c0 : Nat) (a1 : Option Addr) (l1 : Nat) (c1 : Nat) (h : Heap) (R : Value → Heap → Prop) : Prop :=
  br (((l0 : Int) : Int) != (l1 : Int)) (R (Value.bool false) h) (F16_k1 a0 l0 c0 a1 l1 c1 h R)
def A16 : Ann := { bind := [5], loops := [(4, [(5, .int .i64)])], draws := [(6, 0, 9)] }
theorem F16_ent (a0 : Option Addr) (l0 : Nat) (c0 : Nat) (a1 : Option Addr) (l1 : Nat) (c1 : Nat) (h : Heap) (R : Value → Heap → Prop) (H : F16 a0 l0 c0 a1 l1 c1 h R) : HEnt Tryd.prog 16 #[Value.slice a0 l0 c0, Value.slice a1 l1 c1] h R :=
  hent A16 mixed Tryd.func16 rfl (by kernel_rfl) (by kernel_rfl) (Eq.mp (by kernel_rfl) H)

/-! ### 22 veneer/layer.Check -/
def F22_k10 (I2 : ByteArray → Int → Heap → Prop) (M2 : ByteArray → Int → Heap → Nat) (m2 : Nat) (a0_0 : Option Addr) (n0_1 : Nat) (n0_2 : Nat) (s4 : ByteArray) (a11_0 : Option Addr) (n11_1 : Nat) (n11_2 : Nat) (x12 : Int) (x13 : Int) (h : Heap) (R : Value → Heap → Prop) : Prop :=
  I2 s4 (IntKind.i64.wrap (x13 + 1)) h ∧ M2 s4 (IntKind.i64.wrap (x13 + 1)) h < m2
def F22_k9 (I2 : ByteArray → Int → Heap → Prop) (M2 : ByteArray → Int → Heap → Nat) (m2 : Nat) (a0_0 : Option Addr) (n0_1 : Nat) (n0_2 : Nat) (s4 : ByteArray) (q6 : Addr) (a11_0 : Option Addr) (n11_1 : Nat) (n11_2 : Nat) (x12 : Int) (x13 : Int) (b55 : Bool) (h : Heap) (R : Value → Heap → Prop) : Prop :=
  br b55 (∃ s57 : ByteArray, Vc.cell h (q6.add 0) = some (Value.string s57) ∧ F22_k10 I2 M2 m2 a0_0 n0_1 n0_2 s57 a11_0 n11_1 n11_2 x12 x13 h R) (F22_k10 I2 M2 m2 a0_0 n0_1 n0_2 s4 a11_0 n11_1 n11_2 x12 x13 h R)
def F22_k8 (I2 : ByteArray → Int → Heap → Prop) (M2 : ByteArray → Int → Heap → Nat) (m2 : Nat) (a0_0 : Option Addr) (n0_1 : Nat) (n0_2 : Nat) (s4 : ByteArray) (q6 : Addr) (a11_0 : Option Addr) (n11_1 : Nat) (n11_2 : Nat) (x12 : Int) (x13 : Int) (h : Heap) (R : Value → Heap → Prop) : Prop :=
  ∃ x49 : Int, Vc.cell h (q6.add 1) = some (Value.int .i64 x49) ∧ br ((x49 : Int) == 1) (F22_k9 I2 M2 m2 a0_0 n0_1 n0_2 s4 q6 a11_0 n11_1 n11_2 x12 x13 true h R) (∃ x53 : Int, Vc.cell h (q6.add 1) = some (Value.int .i64 x53) ∧ F22_k9 I2 M2 m2 a0_0 n0_1 n0_2 s4 q6 a11_0 n11_1 n11_2 x12 x13 ((x53 : Int) == 3) h R)
def F22_k7 (I2 : ByteArray → Int → Heap → Prop) (M2 : ByteArray → Int → Heap → Nat) (m2 : Nat) (a0_0 : Option Addr) (n0_1 : Nat) (n0_2 : Nat) (s4 : ByteArray) (x5 : Int) (q6 : Addr) (a11_0 : Option Addr) (n11_1 : Nat) (n11_2 : Nat) (x12 : Int) (x13 : Int) (b46 : Bool) (h : Heap) (R : Value → Heap → Prop) : Prop :=
  br b46 (R (Value.tuple #[Value.int .i64 x5, Value.int .i64 11]) h) (F22_k8 I2 M2 m2 a0_0 n0_1 n0_2 s4 q6 a11_0 n11_1 n11_2 x12 x13 h R)
def F22_k6 (I2 : ByteArray → Int → Heap → Prop) (M2 : ByteArray → Int → Heap → Nat) (m2 : Nat) (a0_0 : Option Addr) (n0_1 : Nat) (n0_2 : Nat) (s4 : ByteArray) (x5 : Int) (q6 : Addr) (a11_0 : Option Addr) (n11_1 : Nat) (n11_2 : Nat) (x12 : Int) (x13 : Int) (h : Heap) (R : Value → Heap → Prop) : Prop :=
  br (!(seq s4 (⟨#[]⟩ : ByteArray))) (∃ s44 : ByteArray, Vc.cell h (q6.add 0) = some (Value.string s44) ∧ HCalls Tryd.prog 18 #[Value.string s4, Value.string s44] h fun r45 h1 => ∃ b45 : Bool, r45 = Value.bool b45 ∧ F22_k7 I2 M2 m2 a0_0 n0_1 n0_2 s4 x5 q6 a11_0 n11_1 n11_2 x12 x13 b45 h1 R) (F22_k7 I2 M2 m2 a0_0 n0_1 n0_2 s4 x5 q6 a11_0 n11_1 n11_2 x12 x13 false h R)
def F22_k5 (I2 : ByteArray → Int → Heap → Prop) (M2 : ByteArray → Int → Heap → Nat) (m2 : Nat) (a0_0 : Option Addr) (n0_1 : Nat) (n0_2 : Nat) (s4 : ByteArray) (x5 : Int) (q6 : Addr) (a11_0 : Option Addr) (n11_1 : Nat) (n11_2 : Nat) (x12 : Int) (x13 : Int) (b37 : Bool) (h : Heap) (R : Value → Heap → Prop) : Prop :=
  br b37 (R (Value.tuple #[Value.int .i64 x5, Value.int .i64 14]) h) (F22_k6 I2 M2 m2 a0_0 n0_1 n0_2 s4 x5 q6 a11_0 n11_1 n11_2 x12 x13 h R)
def F22_k4 (I2 : ByteArray → Int → Heap → Prop) (M2 : ByteArray → Int → Heap → Nat) (m2 : Nat) (a0_0 : Option Addr) (n0_1 : Nat) (n0_2 : Nat) (s4 : ByteArray) (x5 : Int) (q6 : Addr) (a11_0 : Option Addr) (n11_1 : Nat) (n11_2 : Nat) (x12 : Int) (x13 : Int) (h : Heap) (R : Value → Heap → Prop) : Prop :=
  br (decide ((x5 : Int) > 0)) (∃ q30 : Addr, a0_0 = some q30 ∧ (0 : Int) ≤ IntKind.i64.wrap (x5 - 1) ∧ IntKind.i64.wrap (x5 - 1) < (n0_1 : Int) ∧ ∃ s32 : ByteArray, Vc.cell h ((q30.add (((IntKind.i64.wrap (x5 - 1)).toNat) * 4)).add 0) = some (Value.string s32) ∧ ∃ s34 : ByteArray, Vc.cell h (q6.add 0) = some (Value.string s34) ∧ ∃ b35 : Bool, (∀ h1, Cls false h h1 → HEnt Tryd.prog 41 #[Value.string s32, Value.string s34] h1 fun v h2 => v = Value.bool b35 ∧ Cls false h1 h2) ∧ ∀ h1, Cls false h h1 → F22_k5 I2 M2 m2 a0_0 n0_1 n0_2 s4 x5 q6 a11_0 n11_1 n11_2 x12 x13 (!b35) h1 R) (∀ h1, Cls false h h1 → F22_k5 I2 M2 m2 a0_0 n0_1 n0_2 s4 x5 q6 a11_0 n11_1 n11_2 x12 x13 false h1 R)
def F22_k3 (I2 : ByteArray → Int → Heap → Prop) (M2 : ByteArray → Int → Heap → Nat) (m2 : Nat) (a0_0 : Option Addr) (n0_1 : Nat) (n0_2 : Nat) (s4 : ByteArray) (a11_0 : Option Addr) (n11_1 : Nat) (n11_2 : Nat) (x12 : Int) (x13 : Int) (h : Heap) (R : Value → Heap → Prop) : Prop :=
  ∃ q16 : Addr, a11_0 = some q16 ∧ (0 : Int) ≤ x13 ∧ x13 < (n11_1 : Int) ∧ ∃ s17_0 : ByteArray, ∃ x17_1 : Int, ∃ x17_2 : Int, ∃ s17_3 : ByteArray, Vc.cell h ((q16.add (x13.toNat * 4)).add 0) = some (Value.string s17_0) ∧ Vc.cell h ((q16.add (x13.toNat * 4)).add 1) = some (Value.int .i64 x17_1) ∧ Vc.cell h ((q16.add (x13.toNat * 4)).add 2) = some (Value.int .i64 x17_2) ∧ Vc.cell h ((q16.add (x13.toNat * 4)).add 3) = some (Value.string s17_3) ∧ 4 = 4 ∧ newK h (.cells (zeroC Tryd.prog 38) 38) fun b6 h1 => storeK 4 h1 (at0 b6) (Value.agg #[Value.string s17_0, Value.int .i64 x17_1, Value.int .i64 x17_2, Value.string s17_3]) fun h2 => ∃ s18_0 : ByteArray, ∃ x18_1 : Int, ∃ x18_2 : Int, ∃ s18_3 : ByteArray, Vc.cell h2 ((at0 b6).add 0) = some (Value.string s18_0) ∧ Vc.cell h2 ((at0 b6).add 1) = some (Value.int .i64 x18_1) ∧ Vc.cell h2 ((at0 b6).add 2) = some (Value.int .i64 x18_2) ∧ Vc.cell h2 ((at0 b6).add 3) = some (Value.string s18_3) ∧ 4 = 4 ∧ HCalls Tryd.prog 40 #[Value.agg #[Value.string s18_0, Value.int .i64 x18_1, Value.int .i64 x18_2, Value.string s18_3]] h2 fun r19 h3 => ∃ x19 : Int, r19 = Value.int .i64 x19 ∧ br ((x19 : Int) != 0) (R (Value.tuple #[Value.int .i64 x13, Value.int .i64 x19]) h3) (F22_k4 I2 M2 m2 a0_0 n0_1 n0_2 s4 x13 (at0 b6) a11_0 n11_1 n11_2 x12 x13 h3 R)
def F22_k11 (h : Heap) (R : Value → Heap → Prop) : Prop :=
  R (Value.tuple #[Value.int .i64 0, Value.int .i64 0]) h
def F22_b2 (I2 : ByteArray → Int → Heap → Prop) (M2 : ByteArray → Int → Heap → Nat) (m2 : Nat) (a0_0 : Option Addr) (n0_1 : Nat) (n0_2 : Nat) (s4 : ByteArray) (a11_0 : Option Addr) (n11_1 : Nat) (n11_2 : Nat) (x12 : Int) (x13 : Int) (h : Heap) (R : Value → Heap → Prop) : Prop :=
  br (decide ((x13 : Int) < x12)) (F22_k3 I2 M2 m2 a0_0 n0_1 n0_2 s4 a11_0 n11_1 n11_2 x12 x13 h R) (F22_k11 h R)
def F22_k1 (a0_0 : Option Addr) (n0_1 : Nat) (n0_2 : Nat) (h : Heap) (R : Value → Heap → Prop) : Prop :=
  ∃ (I2 : ByteArray → Int → Heap → Prop) (M2 : ByteArray → Int → Heap → Nat), I2 (⟨#[]⟩ : ByteArray) 0 h ∧ ∀ h1 (s4 : ByteArray) (x13 : Int), I2 s4 x13 h1 → F22_b2 I2 M2 (M2 s4 x13 h1) a0_0 n0_1 n0_2 s4 a0_0 n0_1 n0_2 (n0_1 : Int) x13 h1 R
def F22 (a0 : Option Addr) (l0 : Nat) (c0 : Nat) (h : Heap) (R : Value → Heap → Prop) : Prop :=
  br (decide (((l0 : Int) : Int) > 64)) (R (Value.tuple #[Value.int .i64 0, Value.int .i64 3]) h) (F22_k1 a0 l0 c0 h R)
def A22 : Ann := { loops := [(5, [(4, .str), (13, .int .i64)])], draws := [(10, 0, 14)] }
theorem F22_ent (a0 : Option Addr) (l0 : Nat) (c0 : Nat) (h : Heap) (R : Value → Heap → Prop) (H : F22 a0 l0 c0 h R) : HEnt Tryd.prog 22 #[Value.slice a0 l0 c0] h R :=
  hent A22 mixed Tryd.func22 rfl (by kernel_rfl) (by kernel_rfl) (Eq.mp (by kernel_rfl) H)

/-! ### 29 veneer/veneerref06.Check -/
def F29_k4 (I2 : Int → Heap → Prop) (M2 : Int → Heap → Nat) (m2 : Nat) (a0_0 : Option Addr) (n0_1 : Nat) (n0_2 : Nat) (x4 : Int) (h : Heap) (R : Value → Heap → Prop) : Prop :=
  ∀ x4_1 : Int, x4_1 = IntKind.i64.wrap (x4 + 1) → I2 x4_1 h ∧ M2 x4_1 h < m2
def F29_k3 (I2 : Int → Heap → Prop) (M2 : Int → Heap → Nat) (m2 : Nat) (a0_0 : Option Addr) (n0_1 : Nat) (n0_2 : Nat) (x4 : Int) (h : Heap) (R : Value → Heap → Prop) : Prop :=
  HCalls Tryd.prog 48 #[Value.slice a0_0 n0_1 n0_2, Value.int .i64 x4] h fun r17 h1 => ∃ x17 : Int, r17 = Value.int .i64 x17 ∧ br ((x17 : Int) != 0) (R (Value.tuple #[Value.int .i64 x4, Value.int .i64 x17]) h1) (F29_k4 I2 M2 m2 a0_0 n0_1 n0_2 x4 h1 R)
def F29_k5 (h : Heap) (R : Value → Heap → Prop) : Prop :=
  R (Value.tuple #[Value.int .i64 0, Value.int .i64 0]) h
def F29_b2 (I2 : Int → Heap → Prop) (M2 : Int → Heap → Nat) (m2 : Nat) (a0_0 : Option Addr) (n0_1 : Nat) (n0_2 : Nat) (x4 : Int) (h : Heap) (R : Value → Heap → Prop) : Prop :=
  br (decide ((x4 : Int) < (n0_1 : Int))) (F29_k3 I2 M2 m2 a0_0 n0_1 n0_2 x4 h R) (F29_k5 h R)
def F29_k1 (a0_0 : Option Addr) (n0_1 : Nat) (n0_2 : Nat) (h : Heap) (R : Value → Heap → Prop) : Prop :=
  ∀ x4 : Int, x4 = 0 → ∃ (I2 : Int → Heap → Prop) (M2 : Int → Heap → Nat), I2 x4 h ∧ ∀ h1 (x4_1 : Int), I2 x4_1 h1 → F29_b2 I2 M2 (M2 x4_1 h1) a0_0 n0_1 n0_2 x4_1 h1 R
def F29 (a0 : Option Addr) (l0 : Nat) (c0 : Nat) (h : Heap) (R : Value → Heap → Prop) : Prop :=
  br (decide (((l0 : Int) : Int) > 64)) (R (Value.tuple #[Value.int .i64 0, Value.int .i64 3]) h) (F29_k1 a0 l0 c0 h R)
def A29 : Ann := { bind := [4], loops := [(4, [(4, .int .i64)])] }
theorem F29_ent (a0 : Option Addr) (l0 : Nat) (c0 : Nat) (h : Heap) (R : Value → Heap → Prop) (H : F29 a0 l0 c0 h R) : HEnt Tryd.prog 29 #[Value.slice a0 l0 c0] h R :=
  hent A29 mixed Tryd.func29 rfl (by kernel_rfl) (by kernel_rfl) (Eq.mp (by kernel_rfl) H)

/-! ### 38 veneer/veneerref08.has -/
def F38_k3 (I1 : Int → Heap → Prop) (M1 : Int → Heap → Nat) (m1 : Nat) (a0_0 : Option Addr) (n0_1 : Nat) (n0_2 : Nat) (s1 : ByteArray) (x5 : Int) (h : Heap) (R : Value → Heap → Prop) : Prop :=
  ∀ x5_1 : Int, x5_1 = IntKind.i64.wrap (x5 + 1) → I1 x5_1 h ∧ M1 x5_1 h < m1
def F38_k2 (I1 : Int → Heap → Prop) (M1 : Int → Heap → Nat) (m1 : Nat) (a0_0 : Option Addr) (n0_1 : Nat) (n0_2 : Nat) (s1 : ByteArray) (x5 : Int) (h : Heap) (R : Value → Heap → Prop) : Prop :=
  ∃ q14 : Addr, a0_0 = some q14 ∧ (0 : Int) ≤ x5 ∧ x5 < (n0_1 : Int) ∧ ∃ s16 : ByteArray, Vc.cell h ((q14.add (x5.toNat * 4)).add 0) = some (Value.string s16) ∧ br (seq s16 s1) (R (Value.int .i64 x5) h) (F38_k3 I1 M1 m1 a0_0 n0_1 n0_2 s1 x5 h R)
def F38_k4 (h : Heap) (R : Value → Heap → Prop) : Prop :=
  R (Value.int .i64 (-1)) h
def F38_b1 (I1 : Int → Heap → Prop) (M1 : Int → Heap → Nat) (m1 : Nat) (a0_0 : Option Addr) (n0_1 : Nat) (n0_2 : Nat) (s1 : ByteArray) (x5 : Int) (h : Heap) (R : Value → Heap → Prop) : Prop :=
  br (decide ((x5 : Int) < (n0_1 : Int))) (F38_k2 I1 M1 m1 a0_0 n0_1 n0_2 s1 x5 h R) (F38_k4 h R)
def F38 (a0 : Option Addr) (l0 : Nat) (c0 : Nat) (s1 : ByteArray) (h : Heap) (R : Value → Heap → Prop) : Prop :=
  ∀ x5 : Int, x5 = 0 → ∃ (I1 : Int → Heap → Prop) (M1 : Int → Heap → Nat), I1 x5 h ∧ ∀ h1 (x5_1 : Int), I1 x5_1 h1 → F38_b1 I1 M1 (M1 x5_1 h1) a0 l0 c0 s1 x5_1 h1 R
def A38 : Ann := { bind := [5], loops := [(2, [(5, .int .i64)])] }
theorem F38_ent (a0 : Option Addr) (l0 : Nat) (c0 : Nat) (s1 : ByteArray) (h : Heap) (R : Value → Heap → Prop) (H : F38 a0 l0 c0 s1 h R) : HEnt Tryd.prog 38 #[Value.slice a0 l0 c0, Value.string s1] h R :=
  hent A38 mixed Tryd.func38 rfl (by kernel_rfl) (by kernel_rfl) (Eq.mp (by kernel_rfl) H)

/-! ### 40 veneer/layer.alone -/
def F40_k7 (h : Heap) (R : Value → Heap → Prop) : Prop :=
  R (Value.int .i64 0) h
def F40_k6 (q1 : Addr) (h : Heap) (R : Value → Heap → Prop) : Prop :=
  ∃ s43 : ByteArray, Vc.cell h (q1.add 3) = some (Value.string s43) ∧ br (!(seq s43 (⟨#[]⟩ : ByteArray))) (R (Value.int .i64 5) h) (F40_k7 h R)
def F40_k5 (q1 : Addr) (b41 : Bool) (h : Heap) (R : Value → Heap → Prop) : Prop :=
  br b41 (R (Value.int .i64 2) h) (F40_k6 q1 h R)
def F40_k4 (q1 : Addr) (x5 : Int) (h : Heap) (R : Value → Heap → Prop) : Prop :=
  ∃ x34 : Int, Vc.cell h (q1.add 2) = some (Value.int .i64 x34) ∧ br (decide ((x34 : Int) < 0)) (F40_k5 q1 true h R) (∃ x38 : Int, Vc.cell h (q1.add 2) = some (Value.int .i64 x38) ∧ F40_k5 q1 (decide ((x38 : Int) > x5)) h R)
def F40_k3 (q1 : Addr) (h : Heap) (R : Value → Heap → Prop) : Prop :=
  F40_k4 q1 0 h R
def F40_k13 (q1 : Addr) (h : Heap) (R : Value → Heap → Prop) : Prop :=
  ∃ s55 : ByteArray, Vc.cell h (q1.add 3) = some (Value.string s55) ∧ br (decide (((s55.size : Int) : Int) > 256)) (R (Value.int .i64 3) h) (F40_k7 h R)
def F40_k12 (q1 : Addr) (b53 : Bool) (h : Heap) (R : Value → Heap → Prop) : Prop :=
  br b53 (R (Value.int .i64 2) h) (F40_k13 q1 h R)
def F40_k11 (q1 : Addr) (x5 : Int) (h : Heap) (R : Value → Heap → Prop) : Prop :=
  ∃ x46 : Int, Vc.cell h (q1.add 2) = some (Value.int .i64 x46) ∧ br (decide ((x46 : Int) < 0)) (F40_k12 q1 true h R) (∃ x50 : Int, Vc.cell h (q1.add 2) = some (Value.int .i64 x50) ∧ F40_k12 q1 (decide ((x50 : Int) > x5)) h R)
def F40_k14 (h : Heap) (R : Value → Heap → Prop) : Prop :=
  R (Value.int .i64 13) h
def F40_k10 (q1 : Addr) (x5 : Int) (x25 : Int) (h : Heap) (R : Value → Heap → Prop) : Prop :=
  br ((x25 : Int) == 1) (F40_k11 q1 x5 h R) (F40_k14 h R)
def F40_k9 (q1 : Addr) (x5 : Int) (x25 : Int) (b28 : Bool) (h : Heap) (R : Value → Heap → Prop) : Prop :=
  br b28 (F40_k4 q1 x5 h R) (F40_k10 q1 x5 x25 h R)
def F40_k8 (q1 : Addr) (x5 : Int) (x25 : Int) (h : Heap) (R : Value → Heap → Prop) : Prop :=
  br ((x25 : Int) == 2) (F40_k9 q1 x5 x25 ((x25 : Int) == 2) h R) (F40_k9 q1 x5 x25 ((x25 : Int) == 4) h R)
def F40_k2 (q1 : Addr) (h : Heap) (R : Value → Heap → Prop) : Prop :=
  ∃ x25 : Int, Vc.cell h (q1.add 1) = some (Value.int .i64 x25) ∧ br ((x25 : Int) == 3) (F40_k3 q1 h R) (F40_k8 q1 511 x25 h R)
def F40_k1 (q1 : Addr) (b23 : Bool) (h : Heap) (R : Value → Heap → Prop) : Prop :=
  br b23 (R (Value.int .i64 12) h) (F40_k2 q1 h R)
def F40 (s0_0 : ByteArray) (x0_1 : Int) (x0_2 : Int) (s0_3 : ByteArray) (h : Heap) (R : Value → Heap → Prop) : Prop :=
  newK h (.cells #[Value.string s0_0, Value.int .i64 x0_1, Value.int .i64 x0_2, Value.string s0_3] 38) fun b1 h1 => ∃ s8 : ByteArray, Vc.cell h1 ((at0 b1).add 0) = some (Value.string s8) ∧ HCalls Tryd.prog 17 #[Value.string s8] h1 fun r9 h2 => ∃ s9_0 : ByteArray, ∃ x9_1 : Int, r9 = Value.tuple #[Value.string s9_0, Value.int .i64 x9_1] ∧ br ((x9_1 : Int) != 0) (F40_k1 (at0 b1) true h2 R) (∃ s17 : ByteArray, Vc.cell h2 ((at0 b1).add 0) = some (Value.string s17) ∧ br (!(seq s9_0 s17)) (F40_k1 (at0 b1) true h2 R) (F40_k1 (at0 b1) (seq s9_0 (⟨#[]⟩ : ByteArray)) h2 R))
def A40 : Ann := {  }
theorem F40_ent (s0_0 : ByteArray) (x0_1 : Int) (x0_2 : Int) (s0_3 : ByteArray) (h : Heap) (R : Value → Heap → Prop) (H : F40 s0_0 x0_1 x0_2 s0_3 h R) : HEnt Tryd.prog 40 #[Value.agg #[Value.string s0_0, Value.int .i64 x0_1, Value.int .i64 x0_2, Value.string s0_3]] h R :=
  hent A40 mixed Tryd.func40 rfl (by kernel_rfl) (by kernel_rfl) (Eq.mp (by kernel_rfl) H)

/-! ### 48 veneer/veneerref06.wrong -/
def F48_k15 (I12 : Int → Heap → Prop) (M12 : Int → Heap → Nat) (m12 : Nat) (a0_0 : Option Addr) (n0_1 : Nat) (n0_2 : Nat) (x1 : Int) (q5 : Addr) (x6 : Int) (h : Heap) (R : Value → Heap → Prop) : Prop :=
  I12 (IntKind.i64.wrap (x6 + 1)) h ∧ M12 (IntKind.i64.wrap (x6 + 1)) h < m12
def F48_k14 (I12 : Int → Heap → Prop) (M12 : Int → Heap → Nat) (m12 : Nat) (a0_0 : Option Addr) (n0_1 : Nat) (n0_2 : Nat) (x1 : Int) (q5 : Addr) (x6 : Int) (b100 : Bool) (h : Heap) (R : Value → Heap → Prop) : Prop :=
  br b100 (R (Value.int .i64 11) h) (F48_k15 I12 M12 m12 a0_0 n0_1 n0_2 x1 q5 x6 h R)
def F48_k13 (I12 : Int → Heap → Prop) (M12 : Int → Heap → Nat) (m12 : Nat) (a0_0 : Option Addr) (n0_1 : Nat) (n0_2 : Nat) (x1 : Int) (q5 : Addr) (x6 : Int) (h : Heap) (R : Value → Heap → Prop) : Prop :=
  ∃ q79 : Addr, a0_0 = some q79 ∧ (0 : Int) ≤ x6 ∧ x6 < (n0_1 : Int) ∧ ∃ x81 : Int, Vc.cell h ((q79.add (x6.toNat * 4)).add 1) = some (Value.int .i64 x81) ∧ br ((x81 : Int) == 1) (∃ q94 : Addr, a0_0 = some q94 ∧ (0 : Int) ≤ x6 ∧ x6 < (n0_1 : Int) ∧ ∃ s96 : ByteArray, Vc.cell h ((q94.add (x6.toNat * 4)).add 0) = some (Value.string s96) ∧ ∃ s98 : ByteArray, Vc.cell h (q5.add 0) = some (Value.string s98) ∧ ∃ b99 : Bool, (∀ h1, Cls false h h1 → HEnt Tryd.prog 53 #[Value.string s96, Value.string s98] h1 fun v h2 => v = Value.bool b99 ∧ Cls false h1 h2) ∧ ∀ h1, Cls false h h1 → F48_k14 I12 M12 m12 a0_0 n0_1 n0_2 x1 q5 x6 b99 h1 R) (∃ q86 : Addr, a0_0 = some q86 ∧ (0 : Int) ≤ x6 ∧ x6 < (n0_1 : Int) ∧ ∃ x88 : Int, Vc.cell h ((q86.add (x6.toNat * 4)).add 1) = some (Value.int .i64 x88) ∧ br ((x88 : Int) == 3) (∃ q94 : Addr, a0_0 = some q94 ∧ (0 : Int) ≤ x6 ∧ x6 < (n0_1 : Int) ∧ ∃ s96 : ByteArray, Vc.cell h ((q94.add (x6.toNat * 4)).add 0) = some (Value.string s96) ∧ ∃ s98 : ByteArray, Vc.cell h (q5.add 0) = some (Value.string s98) ∧ ∃ b99 : Bool, (∀ h1, Cls false h h1 → HEnt Tryd.prog 53 #[Value.string s96, Value.string s98] h1 fun v h2 => v = Value.bool b99 ∧ Cls false h1 h2) ∧ ∀ h1, Cls false h h1 → F48_k14 I12 M12 m12 a0_0 n0_1 n0_2 x1 q5 x6 b99 h1 R) (∀ h1, Cls false h h1 → F48_k14 I12 M12 m12 a0_0 n0_1 n0_2 x1 q5 x6 false h1 R))
def F48_k16 (h : Heap) (R : Value → Heap → Prop) : Prop :=
  R (Value.int .i64 0) h
def F48_b12 (I12 : Int → Heap → Prop) (M12 : Int → Heap → Nat) (m12 : Nat) (a0_0 : Option Addr) (n0_1 : Nat) (n0_2 : Nat) (x1 : Int) (q5 : Addr) (x6 : Int) (h : Heap) (R : Value → Heap → Prop) : Prop :=
  br (decide ((x6 : Int) < x1)) (F48_k13 I12 M12 m12 a0_0 n0_1 n0_2 x1 q5 x6 h R) (F48_k16 h R)
def F48_k11 (a0_0 : Option Addr) (n0_1 : Nat) (n0_2 : Nat) (x1 : Int) (q5 : Addr) (h : Heap) (R : Value → Heap → Prop) : Prop :=
  ∃ (I12 : Int → Heap → Prop) (M12 : Int → Heap → Nat), I12 0 h ∧ ∀ h1 (x6 : Int), I12 x6 h1 → F48_b12 I12 M12 (M12 x6 h1) a0_0 n0_1 n0_2 x1 q5 x6 h1 R
def F48_k10 (a0_0 : Option Addr) (n0_1 : Nat) (n0_2 : Nat) (x1 : Int) (q5 : Addr) (b71 : Bool) (h : Heap) (R : Value → Heap → Prop) : Prop :=
  br b71 (R (Value.int .i64 14) h) (F48_k11 a0_0 n0_1 n0_2 x1 q5 h R)
def F48_k9 (a0_0 : Option Addr) (n0_1 : Nat) (n0_2 : Nat) (x1 : Int) (q5 : Addr) (h : Heap) (R : Value → Heap → Prop) : Prop :=
  br (decide ((x1 : Int) > 0)) (∃ q64 : Addr, a0_0 = some q64 ∧ (0 : Int) ≤ IntKind.i64.wrap (x1 - 1) ∧ IntKind.i64.wrap (x1 - 1) < (n0_1 : Int) ∧ ∃ s66 : ByteArray, Vc.cell h ((q64.add (((IntKind.i64.wrap (x1 - 1)).toNat) * 4)).add 0) = some (Value.string s66) ∧ ∃ s68 : ByteArray, Vc.cell h (q5.add 0) = some (Value.string s68) ∧ ∃ b69 : Bool, (∀ h1, Cls true h h1 → HEnt Tryd.prog 52 #[Value.string s66, Value.string s68] h1 fun v h2 => v = Value.bool b69 ∧ Cls true h1 h2) ∧ ∀ h1, Cls true h h1 → F48_k10 a0_0 n0_1 n0_2 x1 q5 (!b69) h1 R) (∀ h1, Cls true h h1 → F48_k10 a0_0 n0_1 n0_2 x1 q5 false h1 R)
def F48_k8 (a0_0 : Option Addr) (n0_1 : Nat) (n0_2 : Nat) (x1 : Int) (q5 : Addr) (h : Heap) (R : Value → Heap → Prop) : Prop :=
  ∃ s55 : ByteArray, Vc.cell h (q5.add 3) = some (Value.string s55) ∧ br (decide (((s55.size : Int) : Int) > 256)) (R (Value.int .i64 3) h) (F48_k9 a0_0 n0_1 n0_2 x1 q5 h R)
def F48_k7 (a0_0 : Option Addr) (n0_1 : Nat) (n0_2 : Nat) (x1 : Int) (q5 : Addr) (b53 : Bool) (h : Heap) (R : Value → Heap → Prop) : Prop :=
  br b53 (R (Value.int .i64 5) h) (F48_k8 a0_0 n0_1 n0_2 x1 q5 h R)
def F48_k6 (a0_0 : Option Addr) (n0_1 : Nat) (n0_2 : Nat) (x1 : Int) (q5 : Addr) (h : Heap) (R : Value → Heap → Prop) : Prop :=
  ∃ x47 : Int, Vc.cell h (q5.add 1) = some (Value.int .i64 x47) ∧ br ((x47 : Int) != 1) (∃ s51 : ByteArray, Vc.cell h (q5.add 3) = some (Value.string s51) ∧ F48_k7 a0_0 n0_1 n0_2 x1 q5 (!(seq s51 (⟨#[]⟩ : ByteArray))) h R) (F48_k7 a0_0 n0_1 n0_2 x1 q5 false h R)
def F48_k5 (a0_0 : Option Addr) (n0_1 : Nat) (n0_2 : Nat) (x1 : Int) (q5 : Addr) (b45 : Bool) (h : Heap) (R : Value → Heap → Prop) : Prop :=
  br b45 (R (Value.int .i64 2) h) (F48_k6 a0_0 n0_1 n0_2 x1 q5 h R)
def F48_k4 (a0_0 : Option Addr) (n0_1 : Nat) (n0_2 : Nat) (x1 : Int) (q5 : Addr) (h : Heap) (R : Value → Heap → Prop) : Prop :=
  ∃ x29 : Int, Vc.cell h (q5.add 2) = some (Value.int .i64 x29) ∧ br (decide ((x29 : Int) < 0)) (F48_k5 a0_0 n0_1 n0_2 x1 q5 true h R) (∃ x33 : Int, Vc.cell h (q5.add 2) = some (Value.int .i64 x33) ∧ br (decide ((x33 : Int) > 511)) (F48_k5 a0_0 n0_1 n0_2 x1 q5 true h R) (∃ x38 : Int, Vc.cell h (q5.add 1) = some (Value.int .i64 x38) ∧ br ((x38 : Int) == 3) (∃ x42 : Int, Vc.cell h (q5.add 2) = some (Value.int .i64 x42) ∧ F48_k5 a0_0 n0_1 n0_2 x1 q5 ((x42 : Int) != 0) h R) (F48_k5 a0_0 n0_1 n0_2 x1 q5 false h R)))
def F48_k3 (a0_0 : Option Addr) (n0_1 : Nat) (n0_2 : Nat) (x1 : Int) (q5 : Addr) (b27 : Bool) (h : Heap) (R : Value → Heap → Prop) : Prop :=
  br b27 (R (Value.int .i64 13) h) (F48_k4 a0_0 n0_1 n0_2 x1 q5 h R)
def F48_k2 (a0_0 : Option Addr) (n0_1 : Nat) (n0_2 : Nat) (x1 : Int) (q5 : Addr) (h : Heap) (R : Value → Heap → Prop) : Prop :=
  ∃ x21 : Int, Vc.cell h (q5.add 1) = some (Value.int .i64 x21) ∧ br (decide ((x21 : Int) < 1)) (F48_k3 a0_0 n0_1 n0_2 x1 q5 true h R) (∃ x25 : Int, Vc.cell h (q5.add 1) = some (Value.int .i64 x25) ∧ F48_k3 a0_0 n0_1 n0_2 x1 q5 (decide ((x25 : Int) > 4)) h R)
def F48_k1 (a0_0 : Option Addr) (n0_1 : Nat) (n0_2 : Nat) (x1 : Int) (q5 : Addr) (b19 : Bool) (h : Heap) (R : Value → Heap → Prop) : Prop :=
  br b19 (R (Value.int .i64 12) h) (F48_k2 a0_0 n0_1 n0_2 x1 q5 h R)
def F48 (a0 : Option Addr) (l0 : Nat) (c0 : Nat) (x1 : Int) (h : Heap) (R : Value → Heap → Prop) : Prop :=
  ∃ q9 : Addr, a0 = some q9 ∧ (0 : Int) ≤ x1 ∧ x1 < (l0 : Int) ∧ ∃ s10_0 : ByteArray, ∃ x10_1 : Int, ∃ x10_2 : Int, ∃ s10_3 : ByteArray, Vc.cell h ((q9.add (x1.toNat * 4)).add 0) = some (Value.string s10_0) ∧ Vc.cell h ((q9.add (x1.toNat * 4)).add 1) = some (Value.int .i64 x10_1) ∧ Vc.cell h ((q9.add (x1.toNat * 4)).add 2) = some (Value.int .i64 x10_2) ∧ Vc.cell h ((q9.add (x1.toNat * 4)).add 3) = some (Value.string s10_3) ∧ 4 = 4 ∧ newK h (.cells (zeroC Tryd.prog 38) 38) fun b5 h1 => storeK 4 h1 (at0 b5) (Value.agg #[Value.string s10_0, Value.int .i64 x10_1, Value.int .i64 x10_2, Value.string s10_3]) fun h2 => ∃ s12 : ByteArray, Vc.cell h2 ((at0 b5).add 0) = some (Value.string s12) ∧ br (seq s12 (⟨#[]⟩ : ByteArray)) (F48_k1 a0 l0 c0 x1 (at0 b5) true h2 R) (∃ s16 : ByteArray, Vc.cell h2 ((at0 b5).add 0) = some (Value.string s16) ∧ HCalls Tryd.prog 49 #[Value.string s16] h2 fun r17 h3 => ∃ b17 : Bool, r17 = Value.bool b17 ∧ F48_k1 a0 l0 c0 x1 (at0 b5) (!b17) h3 R)
def A48 : Ann := { loops := [(15, [(6, .int .i64)])], draws := [(12, 1, 14), (17, 0, 24)] }
theorem F48_ent (a0 : Option Addr) (l0 : Nat) (c0 : Nat) (x1 : Int) (h : Heap) (R : Value → Heap → Prop) (H : F48 a0 l0 c0 x1 h R) : HEnt Tryd.prog 48 #[Value.slice a0 l0 c0, Value.int .i64 x1] h R :=
  hent A48 mixed Tryd.func48 rfl (by kernel_rfl) (by kernel_rfl) (Eq.mp (by kernel_rfl) H)

end Go.Proofs.YtcfegbpoailbdaaDoor

set_option linter.unusedVariables false
set_option maxRecDepth 100000
namespace Go.Proofs.YtcfegbpoailbdaaDoor
open Go.Vc
/-! ### 14 veneer/overlay.Merge -/
def F14_k6 (I2 : Int → Heap → Prop) (M2 : Int → Heap → Nat) (m2 : Nat) (I5 : Int → Heap → Prop) (M5 : Int → Heap → Nat) (m5 : Nat) (m4 : Option Nat) (a15_0 : Option Addr) (n15_1 : Nat) (n15_2 : Nat) (x16 : Int) (x17 : Int) (a28_0 : Option Addr) (n28_1 : Nat) (n28_2 : Nat) (x29 : Int) (x30 : Int) (h : Heap) (R : Value → Heap → Prop) : Prop :=
  ∃ q32 : Addr, a28_0 = some q32 ∧ (0 : Int) ≤ x30 ∧ x30 < (n28_1 : Int) ∧ ∃ s33_0 : ByteArray, ∃ x33_1 : Int, ∃ x33_2 : Int, ∃ s33_3 : ByteArray, Vc.cell h ((q32.add (x30.toNat * 4)).add 0) = some (Value.string s33_0) ∧ Vc.cell h ((q32.add (x30.toNat * 4)).add 1) = some (Value.int .i64 x33_1) ∧ Vc.cell h ((q32.add (x30.toNat * 4)).add 2) = some (Value.int .i64 x33_2) ∧ Vc.cell h ((q32.add (x30.toNat * 4)).add 3) = some (Value.string s33_3) ∧ 4 = 4 ∧ newK h (.cells (zeroC Tryd.prog 38) 38) fun b10 h1 => storeK 4 h1 (at0 b10) (Value.agg #[Value.string s33_0, Value.int .i64 x33_1, Value.int .i64 x33_2, Value.string s33_3]) fun h2 => ∃ s35_0 : ByteArray, ∃ x35_1 : Int, ∃ x35_2 : Int, ∃ s35_3 : ByteArray, Vc.cell h2 ((at0 b10).add 0) = some (Value.string s35_0) ∧ Vc.cell h2 ((at0 b10).add 1) = some (Value.int .i64 x35_1) ∧ Vc.cell h2 ((at0 b10).add 2) = some (Value.int .i64 x35_2) ∧ Vc.cell h2 ((at0 b10).add 3) = some (Value.string s35_3) ∧ 4 = 4 ∧ HCalls Tryd.prog 27 #[Value.map m4, Value.agg #[Value.string s35_0, Value.int .i64 x35_1, Value.int .i64 x35_2, Value.string s35_3]] h2 fun r36 h3 => r36 = Value.tuple #[] ∧ I5 (IntKind.i64.wrap (x30 + 1)) h3 ∧ M5 (IntKind.i64.wrap (x30 + 1)) h3 < m5
def F14_k7 (I2 : Int → Heap → Prop) (M2 : Int → Heap → Nat) (m2 : Nat) (m4 : Option Nat) (a15_0 : Option Addr) (n15_1 : Nat) (n15_2 : Nat) (x16 : Int) (x17 : Int) (h : Heap) (R : Value → Heap → Prop) : Prop :=
  I2 (IntKind.i64.wrap (x17 + 1)) h ∧ M2 (IntKind.i64.wrap (x17 + 1)) h < m2
def F14_b5 (I2 : Int → Heap → Prop) (M2 : Int → Heap → Nat) (m2 : Nat) (I5 : Int → Heap → Prop) (M5 : Int → Heap → Nat) (m5 : Nat) (m4 : Option Nat) (a15_0 : Option Addr) (n15_1 : Nat) (n15_2 : Nat) (x16 : Int) (x17 : Int) (a28_0 : Option Addr) (n28_1 : Nat) (n28_2 : Nat) (x29 : Int) (x30 : Int) (h : Heap) (R : Value → Heap → Prop) : Prop :=
  br (decide ((x30 : Int) < x29)) (F14_k6 I2 M2 m2 I5 M5 m5 m4 a15_0 n15_1 n15_2 x16 x17 a28_0 n28_1 n28_2 x29 x30 h R) (F14_k7 I2 M2 m2 m4 a15_0 n15_1 n15_2 x16 x17 h R)
def F14_k4 (I2 : Int → Heap → Prop) (M2 : Int → Heap → Nat) (m2 : Nat) (m4 : Option Nat) (a6_0 : Option Addr) (n6_1 : Nat) (n6_2 : Nat) (a15_0 : Option Addr) (n15_1 : Nat) (n15_2 : Nat) (x16 : Int) (x17 : Int) (h : Heap) (R : Value → Heap → Prop) : Prop :=
  ∃ (I5 : Int → Heap → Prop) (M5 : Int → Heap → Nat), I5 0 h ∧ ∀ h1 (x30 : Int), I5 x30 h1 → F14_b5 I2 M2 m2 I5 M5 (M5 x30 h1) m4 a15_0 n15_1 n15_2 x16 x17 a6_0 n6_1 n6_2 (n6_1 : Int) x30 h1 R
def F14_k3 (I2 : Int → Heap → Prop) (M2 : Int → Heap → Nat) (m2 : Nat) (m4 : Option Nat) (a15_0 : Option Addr) (n15_1 : Nat) (n15_2 : Nat) (x16 : Int) (x17 : Int) (h : Heap) (R : Value → Heap → Prop) : Prop :=
  ∃ q19 : Addr, a15_0 = some q19 ∧ (0 : Int) ≤ x17 ∧ x17 < (n15_1 : Int) ∧ ∃ a20 : Option Addr, ∃ l20 : Nat, ∃ c20 : Nat, Vc.cell h (q19.add (x17.toNat * 1)) = some (Value.slice a20 l20 c20) ∧ HCalls Tryd.prog 22 #[Value.slice a20 l20 c20] h fun r23 h1 => ∃ x23_0 : Int, ∃ x23_1 : Int, r23 = Value.tuple #[Value.int .i64 x23_0, Value.int .i64 x23_1] ∧ br ((x23_1 : Int) != 0) (R (Value.tuple #[Value.slice none 0 0, Value.int .i64 5]) h1) (F14_k4 I2 M2 m2 m4 a20 l20 c20 a15_0 n15_1 n15_2 x16 x17 h1 R)
def F14_k8 (m4 : Option Nat) (h : Heap) (R : Value → Heap → Prop) : Prop :=
  HCalls Tryd.prog 28 #[Value.map m4] h fun r40 h1 => ∃ a40 : Option Addr, ∃ l40 : Nat, ∃ c40 : Nat, r40 = Value.slice a40 l40 c40 ∧ R (Value.tuple #[Value.slice a40 l40 c40, Value.int .i64 0]) h1
def F14_b2 (I2 : Int → Heap → Prop) (M2 : Int → Heap → Nat) (m2 : Nat) (m4 : Option Nat) (a15_0 : Option Addr) (n15_1 : Nat) (n15_2 : Nat) (x16 : Int) (x17 : Int) (h : Heap) (R : Value → Heap → Prop) : Prop :=
  br (decide ((x17 : Int) < x16)) (F14_k3 I2 M2 m2 m4 a15_0 n15_1 n15_2 x16 x17 h R) (F14_k8 m4 h R)
def F14_k1 (a0_0 : Option Addr) (n0_1 : Nat) (n0_2 : Nat) (h : Heap) (R : Value → Heap → Prop) : Prop :=
  newK h (.map #[] 0) fun b14 h1 => ∃ (I2 : Int → Heap → Prop) (M2 : Int → Heap → Nat), I2 0 h1 ∧ ∀ h2 (x17 : Int), I2 x17 h2 → F14_b2 I2 M2 (M2 x17 h2) (some b14) a0_0 n0_1 n0_2 (n0_1 : Int) x17 h2 R
def F14 (a0 : Option Addr) (l0 : Nat) (c0 : Nat) (h : Heap) (R : Value → Heap → Prop) : Prop :=
  br (decide (((l0 : Int) : Int) > 16)) (R (Value.tuple #[Value.slice none 0 0, Value.int .i64 3]) h) (F14_k1 a0 l0 c0 h R)
def A14 : Ann := { loops := [(5, [(17, .int .i64)]), (11, [(30, .int .i64)])] }
theorem F14_ent (a0 : Option Addr) (l0 : Nat) (c0 : Nat) (h : Heap) (R : Value → Heap → Prop) (H : F14 a0 l0 c0 h R) : HEnt Tryd.prog 14 #[Value.slice a0 l0 c0] h R :=
  hent A14 mixed Tryd.func14 rfl (by kernel_rfl) (by kernel_rfl) (Eq.mp (by kernel_rfl) H)

/-! ### 27 veneer/overlay.put -/
def F27_k3 (rec_ : LoopState → Option Code → Obj) (l : Nat) (q2 : Addr) (s4 : ByteArray) (b30 : Bool) (h : Heap) (R : Value → Heap → Prop) : Prop :=
  br b30 (∃ m31 : Option Nat, Vc.cell h q2 = some (Value.map m31) ∧ semU Tryd.prog (Instr.mapUpdate 55 (Value.map m31) (Value.string s4) (Value.agg #[Value.string s4, Value.int .i64 2, Value.int .i64 0, Value.string ByteArray.empty])) h fun h1 => h1[l]? = some (rec_ .busy none) ∧ ∀ h2, h2 = Array.setIfInBounds h1 l (rec_ .ready (none)) → R (Value.bool true) h2) (h[l]? = some (rec_ .busy none) ∧ ∀ h1, h1 = Array.setIfInBounds h l (rec_ .ready (none)) → R (Value.bool true) h1)
def F27_r2 (rec_ : LoopState → Option Code → Obj) (l : Nat) (q2 : Addr) (q3 : Addr) (s15 : ByteArray) (h : Heap) (R : Value → Heap → Prop) : Prop :=
  h[l]? = some (rec_ .ready none) ∧ h[l]? = some (rec_ .ready none) ∧ ∀ h1, h1 = Array.setIfInBounds h l (rec_ .busy none) → br (!(seq s15 (⟨#[]⟩ : ByteArray))) (∃ s21 : ByteArray, Vc.cell h1 (q3.add 0) = some (Value.string s21) ∧ br (!(seq s15 s21)) (∃ m25 : Option Nat, Vc.cell h1 q2 = some (Value.map m25) ∧ semK Tryd.prog (Instr.lookup 55 (Value.map m25) (Value.string s15) false) h1 fun v27 h2 => ∃ s27_0 : ByteArray, ∃ x27_1 : Int, ∃ x27_2 : Int, ∃ s27_3 : ByteArray, v27 = Value.agg #[Value.string s27_0, Value.int .i64 x27_1, Value.int .i64 x27_2, Value.string s27_3] ∧ F27_k3 rec_ l q2 s15 ((x27_1 : Int) != 2) h2 R) (F27_k3 rec_ l q2 s15 false h1 R)) (F27_k3 rec_ l q2 s15 false h1 R)
def F27_k5 (nk1 : Nat) (q2 : Addr) (q3 : Addr) (h : Heap) (R : Value → Heap → Prop) : Prop :=
  ∃ m50 : Option Nat, Vc.cell h q2 = some (Value.map m50) ∧ ∃ s52 : ByteArray, Vc.cell h (q3.add 0) = some (Value.string s52) ∧ ∃ s53_0 : ByteArray, ∃ x53_1 : Int, ∃ x53_2 : Int, ∃ s53_3 : ByteArray, Vc.cell h (q3.add 0) = some (Value.string s53_0) ∧ Vc.cell h (q3.add 1) = some (Value.int .i64 x53_1) ∧ Vc.cell h (q3.add 2) = some (Value.int .i64 x53_2) ∧ Vc.cell h (q3.add 3) = some (Value.string s53_3) ∧ 4 = 4 ∧ semU Tryd.prog (Instr.mapUpdate 55 (Value.map m50) (Value.string s52) (Value.agg #[Value.string s53_0, Value.int .i64 x53_1, Value.int .i64 x53_2, Value.string s53_3])) h fun h1 => h1[nk1]? = some (.deferred (some [])) ∧ ∀ h2, h2 = Array.setIfInBounds h1 nk1 (.deferred none) → R (Value.tuple #[]) h2
def F27_k4 (nk1 : Nat) (q2 : Addr) (q3 : Addr) (h : Heap) (R : Value → Heap → Prop) : Prop :=
  ∃ x36 : Int, Vc.cell h (q3.add 1) = some (Value.int .i64 x36) ∧ br ((x36 : Int) == 1) (∃ m39 : Option Nat, Vc.cell h q2 = some (Value.map m39) ∧ ∃ s41 : ByteArray, Vc.cell h (q3.add 0) = some (Value.string s41) ∧ HCalls Tryd.prog 44 #[Value.map m39, Value.string s41, Value.bool false] h fun r42 h1 => r42 = Value.tuple #[] ∧ F27_k5 nk1 q2 q3 h1 R) (br ((x36 : Int) == 4) (∃ m45 : Option Nat, Vc.cell h q2 = some (Value.map m45) ∧ ∃ s47 : ByteArray, Vc.cell h (q3.add 0) = some (Value.string s47) ∧ HCalls Tryd.prog 44 #[Value.map m45, Value.string s47, Value.bool false] h fun r48 h1 => r48 = Value.tuple #[] ∧ storeK 1 h1 (q3.add 1) (Value.int .i64 2) fun h2 => F27_k5 nk1 q2 q3 h2 R) (F27_k5 nk1 q2 q3 h R))
def F27_k1 (q2 : Addr) (q3 : Addr) (h : Heap) (R : Value → Heap → Prop) : Prop :=
  ∃ s13 : ByteArray, Vc.cell h (q3.add 0) = some (Value.string s13) ∧ HCalls Tryd.prog 45 #[Value.string s13] h fun r14 h1 => ∃ v14 : Value, r14 = v14 ∧ ∃ q14_0 : Addr, v14 = Value.func (.func 59) #[] #[Value.pointer (some q14_0)] ∧ ∀ (rec_ : LoopState → Option Code → Obj) (b l : Nat) (h2 : Heap), b = h1.size → l = h1.size + 1 → Ext h1 h2 → h2[b]? = some (.deferred (some [])) → h2[l]? = some (rec_ .ready none) → (∀ st pd, noCells (rec_ st pd)) → (∀ (s15 : ByteArray) (h3 : Heap) (R1 : Value → Heap → Prop), F27_r2 rec_ l q2 q3 s15 h3 R1 → HYield Tryd.prog l #[Value.string s15] h3 R1) → HEnt Tryd.prog 59 #[Value.func (.yield l) #[] #[], Value.pointer (some q14_0)] h2 fun _ h4 => ∃ st pd, h4[l]? = some (rec_ st pd) ∧ st ≠ .busy ∧ ∀ h5, h5 = Array.setIfInBounds h4 l (rec_ .exhausted pd) → pendQ pd (F27_k4 b q2 q3 h5 R) (h5[b]? = some (.deferred (some [])) ∧ ∀ h6, h6 = Array.setIfInBounds h5 b (.deferred none) → R (Value.tuple #[]) h6) (fun i => selQ (Nat.beq i 0) (F27_k4 b q2 q3 h5 R) (False))
def F27 (m0 : Option Nat) (s1_0 : ByteArray) (x1_1 : Int) (x1_2 : Int) (s1_3 : ByteArray) (h : Heap) (R : Value → Heap → Prop) : Prop :=
  newK h (.cells #[Value.map m0] 55) fun b2 h1 => newK h1 (.cells #[Value.string s1_0, Value.int .i64 x1_1, Value.int .i64 x1_2, Value.string s1_3] 38) fun b3 h2 => ∃ x6 : Int, Vc.cell h2 ((at0 b3).add 1) = some (Value.int .i64 x6) ∧ br ((x6 : Int) == 3) (∃ m8 : Option Nat, Vc.cell h2 (at0 b2) = some (Value.map m8) ∧ ∃ s10 : ByteArray, Vc.cell h2 ((at0 b3).add 0) = some (Value.string s10) ∧ HCalls Tryd.prog 44 #[Value.map m8, Value.string s10, Value.bool true] h2 fun r11 h3 => r11 = Value.tuple #[] ∧ R (Value.tuple #[]) h3) (F27_k1 (at0 b2) (at0 b3) h2 R)
def A27 : Ann := { fns := [(14, 59, 1)], rngs := [(5, [(15, .str)])] }
theorem F27_ent (m0 : Option Nat) (s1_0 : ByteArray) (x1_1 : Int) (x1_2 : Int) (s1_3 : ByteArray) (h : Heap) (R : Value → Heap → Prop) (H : F27 m0 s1_0 x1_1 x1_2 s1_3 h R) : HEnt Tryd.prog 27 #[Value.map m0, Value.agg #[Value.string s1_0, Value.int .i64 x1_1, Value.int .i64 x1_2, Value.string s1_3]] h R :=
  hentT A27 mixed Tryd.func27 rfl (by kernel_rfl) (by kernel_rfl) (Eq.mp (by kernel_rfl) H)

/-! ### 28 veneer/overlay.sorted -/
def F28_k2 (a3_0 : Option Addr) (n3_1 : Nat) (n3_2 : Nat) (h : Heap) (R : Value → Heap → Prop) : Prop :=
  HCalls Tryd.prog 46 #[Value.slice a3_0 n3_1 n3_2, Value.func (.func 47) #[] #[]] h fun r17 h1 => r17 = Value.tuple #[] ∧ R (Value.slice a3_0 n3_1 n3_2) h1
def F28_k3 (I1 : Option Addr → Nat → Nat → Heap → Prop) (M1 : Option Addr → Nat → Nat → Heap → Nat) (m1 : Nat) (a3_0 : Option Addr) (n3_1 : Nat) (n3_2 : Nat) (q7 : Addr) (h : Heap) (R : Value → Heap → Prop) : Prop :=
  semK Tryd.prog (Instr.entry (Value.pointer (some q7))) h fun v10 h1 => ∃ s10_k : ByteArray, ∃ s10_u_0 : ByteArray, ∃ x10_u_1 : Int, ∃ x10_u_2 : Int, ∃ s10_u_3 : ByteArray, v10 = Value.tuple #[Value.string s10_k, Value.agg #[Value.string s10_u_0, Value.int .i64 x10_u_1, Value.int .i64 x10_u_2, Value.string s10_u_3]] ∧ newK h1 (.cells (zeroC Tryd.prog 38) 38) fun b5 h2 => storeK 4 h2 (at0 b5) (Value.agg #[Value.string s10_u_0, Value.int .i64 x10_u_1, Value.int .i64 x10_u_2, Value.string s10_u_3]) fun h3 => ∃ s13_0 : ByteArray, ∃ x13_1 : Int, ∃ x13_2 : Int, ∃ s13_3 : ByteArray, Vc.cell h3 ((at0 b5).add 0) = some (Value.string s13_0) ∧ Vc.cell h3 ((at0 b5).add 1) = some (Value.int .i64 x13_1) ∧ Vc.cell h3 ((at0 b5).add 2) = some (Value.int .i64 x13_2) ∧ Vc.cell h3 ((at0 b5).add 3) = some (Value.string s13_3) ∧ 4 = 4 ∧ (#[Value.string s13_0, Value.int .i64 x13_1, Value.int .i64 x13_2, Value.string s13_3]).size = 4 ∧ 1 * 4 ≤ 16777216 ∧ newK h3 (.cells #[Value.string s13_0, Value.int .i64 x13_1, Value.int .i64 x13_2, Value.string s13_3] 38) fun b14 h4 => appK Tryd.prog 38 h4 a3_0 n3_1 n3_2 (Value.slice (some (at0 b14)) 1 1) fun a15 l15 c15 h5 => I1 a15 l15 c15 h5 ∧ M1 a15 l15 c15 h5 < m1
def F28_b1 (I1 : Option Addr → Nat → Nat → Heap → Prop) (M1 : Option Addr → Nat → Nat → Heap → Nat) (m1 : Nat) (a2_0 : Option Addr) (n2_1 : Nat) (n2_2 : Nat) (a3_0 : Option Addr) (n3_1 : Nat) (n3_2 : Nat) (q7 : Addr) (h : Heap) (R : Value → Heap → Prop) : Prop :=
  semK Tryd.prog (Instr.next (Value.pointer (some q7)) false 0) h fun v8 h1 => (v8 = Value.tuple #[Value.bool false] ∧ F28_k2 a3_0 n3_1 n3_2 h1 R) ∨ (∃ k8 u8 : Value, v8 = Value.tuple #[Value.bool true, k8, u8] ∧ F28_k3 I1 M1 m1 a3_0 n3_1 n3_2 q7 h1 R)
def F28 (m0 : Option Nat) (h : Heap) (R : Value → Heap → Prop) : Prop :=
  semK Tryd.prog (Instr.range 55 (Value.map m0)) h fun v7 h1 => ∃ b7 : Nat, v7 = Value.pointer (some (at0 b7)) ∧ ∃ (I1 : Option Addr → Nat → Nat → Heap → Prop) (M1 : Option Addr → Nat → Nat → Heap → Nat), I1 none 0 0 h1 ∧ ∀ h2 (a3 : Option Addr) (l3 c3 : Nat), I1 a3 l3 c3 h2 → F28_b1 I1 M1 (M1 a3 l3 c3 h2) none 0 0 a3 l3 c3 (at0 b7) h2 R
def A28 : Ann := { loops := [(3, [(3, .slice)])], ents := [(10, 9, 38)] }
theorem F28_ent (m0 : Option Nat) (h : Heap) (R : Value → Heap → Prop) (H : F28 m0 h R) : HEnt Tryd.prog 28 #[Value.map m0] h R :=
  hent A28 mixed Tryd.func28 rfl (by kernel_rfl) (by kernel_rfl) (Eq.mp (by kernel_rfl) H)

/-! ### 44 veneer/overlay.below -/
def F44_k3 (I1 : Heap → Prop) (M1 : Heap → Nat) (m1 : Nat) (m0 : Option Nat) (s1 : ByteArray) (b2 : Bool) (s6 : ByteArray) (q8 : Addr) (b23 : Bool) (h : Heap) (R : Value → Heap → Prop) : Prop :=
  br b23 (semK Tryd.prog (Builtin.delete_ #[55, 9] 0 #[Value.map m0, Value.string s6]) h fun vn h1 => I1  h1 ∧ M1  h1 < m1) (I1  h ∧ M1  h < m1)
def F44_k2 (I1 : Heap → Prop) (M1 : Heap → Nat) (m1 : Nat) (m0 : Option Nat) (s1 : ByteArray) (b2 : Bool) (q8 : Addr) (h : Heap) (R : Value → Heap → Prop) : Prop :=
  semK Tryd.prog (Instr.entry (Value.pointer (some q8))) h fun v11 h1 => ∃ s11_k : ByteArray, ∃ s11_u_0 : ByteArray, ∃ x11_u_1 : Int, ∃ x11_u_2 : Int, ∃ s11_u_3 : ByteArray, v11 = Value.tuple #[Value.string s11_k, Value.agg #[Value.string s11_u_0, Value.int .i64 x11_u_1, Value.int .i64 x11_u_2, Value.string s11_u_3]] ∧ HCalls Tryd.prog 18 #[Value.string s1, Value.string s11_k] h1 fun r15 h2 => ∃ b15 : Bool, r15 = Value.bool b15 ∧ br b15 (br b2 (F44_k3 I1 M1 m1 m0 s1 b2 s11_k q8 true h2 R) (F44_k3 I1 M1 m1 m0 s1 b2 s11_k q8 (!(seq s11_k s1)) h2 R)) (F44_k3 I1 M1 m1 m0 s1 b2 s11_k q8 false h2 R)
def F44_b1 (I1 : Heap → Prop) (M1 : Heap → Nat) (m1 : Nat) (m0 : Option Nat) (s1 : ByteArray) (b2 : Bool) (q8 : Addr) (h : Heap) (R : Value → Heap → Prop) : Prop :=
  semK Tryd.prog (Instr.next (Value.pointer (some q8)) false 0) h fun v9 h1 => (v9 = Value.tuple #[Value.bool false] ∧ R (Value.tuple #[]) h1) ∨ (∃ k9 u9 : Value, v9 = Value.tuple #[Value.bool true, k9, u9] ∧ F44_k2 I1 M1 m1 m0 s1 b2 q8 h1 R)
def F44 (m0 : Option Nat) (s1 : ByteArray) (b2 : Bool) (h : Heap) (R : Value → Heap → Prop) : Prop :=
  semK Tryd.prog (Instr.range 55 (Value.map m0)) h fun v8 h1 => ∃ b8 : Nat, v8 = Value.pointer (some (at0 b8)) ∧ ∃ (I1 : Heap → Prop) (M1 : Heap → Nat), I1  h1 ∧ ∀ h2, I1  h2 → F44_b1 I1 M1 (M1  h2) m0 s1 b2 (at0 b8) h2 R
def A44 : Ann := { loops := [(1, [])], ents := [(11, 9, 38)] }
theorem F44_ent (m0 : Option Nat) (s1 : ByteArray) (b2 : Bool) (h : Heap) (R : Value → Heap → Prop) (H : F44 m0 s1 b2 h R) : HEnt Tryd.prog 44 #[Value.map m0, Value.string s1, Value.bool b2] h R :=
  hent A44 mixed Tryd.func44 rfl (by kernel_rfl) (by kernel_rfl) (Eq.mp (by kernel_rfl) H)

/-! ### 45 veneer/trail.Walk -/
def F45 (s0 : ByteArray) (h : Heap) (R : Value → Heap → Prop) : Prop :=
  newK h (.cells #[Value.string s0] 9) fun b1 h1 => R (Value.func (.func 59) #[] #[Value.pointer (some (at0 b1))]) h1
def A45 : Ann := {  }
theorem F45_ent (s0 : ByteArray) (h : Heap) (R : Value → Heap → Prop) (H : F45 s0 h R) : HEnt Tryd.prog 45 #[Value.string s0] h R :=
  hent A45 mixed Tryd.func45 rfl (by kernel_rfl) (by kernel_rfl) (Eq.mp (by kernel_rfl) H)

/-! ### 47 veneer/overlay.sorted$1 -/
def F47_k1 (h : Heap) (R : Value → Heap → Prop) : Prop :=
  R (Value.int .i64 1) h
def F47 (s0_0 : ByteArray) (x0_1 : Int) (x0_2 : Int) (s0_3 : ByteArray) (s1_0 : ByteArray) (x1_1 : Int) (x1_2 : Int) (s1_3 : ByteArray) (h : Heap) (R : Value → Heap → Prop) : Prop :=
  newK h (.cells #[Value.string s0_0, Value.int .i64 x0_1, Value.int .i64 x0_2, Value.string s0_3] 38) fun b2 h1 => newK h1 (.cells #[Value.string s1_0, Value.int .i64 x1_1, Value.int .i64 x1_2, Value.string s1_3] 38) fun b3 h2 => ∃ s6 : ByteArray, Vc.cell h2 ((at0 b2).add 0) = some (Value.string s6) ∧ ∃ s8 : ByteArray, Vc.cell h2 ((at0 b3).add 0) = some (Value.string s8) ∧ HCalls Tryd.prog 41 #[Value.string s6, Value.string s8] h2 fun r9 h3 => ∃ b9 : Bool, r9 = Value.bool b9 ∧ br b9 (R (Value.int .i64 (-1)) h3) (F47_k1 h3 R)
def A47 : Ann := {  }
theorem F47_ent (s0_0 : ByteArray) (x0_1 : Int) (x0_2 : Int) (s0_3 : ByteArray) (s1_0 : ByteArray) (x1_1 : Int) (x1_2 : Int) (s1_3 : ByteArray) (h : Heap) (R : Value → Heap → Prop) (H : F47 s0_0 x0_1 x0_2 s0_3 s1_0 x1_1 x1_2 s1_3 h R) : HEnt Tryd.prog 47 #[Value.agg #[Value.string s0_0, Value.int .i64 x0_1, Value.int .i64 x0_2, Value.string s0_3], Value.agg #[Value.string s1_0, Value.int .i64 x1_1, Value.int .i64 x1_2, Value.string s1_3]] h R :=
  hent A47 mixed Tryd.func47 rfl (by kernel_rfl) (by kernel_rfl) (Eq.mp (by kernel_rfl) H)

/-! ### 59 veneer/trail.Walk$1 -/
def F59_k6 (I3 : Int → Heap → Prop) (M3 : Int → Heap → Nat) (m3 : Nat) (n0 : Nat) (q1 : Addr) (x13 : Int) (x14 : Int) (h : Heap) (R : Value → Heap → Prop) : Prop :=
  I3 (IntKind.i64.wrap (x14 + 1)) h ∧ M3 (IntKind.i64.wrap (x14 + 1)) h < m3
def F59_k5 (I3 : Int → Heap → Prop) (M3 : Int → Heap → Nat) (m3 : Nat) (n0 : Nat) (q1 : Addr) (x13 : Int) (x14 : Int) (b28 : Bool) (h : Heap) (R : Value → Heap → Prop) : Prop :=
  br b28 (R (Value.tuple #[]) h) (F59_k6 I3 M3 m3 n0 q1 x13 x14 h R)
def F59_k4 (I3 : Int → Heap → Prop) (M3 : Int → Heap → Nat) (m3 : Nat) (n0 : Nat) (q1 : Addr) (x13 : Int) (x14 : Int) (h : Heap) (R : Value → Heap → Prop) : Prop :=
  ∃ s17 : ByteArray, Vc.cell h q1 = some (Value.string s17) ∧ (0 : Int) ≤ x14 ∧ x14 < (s17.size : Int) ∧ br ((bt s17 x14 : Int) == 47) (∃ s23 : ByteArray, Vc.cell h q1 = some (Value.string s23) ∧ (0 : Int) ≤ 0 ∧ (0 : Int) ≤ x14 ∧ x14 ≤ (s23.size : Int) ∧ HYield Tryd.prog n0 #[Value.string (s23.extract 0 x14.toNat)] h fun r26 h1 => ∃ b26 : Bool, r26 = Value.bool b26 ∧ F59_k5 I3 M3 m3 n0 q1 x13 x14 (!b26) h1 R) (F59_k5 I3 M3 m3 n0 q1 x13 x14 false h R)
def F59_k7 (n0 : Nat) (q1 : Addr) (h : Heap) (R : Value → Heap → Prop) : Prop :=
  ∃ s30 : ByteArray, Vc.cell h q1 = some (Value.string s30) ∧ br (!(seq s30 (⟨#[]⟩ : ByteArray))) (∃ s33 : ByteArray, Vc.cell h q1 = some (Value.string s33) ∧ HYield Tryd.prog n0 #[Value.string s33] h fun r34 h1 => ∃ b34 : Bool, r34 = Value.bool b34 ∧ R (Value.tuple #[]) h1) (R (Value.tuple #[]) h)
def F59_b3 (I3 : Int → Heap → Prop) (M3 : Int → Heap → Nat) (m3 : Nat) (n0 : Nat) (q1 : Addr) (x13 : Int) (x14 : Int) (h : Heap) (R : Value → Heap → Prop) : Prop :=
  br (decide ((x14 : Int) < x13)) (F59_k4 I3 M3 m3 n0 q1 x13 x14 h R) (F59_k7 n0 q1 h R)
def F59_k2 (n0 : Nat) (q1 : Addr) (h : Heap) (R : Value → Heap → Prop) : Prop :=
  ∃ s12 : ByteArray, Vc.cell h q1 = some (Value.string s12) ∧ ∃ (I3 : Int → Heap → Prop) (M3 : Int → Heap → Nat), I3 0 h ∧ ∀ h1 (x14 : Int), I3 x14 h1 → F59_b3 I3 M3 (M3 x14 h1) n0 q1 (s12.size : Int) x14 h1 R
def F59_k1 (n0 : Nat) (q1 : Addr) (b11 : Bool) (h : Heap) (R : Value → Heap → Prop) : Prop :=
  br b11 (R (Value.tuple #[]) h) (F59_k2 n0 q1 h R)
def F59 (y0 : Nat) (qf0 : Addr) (h : Heap) (R : Value → Heap → Prop) : Prop :=
  ∃ s4 : ByteArray, Vc.cell h qf0 = some (Value.string s4) ∧ HCalls Tryd.prog 42 #[Value.string s4] h fun r5 h1 => ∃ b5 : Bool, r5 = Value.bool b5 ∧ br (!b5) (F59_k1 y0 qf0 true h1 R) (HYield Tryd.prog y0 #[Value.string (⟨#[]⟩ : ByteArray)] h1 fun r9 h2 => ∃ b9 : Bool, r9 = Value.bool b9 ∧ F59_k1 y0 qf0 (!b9) h2 R)
def A59 : Ann := { loops := [(2, [(14, .int .i64)])] }
theorem F59_ent (y0 : Nat) (qf0 : Addr) (h : Heap) (R : Value → Heap → Prop) (H : F59 y0 qf0 h R) : HEnt Tryd.prog 59 #[Value.func (.yield y0) #[] #[], Value.pointer (some qf0)] h R :=
  hentY A59 mixed Tryd.func59 rfl (by kernel_rfl) (by kernel_rfl) (Eq.mp (by kernel_rfl) H)

end Go.Proofs.YtcfegbpoailbdaaDoor

set_option linter.unusedVariables false
set_option maxRecDepth 100000
namespace Go.Proofs.YtcfegbpoailbdaaDoor
open Go.Vc
/-! ### 3 veneer/veneerlaw08.OverlayMerges -/
def F3_k6 (I4 : Int → Heap → Prop) (M4 : Int → Heap → Nat) (m4 : Nat) (a0_0 : Option Addr) (n0_1 : Nat) (n0_2 : Nat) (a3_0 : Option Addr) (n3_1 : Nat) (n3_2 : Nat) (x35 : Int) (x36 : Int) (h : Heap) (R : Value → Heap → Prop) : Prop :=
  I4 (IntKind.i64.wrap (x36 + 1)) h ∧ M4 (IntKind.i64.wrap (x36 + 1)) h < m4
def F3_k5 (I4 : Int → Heap → Prop) (M4 : Int → Heap → Nat) (m4 : Nat) (a0_0 : Option Addr) (n0_1 : Nat) (n0_2 : Nat) (a3_0 : Option Addr) (n3_1 : Nat) (n3_2 : Nat) (x35 : Int) (x36 : Int) (h : Heap) (R : Value → Heap → Prop) : Prop :=
  ∃ q41 : Addr, a3_0 = some q41 ∧ (0 : Int) ≤ x36 ∧ x36 < (n3_1 : Int) ∧ ∃ a42 : Option Addr, ∃ l42 : Nat, ∃ c42 : Nat, Vc.cell h (q41.add (x36.toNat * 1)) = some (Value.slice a42 l42 c42) ∧ ∃ q45 : Addr, a0_0 = some q45 ∧ (0 : Int) ≤ x36 ∧ x36 < (n0_1 : Int) ∧ ∃ a46 : Option Addr, ∃ l46 : Nat, ∃ c46 : Nat, Vc.cell h (q45.add (x36.toNat * 1)) = some (Value.slice a46 l46 c46) ∧ ∃ b47 : Bool, (∀ h1, Cls true h h1 → HEnt Tryd.prog 16 #[Value.slice a42 l42 c42, Value.slice a46 l46 c46] h1 fun v h2 => v = Value.bool b47 ∧ Cls true h1 h2) ∧ ∀ h1, Cls true h h1 → br (!b47) (R (Value.bool false) h1) (F3_k6 I4 M4 m4 a0_0 n0_1 n0_2 a3_0 n3_1 n3_2 x35 x36 h1 R)
def F3_k7 (h : Heap) (R : Value → Heap → Prop) : Prop :=
  HCalls Tryd.prog 12 #[] h fun r50 h1 => ∃ b50 : Bool, r50 = Value.bool b50 ∧ R (Value.bool b50) h1
def F3_b4 (I4 : Int → Heap → Prop) (M4 : Int → Heap → Nat) (m4 : Nat) (a0_0 : Option Addr) (n0_1 : Nat) (n0_2 : Nat) (a3_0 : Option Addr) (n3_1 : Nat) (n3_2 : Nat) (x35 : Int) (x36 : Int) (h : Heap) (R : Value → Heap → Prop) : Prop :=
  br (decide ((x36 : Int) < x35)) (F3_k5 I4 M4 m4 a0_0 n0_1 n0_2 a3_0 n3_1 n3_2 x35 x36 h R) (F3_k7 h R)
def F3_k3 (a0_0 : Option Addr) (n0_1 : Nat) (n0_2 : Nat) (a3_0 : Option Addr) (n3_1 : Nat) (n3_2 : Nat) (h : Heap) (R : Value → Heap → Prop) : Prop :=
  ∃ (I4 : Int → Heap → Prop) (M4 : Int → Heap → Nat), I4 0 h ∧ ∀ h1 (x36 : Int), I4 x36 h1 → F3_b4 I4 M4 (M4 x36 h1) a0_0 n0_1 n0_2 a3_0 n3_1 n3_2 (n3_1 : Int) x36 h1 R
def F3_k2 (a0_0 : Option Addr) (n0_1 : Nat) (n0_2 : Nat) (a3_0 : Option Addr) (n3_1 : Nat) (n3_2 : Nat) (b33 : Bool) (h : Heap) (R : Value → Heap → Prop) : Prop :=
  br b33 (R (Value.bool false) h) (F3_k3 a0_0 n0_1 n0_2 a3_0 n3_1 n3_2 h R)
def F3_k1 (a0_0 : Option Addr) (n0_1 : Nat) (n0_2 : Nat) (h : Heap) (R : Value → Heap → Prop) : Prop :=
  HCalls Tryd.prog 13 #[Value.slice a0_0 n0_1 n0_2] h fun r14 h1 => ∃ a14 : Option Addr, ∃ l14 : Nat, ∃ c14 : Nat, r14 = Value.slice a14 l14 c14 ∧ HCalls Tryd.prog 14 #[Value.slice a14 l14 c14] h1 fun r17 h2 => ∃ a17_0 : Option Addr, ∃ l17_0 : Nat, ∃ c17_0 : Nat, ∃ x17_1 : Int, r17 = Value.tuple #[Value.slice a17_0 l17_0 c17_0, Value.int .i64 x17_1] ∧ HCalls Tryd.prog 15 #[Value.slice a0_0 n0_1 n0_2] h2 fun r22 h3 => ∃ a22_0 : Option Addr, ∃ l22_0 : Nat, ∃ c22_0 : Nat, ∃ x22_1 : Int, r22 = Value.tuple #[Value.slice a22_0 l22_0 c22_0, Value.int .i64 x22_1] ∧ HCalls Tryd.prog 16 #[Value.slice a17_0 l17_0 c17_0, Value.slice a22_0 l22_0 c22_0] h3 fun r27 h4 => ∃ b27 : Bool, r27 = Value.bool b27 ∧ br (!b27) (F3_k2 a0_0 n0_1 n0_2 a14 l14 c14 true h4 R) (F3_k2 a0_0 n0_1 n0_2 a14 l14 c14 ((x17_1 : Int) != x22_1) h4 R)
def F3 (a0 : Option Addr) (l0 : Nat) (c0 : Nat) (h : Heap) (R : Value → Heap → Prop) : Prop :=
  HCalls Tryd.prog 11 #[Value.slice a0 l0 c0] h fun r10 h1 => ∃ b10 : Bool, r10 = Value.bool b10 ∧ br (!b10) (HCalls Tryd.prog 12 #[] h1 fun r12 h2 => ∃ b12 : Bool, r12 = Value.bool b12 ∧ R (Value.bool b12) h2) (F3_k1 a0 l0 c0 h1 R)
def A3 : Ann := { loops := [(9, [(36, .int .i64)])], draws := [(11, 1, 10)] }
theorem F3_ent (a0 : Option Addr) (l0 : Nat) (c0 : Nat) (h : Heap) (R : Value → Heap → Prop) (H : F3 a0 l0 c0 h R) : HEnt Tryd.prog 3 #[Value.slice a0 l0 c0] h R :=
  hent A3 mixed Tryd.func3 rfl (by kernel_rfl) (by kernel_rfl) (Eq.mp (by kernel_rfl) H)

/-! ### 11 veneer/veneerlaw08.few -/
def F11_k4 (I2 : Int → Heap → Prop) (M2 : Int → Heap → Nat) (m2 : Nat) (a0_0 : Option Addr) (n0_1 : Nat) (n0_2 : Nat) (x8 : Int) (x9 : Int) (h : Heap) (R : Value → Heap → Prop) : Prop :=
  I2 (IntKind.i64.wrap (x9 + 1)) h ∧ M2 (IntKind.i64.wrap (x9 + 1)) h < m2
def F11_k3 (I2 : Int → Heap → Prop) (M2 : Int → Heap → Nat) (m2 : Nat) (a0_0 : Option Addr) (n0_1 : Nat) (n0_2 : Nat) (x8 : Int) (x9 : Int) (h : Heap) (R : Value → Heap → Prop) : Prop :=
  ∃ q14 : Addr, a0_0 = some q14 ∧ (0 : Int) ≤ x9 ∧ x9 < (n0_1 : Int) ∧ ∃ a15 : Option Addr, ∃ l15 : Nat, ∃ c15 : Nat, Vc.cell h (q14.add (x9.toNat * 1)) = some (Value.slice a15 l15 c15) ∧ br (decide (((l15 : Int) : Int) > 70)) (R (Value.bool false) h) (F11_k4 I2 M2 m2 a0_0 n0_1 n0_2 x8 x9 h R)
def F11_k5 (h : Heap) (R : Value → Heap → Prop) : Prop :=
  R (Value.bool true) h
def F11_b2 (I2 : Int → Heap → Prop) (M2 : Int → Heap → Nat) (m2 : Nat) (a0_0 : Option Addr) (n0_1 : Nat) (n0_2 : Nat) (x8 : Int) (x9 : Int) (h : Heap) (R : Value → Heap → Prop) : Prop :=
  br (decide ((x9 : Int) < x8)) (F11_k3 I2 M2 m2 a0_0 n0_1 n0_2 x8 x9 h R) (F11_k5 h R)
def F11_k1 (a0_0 : Option Addr) (n0_1 : Nat) (n0_2 : Nat) (h : Heap) (R : Value → Heap → Prop) : Prop :=
  ∃ (I2 : Int → Heap → Prop) (M2 : Int → Heap → Nat), I2 0 h ∧ ∀ h1 (x9 : Int), I2 x9 h1 → F11_b2 I2 M2 (M2 x9 h1) a0_0 n0_1 n0_2 (n0_1 : Int) x9 h1 R
def F11 (a0 : Option Addr) (l0 : Nat) (c0 : Nat) (h : Heap) (R : Value → Heap → Prop) : Prop :=
  br (decide (((l0 : Int) : Int) > 20)) (R (Value.bool false) h) (F11_k1 a0 l0 c0 h R)
def A11 : Ann := { loops := [(4, [(9, .int .i64)])] }
theorem F11_ent (a0 : Option Addr) (l0 : Nat) (c0 : Nat) (h : Heap) (R : Value → Heap → Prop) (H : F11 a0 l0 c0 h R) : HEnt Tryd.prog 11 #[Value.slice a0 l0 c0] h R :=
  hent A11 mixed Tryd.func11 rfl (by kernel_rfl) (by kernel_rfl) (Eq.mp (by kernel_rfl) H)

/-! ### 12 veneer/veneerlaw08.works -/
def F12 (h : Heap) (R : Value → Heap → Prop) : Prop :=
  (#[Value.string (⟨#[97, 47, 98]⟩ : ByteArray), Value.int .i64 1, Value.int .i64 0, Value.string (⟨#[120]⟩ : ByteArray)]).size = 4 ∧ 1 * 4 ≤ 16777216 ∧ newK h (.cells #[Value.string (⟨#[97, 47, 98]⟩ : ByteArray), Value.int .i64 1, Value.int .i64 0, Value.string (⟨#[120]⟩ : ByteArray)] 38) fun b5 h1 => (#[Value.string (⟨#[97]⟩ : ByteArray), Value.int .i64 3, Value.int .i64 0, Value.string ByteArray.empty]).size = 4 ∧ 1 * 4 ≤ 16777216 ∧ newK h1 (.cells #[Value.string (⟨#[97]⟩ : ByteArray), Value.int .i64 3, Value.int .i64 0, Value.string ByteArray.empty] 38) fun b7 h2 => (#[Value.string (⟨#[97, 47, 99]⟩ : ByteArray), Value.int .i64 1, Value.int .i64 0, Value.string (⟨#[121]⟩ : ByteArray)]).size = 4 ∧ 1 * 4 ≤ 16777216 ∧ newK h2 (.cells #[Value.string (⟨#[97, 47, 99]⟩ : ByteArray), Value.int .i64 1, Value.int .i64 0, Value.string (⟨#[121]⟩ : ByteArray)] 38) fun b9 h3 => 3 * 1 ≤ 16777216 ∧ newK h3 (.cells #[Value.slice (some (at0 b5)) 1 1, Value.slice (some (at0 b7)) 1 1, Value.slice (some (at0 b9)) 1 1] 26) fun b10 h4 => HCalls Tryd.prog 14 #[Value.slice (some (at0 b10)) 3 3] h4 fun r11 h5 => ∃ a11_0 : Option Addr, ∃ l11_0 : Nat, ∃ c11_0 : Nat, ∃ x11_1 : Int, r11 = Value.tuple #[Value.slice a11_0 l11_0 c11_0, Value.int .i64 x11_1] ∧ br ((x11_1 : Int) == 0) (br (((l11_0 : Int) : Int) == 2) (∃ q23 : Addr, a11_0 = some q23 ∧ (0 : Int) ≤ 0 ∧ 0 < (l11_0 : Int) ∧ ∃ s24_0 : ByteArray, ∃ x24_1 : Int, ∃ x24_2 : Int, ∃ s24_3 : ByteArray, Vc.cell h5 ((q23.add (0 * 4)).add 0) = some (Value.string s24_0) ∧ Vc.cell h5 ((q23.add (0 * 4)).add 1) = some (Value.int .i64 x24_1) ∧ Vc.cell h5 ((q23.add (0 * 4)).add 2) = some (Value.int .i64 x24_2) ∧ Vc.cell h5 ((q23.add (0 * 4)).add 3) = some (Value.string s24_3) ∧ 4 = 4 ∧ ∃ e26 : Bool, (∀ w : World, (Op.equal 38 (Value.agg #[Value.string s24_0, Value.int .i64 x24_1, Value.int .i64 x24_2, Value.string s24_3]) (Value.agg #[Value.string (⟨#[97]⟩ : ByteArray), Value.int .i64 2, Value.int .i64 0, Value.string ByteArray.empty])).run Tryd.prog w = .ok e26 w) ∧ Tryd.prog.eqGuardType Tryd.prog.depth 38 = false ∧ br e26 (∃ q30 : Addr, a11_0 = some q30 ∧ (0 : Int) ≤ 1 ∧ 1 < (l11_0 : Int) ∧ ∃ s32 : ByteArray, Vc.cell h5 ((q30.add (1 * 4)).add 3) = some (Value.string s32) ∧ br (seq s32 (⟨#[121]⟩ : ByteArray)) (HCalls Tryd.prog 23 #[Value.slice a11_0 l11_0 c11_0] h5 fun r37 h6 => ∃ b37 : Bool, r37 = Value.bool b37 ∧ R (Value.bool b37) h6) (R (Value.bool false) h5)) (R (Value.bool false) h5)) (R (Value.bool false) h5)) (R (Value.bool false) h5)
def A12 : Ann := {  }
theorem F12_ent (h : Heap) (R : Value → Heap → Prop) (H : F12 h R) : HEnt Tryd.prog 12 #[] h R :=
  hent A12 mixed Tryd.func12 rfl (by kernel_rfl) (by kernel_rfl) (Eq.mp (by kernel_rfl) H)

/-! ### 13 veneer/veneerlaw08.own -/
def F13_k2 (I1 : Option Addr → Nat → Nat → Int → Heap → Prop) (M1 : Option Addr → Nat → Nat → Int → Heap → Nat) (m1 : Nat) (a0_0 : Option Addr) (n0_1 : Nat) (n0_2 : Nat) (a3_0 : Option Addr) (n3_1 : Nat) (n3_2 : Nat) (x6 : Int) (x7 : Int) (h : Heap) (R : Value → Heap → Prop) : Prop :=
  0 * 4 ≤ 16777216 ∧ newK h (.cells #[] 38) fun b11 h1 => ∃ q14 : Addr, a0_0 = some q14 ∧ (0 : Int) ≤ x7 ∧ x7 < (n0_1 : Int) ∧ ∃ a15 : Option Addr, ∃ l15 : Nat, ∃ c15 : Nat, Vc.cell h1 (q14.add (x7.toNat * 1)) = some (Value.slice a15 l15 c15) ∧ appK Tryd.prog 38 h1 (some (at0 b11)) 0 0 (Value.slice a15 l15 c15) fun a16 l16 c16 h2 => 1 * 1 ≤ 16777216 ∧ newK h2 (.cells #[Value.slice a16 l16 c16] 26) fun b17 h3 => appK Tryd.prog 26 h3 a3_0 n3_1 n3_2 (Value.slice (some (at0 b17)) 1 1) fun a18 l18 c18 h4 => I1 a18 l18 c18 (IntKind.i64.wrap (x7 + 1)) h4 ∧ M1 a18 l18 c18 (IntKind.i64.wrap (x7 + 1)) h4 < m1
def F13_k3 (a3_0 : Option Addr) (n3_1 : Nat) (n3_2 : Nat) (h : Heap) (R : Value → Heap → Prop) : Prop :=
  R (Value.slice a3_0 n3_1 n3_2) h
def F13_b1 (I1 : Option Addr → Nat → Nat → Int → Heap → Prop) (M1 : Option Addr → Nat → Nat → Int → Heap → Nat) (m1 : Nat) (a0_0 : Option Addr) (n0_1 : Nat) (n0_2 : Nat) (a2_0 : Option Addr) (n2_1 : Nat) (n2_2 : Nat) (a3_0 : Option Addr) (n3_1 : Nat) (n3_2 : Nat) (x6 : Int) (x7 : Int) (h : Heap) (R : Value → Heap → Prop) : Prop :=
  br (decide ((x7 : Int) < x6)) (F13_k2 I1 M1 m1 a0_0 n0_1 n0_2 a3_0 n3_1 n3_2 x6 x7 h R) (F13_k3 a3_0 n3_1 n3_2 h R)
def F13 (a0 : Option Addr) (l0 : Nat) (c0 : Nat) (h : Heap) (R : Value → Heap → Prop) : Prop :=
  ∃ (I1 : Option Addr → Nat → Nat → Int → Heap → Prop) (M1 : Option Addr → Nat → Nat → Int → Heap → Nat), I1 none 0 0 0 h ∧ ∀ h1 (a3 : Option Addr) (l3 c3 : Nat) (x7 : Int), I1 a3 l3 c3 x7 h1 → F13_b1 I1 M1 (M1 a3 l3 c3 x7 h1) a0 l0 c0 none 0 0 a3 l3 c3 (l0 : Int) x7 h1 R
def A13 : Ann := { loops := [(3, [(3, .slice), (7, .int .i64)])] }
theorem F13_ent (a0 : Option Addr) (l0 : Nat) (c0 : Nat) (h : Heap) (R : Value → Heap → Prop) (H : F13 a0 l0 c0 h R) : HEnt Tryd.prog 13 #[Value.slice a0 l0 c0] h R :=
  hent A13 mixed Tryd.func13 rfl (by kernel_rfl) (by kernel_rfl) (Eq.mp (by kernel_rfl) H)

/-! ### 15 veneer/veneerref08.Merge -/
def F15_k8 (I2 : Option Addr → Nat → Nat → Int → Heap → Prop) (M2 : Option Addr → Nat → Nat → Int → Heap → Nat) (m2 : Nat) (I5 : Option Addr → Nat → Nat → Int → Heap → Prop) (M5 : Option Addr → Nat → Nat → Int → Heap → Nat) (m5 : Nat) (I7 : Option Addr → Nat → Nat → Int → Heap → Prop) (M7 : Option Addr → Nat → Nat → Int → Heap → Nat) (m7 : Nat) (a0_0 : Option Addr) (n0_1 : Nat) (n0_2 : Nat) (a4_0 : Option Addr) (n4_1 : Nat) (n4_2 : Nat) (x5 : Int) (x8 : Int) (a9_0 : Option Addr) (n9_1 : Nat) (n9_2 : Nat) (x10 : Int) (h : Heap) (R : Value → Heap → Prop) : Prop :=
  ∃ q61 : Addr, a9_0 = some q61 ∧ (0 : Int) ≤ x10 ∧ x10 < (n9_1 : Int) ∧ ∃ s62 : ByteArray, Vc.cell h (q61.add (x10.toNat * 1)) = some (Value.string s62) ∧ HCalls Tryd.prog 31 #[Value.slice a4_0 n4_1 n4_2, Value.string s62] h fun r63 h1 => ∃ a63 : Option Addr, ∃ l63 : Nat, ∃ c63 : Nat, r63 = Value.slice a63 l63 c63 ∧ I7 a63 l63 c63 (IntKind.i64.wrap (x10 + 1)) h1 ∧ M7 a63 l63 c63 (IntKind.i64.wrap (x10 + 1)) h1 < m7
def F15_k9 (I2 : Option Addr → Nat → Nat → Int → Heap → Prop) (M2 : Option Addr → Nat → Nat → Int → Heap → Nat) (m2 : Nat) (I5 : Option Addr → Nat → Nat → Int → Heap → Prop) (M5 : Option Addr → Nat → Nat → Int → Heap → Nat) (m5 : Nat) (a0_0 : Option Addr) (n0_1 : Nat) (n0_2 : Nat) (a4_0 : Option Addr) (n4_1 : Nat) (n4_2 : Nat) (x5 : Int) (x8 : Int) (h : Heap) (R : Value → Heap → Prop) : Prop :=
  I5 a4_0 n4_1 n4_2 (IntKind.i64.wrap (x8 + 1)) h ∧ M5 a4_0 n4_1 n4_2 (IntKind.i64.wrap (x8 + 1)) h < m5
def F15_b7 (I2 : Option Addr → Nat → Nat → Int → Heap → Prop) (M2 : Option Addr → Nat → Nat → Int → Heap → Nat) (m2 : Nat) (I5 : Option Addr → Nat → Nat → Int → Heap → Prop) (M5 : Option Addr → Nat → Nat → Int → Heap → Nat) (m5 : Nat) (I7 : Option Addr → Nat → Nat → Int → Heap → Prop) (M7 : Option Addr → Nat → Nat → Int → Heap → Nat) (m7 : Nat) (a0_0 : Option Addr) (n0_1 : Nat) (n0_2 : Nat) (a4_0 : Option Addr) (n4_1 : Nat) (n4_2 : Nat) (x5 : Int) (x8 : Int) (a9_0 : Option Addr) (n9_1 : Nat) (n9_2 : Nat) (x10 : Int) (h : Heap) (R : Value → Heap → Prop) : Prop :=
  br (decide ((x10 : Int) < (n9_1 : Int))) (F15_k8 I2 M2 m2 I5 M5 m5 I7 M7 m7 a0_0 n0_1 n0_2 a4_0 n4_1 n4_2 x5 x8 a9_0 n9_1 n9_2 x10 h R) (F15_k9 I2 M2 m2 I5 M5 m5 a0_0 n0_1 n0_2 a4_0 n4_1 n4_2 x5 x8 h R)
def F15_k6 (I2 : Option Addr → Nat → Nat → Int → Heap → Prop) (M2 : Option Addr → Nat → Nat → Int → Heap → Nat) (m2 : Nat) (I5 : Option Addr → Nat → Nat → Int → Heap → Prop) (M5 : Option Addr → Nat → Nat → Int → Heap → Nat) (m5 : Nat) (a0_0 : Option Addr) (n0_1 : Nat) (n0_2 : Nat) (a4_0 : Option Addr) (n4_1 : Nat) (n4_2 : Nat) (x5 : Int) (x8 : Int) (h : Heap) (R : Value → Heap → Prop) : Prop :=
  ∃ q45 : Addr, a0_0 = some q45 ∧ (0 : Int) ≤ x5 ∧ x5 < (n0_1 : Int) ∧ ∃ a46 : Option Addr, ∃ l46 : Nat, ∃ c46 : Nat, Vc.cell h (q45.add (x5.toNat * 1)) = some (Value.slice a46 l46 c46) ∧ ∃ q48 : Addr, a46 = some q48 ∧ (0 : Int) ≤ x8 ∧ x8 < (l46 : Int) ∧ ∃ s50 : ByteArray, Vc.cell h ((q48.add (x8.toNat * 4)).add 0) = some (Value.string s50) ∧ HCalls Tryd.prog 30 #[Value.string s50] h fun r51 h1 => ∃ a51 : Option Addr, ∃ l51 : Nat, ∃ c51 : Nat, r51 = Value.slice a51 l51 c51 ∧ ∃ (I7 : Option Addr → Nat → Nat → Int → Heap → Prop) (M7 : Option Addr → Nat → Nat → Int → Heap → Nat), I7 a4_0 n4_1 n4_2 1 h1 ∧ ∀ h2 (a4 : Option Addr) (l4 c4 : Nat) (x10 : Int), I7 a4 l4 c4 x10 h2 → F15_b7 I2 M2 m2 I5 M5 m5 I7 M7 (M7 a4 l4 c4 x10 h2) a0_0 n0_1 n0_2 a4 l4 c4 x5 x8 a51 l51 c51 x10 h2 R
def F15_k10 (I2 : Option Addr → Nat → Nat → Int → Heap → Prop) (M2 : Option Addr → Nat → Nat → Int → Heap → Nat) (m2 : Nat) (a0_0 : Option Addr) (n0_1 : Nat) (n0_2 : Nat) (a4_0 : Option Addr) (n4_1 : Nat) (n4_2 : Nat) (x5 : Int) (h : Heap) (R : Value → Heap → Prop) : Prop :=
  I2 a4_0 n4_1 n4_2 (IntKind.i64.wrap (x5 + 1)) h ∧ M2 a4_0 n4_1 n4_2 (IntKind.i64.wrap (x5 + 1)) h < m2
def F15_b5 (I2 : Option Addr → Nat → Nat → Int → Heap → Prop) (M2 : Option Addr → Nat → Nat → Int → Heap → Nat) (m2 : Nat) (I5 : Option Addr → Nat → Nat → Int → Heap → Prop) (M5 : Option Addr → Nat → Nat → Int → Heap → Nat) (m5 : Nat) (a0_0 : Option Addr) (n0_1 : Nat) (n0_2 : Nat) (a4_0 : Option Addr) (n4_1 : Nat) (n4_2 : Nat) (x5 : Int) (x8 : Int) (h : Heap) (R : Value → Heap → Prop) : Prop :=
  ∃ q37 : Addr, a0_0 = some q37 ∧ (0 : Int) ≤ x5 ∧ x5 < (n0_1 : Int) ∧ ∃ a38 : Option Addr, ∃ l38 : Nat, ∃ c38 : Nat, Vc.cell h (q37.add (x5.toNat * 1)) = some (Value.slice a38 l38 c38) ∧ br (decide ((x8 : Int) < (l38 : Int))) (F15_k6 I2 M2 m2 I5 M5 m5 a0_0 n0_1 n0_2 a4_0 n4_1 n4_2 x5 x8 h R) (F15_k10 I2 M2 m2 a0_0 n0_1 n0_2 a4_0 n4_1 n4_2 x5 h R)
def F15_k4 (I2 : Option Addr → Nat → Nat → Int → Heap → Prop) (M2 : Option Addr → Nat → Nat → Int → Heap → Nat) (m2 : Nat) (a0_0 : Option Addr) (n0_1 : Nat) (n0_2 : Nat) (a4_0 : Option Addr) (n4_1 : Nat) (n4_2 : Nat) (x5 : Int) (h : Heap) (R : Value → Heap → Prop) : Prop :=
  ∃ (I5 : Option Addr → Nat → Nat → Int → Heap → Prop) (M5 : Option Addr → Nat → Nat → Int → Heap → Nat), I5 a4_0 n4_1 n4_2 0 h ∧ ∀ h1 (a4 : Option Addr) (l4 c4 : Nat) (x8 : Int), I5 a4 l4 c4 x8 h1 → F15_b5 I2 M2 m2 I5 M5 (M5 a4 l4 c4 x8 h1) a0_0 n0_1 n0_2 a4 l4 c4 x5 x8 h1 R
def F15_k3 (I2 : Option Addr → Nat → Nat → Int → Heap → Prop) (M2 : Option Addr → Nat → Nat → Int → Heap → Nat) (m2 : Nat) (a0_0 : Option Addr) (n0_1 : Nat) (n0_2 : Nat) (a4_0 : Option Addr) (n4_1 : Nat) (n4_2 : Nat) (x5 : Int) (h : Heap) (R : Value → Heap → Prop) : Prop :=
  ∃ q27 : Addr, a0_0 = some q27 ∧ (0 : Int) ≤ x5 ∧ x5 < (n0_1 : Int) ∧ ∃ a28 : Option Addr, ∃ l28 : Nat, ∃ c28 : Nat, Vc.cell h (q27.add (x5.toNat * 1)) = some (Value.slice a28 l28 c28) ∧ HCalls Tryd.prog 29 #[Value.slice a28 l28 c28] h fun r29 h1 => ∃ x29_0 : Int, ∃ x29_1 : Int, r29 = Value.tuple #[Value.int .i64 x29_0, Value.int .i64 x29_1] ∧ br ((x29_1 : Int) != 0) (R (Value.tuple #[Value.slice none 0 0, Value.int .i64 5]) h1) (F15_k4 I2 M2 m2 a0_0 n0_1 n0_2 a4_0 n4_1 n4_2 x5 h1 R)
def F15_k14 (I12 : Option Addr → Nat → Nat → Int → Heap → Prop) (M12 : Option Addr → Nat → Nat → Int → Heap → Nat) (m12 : Nat) (a0_0 : Option Addr) (n0_1 : Nat) (n0_2 : Nat) (a4_0 : Option Addr) (n4_1 : Nat) (n4_2 : Nat) (a11_0 : Option Addr) (n11_1 : Nat) (n11_2 : Nat) (x12 : Int) (h : Heap) (R : Value → Heap → Prop) : Prop :=
  I12 a11_0 n11_1 n11_2 (IntKind.i64.wrap (x12 + 1)) h ∧ M12 a11_0 n11_1 n11_2 (IntKind.i64.wrap (x12 + 1)) h < m12
def F15_k13 (I12 : Option Addr → Nat → Nat → Int → Heap → Prop) (M12 : Option Addr → Nat → Nat → Int → Heap → Nat) (m12 : Nat) (a0_0 : Option Addr) (n0_1 : Nat) (n0_2 : Nat) (a4_0 : Option Addr) (n4_1 : Nat) (n4_2 : Nat) (a11_0 : Option Addr) (n11_1 : Nat) (n11_2 : Nat) (x12 : Int) (h : Heap) (R : Value → Heap → Prop) : Prop :=
  ∃ q76 : Addr, a4_0 = some q76 ∧ (0 : Int) ≤ x12 ∧ x12 < (n4_1 : Int) ∧ ∃ s77 : ByteArray, Vc.cell h (q76.add (x12.toNat * 1)) = some (Value.string s77) ∧ HCalls Tryd.prog 32 #[Value.slice a0_0 n0_1 n0_2, Value.int .i64 (n0_1 : Int), Value.string s77] h fun r78 h1 => ∃ s78_0_0 : ByteArray, ∃ x78_0_1 : Int, ∃ x78_0_2 : Int, ∃ s78_0_3 : ByteArray, ∃ b78_1 : Bool, r78 = Value.tuple #[Value.agg #[Value.string s78_0_0, Value.int .i64 x78_0_1, Value.int .i64 x78_0_2, Value.string s78_0_3], Value.bool b78_1] ∧ newK h1 (.cells (zeroC Tryd.prog 38) 38) fun b13 h2 => storeK 4 h2 (at0 b13) (Value.agg #[Value.string s78_0_0, Value.int .i64 x78_0_1, Value.int .i64 x78_0_2, Value.string s78_0_3]) fun h3 => br b78_1 (∃ s83_0 : ByteArray, ∃ x83_1 : Int, ∃ x83_2 : Int, ∃ s83_3 : ByteArray, Vc.cell h3 ((at0 b13).add 0) = some (Value.string s83_0) ∧ Vc.cell h3 ((at0 b13).add 1) = some (Value.int .i64 x83_1) ∧ Vc.cell h3 ((at0 b13).add 2) = some (Value.int .i64 x83_2) ∧ Vc.cell h3 ((at0 b13).add 3) = some (Value.string s83_3) ∧ 4 = 4 ∧ (#[Value.string s83_0, Value.int .i64 x83_1, Value.int .i64 x83_2, Value.string s83_3]).size = 4 ∧ 1 * 4 ≤ 16777216 ∧ newK h3 (.cells #[Value.string s83_0, Value.int .i64 x83_1, Value.int .i64 x83_2, Value.string s83_3] 38) fun b84 h4 => appK Tryd.prog 38 h4 a11_0 n11_1 n11_2 (Value.slice (some (at0 b84)) 1 1) fun a85 l85 c85 h5 => F15_k14 I12 M12 m12 a0_0 n0_1 n0_2 a4_0 n4_1 n4_2 a85 l85 c85 x12 h5 R) (F15_k14 I12 M12 m12 a0_0 n0_1 n0_2 a4_0 n4_1 n4_2 a11_0 n11_1 n11_2 x12 h3 R)
def F15_k15 (a11_0 : Option Addr) (n11_1 : Nat) (n11_2 : Nat) (h : Heap) (R : Value → Heap → Prop) : Prop :=
  R (Value.tuple #[Value.slice a11_0 n11_1 n11_2, Value.int .i64 0]) h
def F15_b12 (I12 : Option Addr → Nat → Nat → Int → Heap → Prop) (M12 : Option Addr → Nat → Nat → Int → Heap → Nat) (m12 : Nat) (a0_0 : Option Addr) (n0_1 : Nat) (n0_2 : Nat) (a4_0 : Option Addr) (n4_1 : Nat) (n4_2 : Nat) (a11_0 : Option Addr) (n11_1 : Nat) (n11_2 : Nat) (x12 : Int) (h : Heap) (R : Value → Heap → Prop) : Prop :=
  br (decide ((x12 : Int) < (n4_1 : Int))) (F15_k13 I12 M12 m12 a0_0 n0_1 n0_2 a4_0 n4_1 n4_2 a11_0 n11_1 n11_2 x12 h R) (F15_k15 a11_0 n11_1 n11_2 h R)
def F15_k11 (a0_0 : Option Addr) (n0_1 : Nat) (n0_2 : Nat) (a4_0 : Option Addr) (n4_1 : Nat) (n4_2 : Nat) (h : Heap) (R : Value → Heap → Prop) : Prop :=
  ∃ (I12 : Option Addr → Nat → Nat → Int → Heap → Prop) (M12 : Option Addr → Nat → Nat → Int → Heap → Nat), I12 none 0 0 0 h ∧ ∀ h1 (a11 : Option Addr) (l11 c11 : Nat) (x12 : Int), I12 a11 l11 c11 x12 h1 → F15_b12 I12 M12 (M12 a11 l11 c11 x12 h1) a0_0 n0_1 n0_2 a4_0 n4_1 n4_2 a11 l11 c11 x12 h1 R
def F15_b2 (I2 : Option Addr → Nat → Nat → Int → Heap → Prop) (M2 : Option Addr → Nat → Nat → Int → Heap → Nat) (m2 : Nat) (a0_0 : Option Addr) (n0_1 : Nat) (n0_2 : Nat) (a4_0 : Option Addr) (n4_1 : Nat) (n4_2 : Nat) (x5 : Int) (h : Heap) (R : Value → Heap → Prop) : Prop :=
  br (decide ((x5 : Int) < (n0_1 : Int))) (F15_k3 I2 M2 m2 a0_0 n0_1 n0_2 a4_0 n4_1 n4_2 x5 h R) (F15_k11 a0_0 n0_1 n0_2 a4_0 n4_1 n4_2 h R)
def F15_k1 (a0_0 : Option Addr) (n0_1 : Nat) (n0_2 : Nat) (h : Heap) (R : Value → Heap → Prop) : Prop :=
  ∃ (I2 : Option Addr → Nat → Nat → Int → Heap → Prop) (M2 : Option Addr → Nat → Nat → Int → Heap → Nat), I2 none 0 0 0 h ∧ ∀ h1 (a4 : Option Addr) (l4 c4 : Nat) (x5 : Int), I2 a4 l4 c4 x5 h1 → F15_b2 I2 M2 (M2 a4 l4 c4 x5 h1) a0_0 n0_1 n0_2 a4 l4 c4 x5 h1 R
def F15 (a0 : Option Addr) (l0 : Nat) (c0 : Nat) (h : Heap) (R : Value → Heap → Prop) : Prop :=
  br (decide (((l0 : Int) : Int) > 16)) (R (Value.tuple #[Value.slice none 0 0, Value.int .i64 3]) h) (F15_k1 a0 l0 c0 h R)
def A15 : Ann := { loops := [(5, [(4, .slice), (5, .int .i64)]), (11, [(4, .slice), (8, .int .i64)]), (15, [(4, .slice), (10, .int .i64)]), (20, [(11, .slice), (12, .int .i64)])] }
theorem F15_ent (a0 : Option Addr) (l0 : Nat) (c0 : Nat) (h : Heap) (R : Value → Heap → Prop) (H : F15 a0 l0 c0 h R) : HEnt Tryd.prog 15 #[Value.slice a0 l0 c0] h R :=
  hent A15 mixed Tryd.func15 rfl (by kernel_rfl) (by kernel_rfl) (Eq.mp (by kernel_rfl) H)

/-! ### 31 veneer/veneerref08.put -/
def F31_k4 (I1 : Int → Heap → Prop) (M1 : Int → Heap → Nat) (m1 : Nat) (a0_0 : Option Addr) (n0_1 : Nat) (n0_2 : Nat) (s1 : ByteArray) (x5 : Int) (h : Heap) (R : Value → Heap → Prop) : Prop :=
  ∀ x5_1 : Int, x5_1 = IntKind.i64.wrap (x5 + 1) → I1 x5_1 h ∧ M1 x5_1 h < m1
def F31_k3 (I1 : Int → Heap → Prop) (M1 : Int → Heap → Nat) (m1 : Nat) (a0_0 : Option Addr) (n0_1 : Nat) (n0_2 : Nat) (s1 : ByteArray) (x5 : Int) (h : Heap) (R : Value → Heap → Prop) : Prop :=
  ∃ q22 : Addr, a0_0 = some q22 ∧ (0 : Int) ≤ x5 ∧ x5 < (n0_1 : Int) ∧ ∃ s23 : ByteArray, Vc.cell h (q22.add (x5.toNat * 1)) = some (Value.string s23) ∧ HCalls Tryd.prog 52 #[Value.string s1, Value.string s23] h fun r24 h1 => ∃ b24 : Bool, r24 = Value.bool b24 ∧ br b24 (∃ Rl : Heap → Heap → Prop, (∀ h, Rl h h) ∧ (∀ a b c, Rl a b → Rl b c → Rl a c) ∧ (0 : Int) ≤ 0 ∧ (0 : Int) ≤ x5 ∧ x5 ≤ (n0_2 : Int) ∧ (0 : Int) ≤ x5 ∧ (x5 : Int) ≤ (n0_1 : Int) ∧ (0 * 1 ≤ 16777216 ∧ newK h1 (.cells #[] 9) fun b25 h2 => Rl h1 h2 ∧ (appK Tryd.prog 9 h2 (some (at0 b25)) 0 0 (Value.slice (cutAt n0_2 0 1 a0_0) (x5.toNat - 0) (n0_2 - 0)) fun a29 l29 c29 h3 => Rl h2 h3 ∧ 1 * 1 ≤ 16777216 ∧ newK h3 (.cells #[Value.string s1] 9) fun b31 h4 => Rl h3 h4 ∧ appK Tryd.prog 9 h4 a29 l29 c29 (Value.slice (some (at0 b31)) 1 1) fun a32 l32 c32 h5 => Rl h4 h5 ∧ appK Tryd.prog 9 h5 a32 l32 c32 (Value.slice (cutAt n0_2 x5.toNat 1 a0_0) (n0_1 - x5.toNat) (n0_2 - x5.toNat)) fun a36 l36 c36 h6 => Rl h5 h6 ∧ R (Value.slice a36 l36 c36) h6) ∧ 1 * 1 ≤ 16777216 ∧ newK h2 (.cells #[Value.string s1] 9) fun b31 h3 => Rl h2 h3 ∧ appK Tryd.prog 9 h3 (some (at0 b25)) 0 0 (Value.slice (cutAt n0_2 0 1 a0_0) (x5.toNat - 0) (n0_2 - 0)) fun a29 l29 c29 h4 => Rl h3 h4 ∧ appK Tryd.prog 9 h4 a29 l29 c29 (Value.slice (some (at0 b31)) 1 1) fun a32 l32 c32 h5 => Rl h4 h5 ∧ appK Tryd.prog 9 h5 a32 l32 c32 (Value.slice (cutAt n0_2 x5.toNat 1 a0_0) (n0_1 - x5.toNat) (n0_2 - x5.toNat)) fun a36 l36 c36 h6 => Rl h5 h6 ∧ R (Value.slice a36 l36 c36) h6) ∧ 1 * 1 ≤ 16777216 ∧ newK h1 (.cells #[Value.string s1] 9) fun b31 h2 => Rl h1 h2 ∧ 0 * 1 ≤ 16777216 ∧ newK h2 (.cells #[] 9) fun b25 h3 => Rl h2 h3 ∧ appK Tryd.prog 9 h3 (some (at0 b25)) 0 0 (Value.slice (cutAt n0_2 0 1 a0_0) (x5.toNat - 0) (n0_2 - 0)) fun a29 l29 c29 h4 => Rl h3 h4 ∧ appK Tryd.prog 9 h4 a29 l29 c29 (Value.slice (some (at0 b31)) 1 1) fun a32 l32 c32 h5 => Rl h4 h5 ∧ appK Tryd.prog 9 h5 a32 l32 c32 (Value.slice (cutAt n0_2 x5.toNat 1 a0_0) (n0_1 - x5.toNat) (n0_2 - x5.toNat)) fun a36 l36 c36 h6 => Rl h5 h6 ∧ R (Value.slice a36 l36 c36) h6) (F31_k4 I1 M1 m1 a0_0 n0_1 n0_2 s1 x5 h1 R)
def F31_k2 (I1 : Int → Heap → Prop) (M1 : Int → Heap → Nat) (m1 : Nat) (a0_0 : Option Addr) (n0_1 : Nat) (n0_2 : Nat) (s1 : ByteArray) (x5 : Int) (h : Heap) (R : Value → Heap → Prop) : Prop :=
  ∃ q14 : Addr, a0_0 = some q14 ∧ (0 : Int) ≤ x5 ∧ x5 < (n0_1 : Int) ∧ ∃ s15 : ByteArray, Vc.cell h (q14.add (x5.toNat * 1)) = some (Value.string s15) ∧ br (seq s15 s1) (R (Value.slice a0_0 n0_1 n0_2) h) (F31_k3 I1 M1 m1 a0_0 n0_1 n0_2 s1 x5 h R)
def F31_k5 (a0_0 : Option Addr) (n0_1 : Nat) (n0_2 : Nat) (s1 : ByteArray) (h : Heap) (R : Value → Heap → Prop) : Prop :=
  0 * 1 ≤ 16777216 ∧ newK h (.cells #[] 9) fun b37 h1 => appK Tryd.prog 9 h1 (some (at0 b37)) 0 0 (Value.slice a0_0 n0_1 n0_2) fun a39 l39 c39 h2 => 1 * 1 ≤ 16777216 ∧ newK h2 (.cells #[Value.string s1] 9) fun b41 h3 => appK Tryd.prog 9 h3 a39 l39 c39 (Value.slice (some (at0 b41)) 1 1) fun a42 l42 c42 h4 => R (Value.slice a42 l42 c42) h4
def F31_b1 (I1 : Int → Heap → Prop) (M1 : Int → Heap → Nat) (m1 : Nat) (a0_0 : Option Addr) (n0_1 : Nat) (n0_2 : Nat) (s1 : ByteArray) (x5 : Int) (h : Heap) (R : Value → Heap → Prop) : Prop :=
  br (decide ((x5 : Int) < (n0_1 : Int))) (F31_k2 I1 M1 m1 a0_0 n0_1 n0_2 s1 x5 h R) (F31_k5 a0_0 n0_1 n0_2 s1 h R)
def F31 (a0 : Option Addr) (l0 : Nat) (c0 : Nat) (s1 : ByteArray) (h : Heap) (R : Value → Heap → Prop) : Prop :=
  ∀ x5 : Int, x5 = 0 → ∃ (I1 : Int → Heap → Prop) (M1 : Int → Heap → Nat), I1 x5 h ∧ ∀ h1 (x5_1 : Int), I1 x5_1 h1 → F31_b1 I1 M1 (M1 x5_1 h1) a0 l0 c0 s1 x5_1 h1 R
def A31 : Ann := { bind := [5], loops := [(2, [(5, .int .i64)])], draws := [(7, 3, 0)], mixes := [(7, .quiet 1 (.quiet 2 (.quiet 3 (.quiet 5 (.quiet 8 (.quiet 9 (.quiet 10 (.two 0 (.two 4 (.one 6 (.one 7 (.one 11 (.quiet 12 (.done))))) 6 (.one 4 (.one 7 (.one 11 (.quiet 12 (.done)))))) 6 (.one 0 (.one 4 (.one 7 (.one 11 (.quiet 12 (.done))))))))))))))] }
theorem F31_ent (a0 : Option Addr) (l0 : Nat) (c0 : Nat) (s1 : ByteArray) (h : Heap) (R : Value → Heap → Prop) (H : F31 a0 l0 c0 s1 h R) : HEnt Tryd.prog 31 #[Value.slice a0 l0 c0, Value.string s1] h R :=
  hent A31 mixed Tryd.func31 rfl (by kernel_rfl) (by kernel_rfl) (Eq.mp (by kernel_rfl) H)

/-! ### 32 veneer/veneerref08.seen -/
def F32_k3 (q6 : Addr) (q10 : Addr) (h : Heap) (R : Value → Heap → Prop) : Prop :=
  ∃ s44_0 : ByteArray, ∃ x44_1 : Int, ∃ x44_2 : Int, ∃ s44_3 : ByteArray, Vc.cell h (q10.add 0) = some (Value.string s44_0) ∧ Vc.cell h (q10.add 1) = some (Value.int .i64 x44_1) ∧ Vc.cell h (q10.add 2) = some (Value.int .i64 x44_2) ∧ Vc.cell h (q10.add 3) = some (Value.string s44_3) ∧ 4 = 4 ∧ storeK 4 h q6 (Value.agg #[Value.string s44_0, Value.int .i64 x44_1, Value.int .i64 x44_2, Value.string s44_3]) fun h1 => ∃ sr0_0 : ByteArray, ∃ xr0_1 : Int, ∃ xr0_2 : Int, ∃ sr0_3 : ByteArray, Vc.cell h1 (q6.add 0) = some (Value.string sr0_0) ∧ Vc.cell h1 (q6.add 1) = some (Value.int .i64 xr0_1) ∧ Vc.cell h1 (q6.add 2) = some (Value.int .i64 xr0_2) ∧ Vc.cell h1 (q6.add 3) = some (Value.string sr0_3) ∧ 4 = 4 ∧ R (Value.tuple #[Value.agg #[Value.string sr0_0, Value.int .i64 xr0_1, Value.int .i64 xr0_2, Value.string sr0_3], Value.bool true]) h1
def F32_k2 (q6 : Addr) (a8_0 : Option Addr) (n8_1 : Nat) (n8_2 : Nat) (x9 : Int) (h : Heap) (R : Value → Heap → Prop) : Prop :=
  ∃ q38 : Addr, a8_0 = some q38 ∧ (0 : Int) ≤ x9 ∧ x9 < (n8_1 : Int) ∧ ∃ s39_0 : ByteArray, ∃ x39_1 : Int, ∃ x39_2 : Int, ∃ s39_3 : ByteArray, Vc.cell h ((q38.add (x9.toNat * 4)).add 0) = some (Value.string s39_0) ∧ Vc.cell h ((q38.add (x9.toNat * 4)).add 1) = some (Value.int .i64 x39_1) ∧ Vc.cell h ((q38.add (x9.toNat * 4)).add 2) = some (Value.int .i64 x39_2) ∧ Vc.cell h ((q38.add (x9.toNat * 4)).add 3) = some (Value.string s39_3) ∧ 4 = 4 ∧ newK h (.cells (zeroC Tryd.prog 38) 38) fun b10 h1 => storeK 4 h1 (at0 b10) (Value.agg #[Value.string s39_0, Value.int .i64 x39_1, Value.int .i64 x39_2, Value.string s39_3]) fun h2 => ∃ x41 : Int, Vc.cell h2 ((at0 b10).add 1) = some (Value.int .i64 x41) ∧ br ((x41 : Int) == 4) (storeK 1 h2 ((at0 b10).add 1) (Value.int .i64 2) fun h3 => F32_k3 q6 (at0 b10) h3 R) (F32_k3 q6 (at0 b10) h2 R)
def F32_k10 (I5 : Bool → Bool → Int → Heap → Prop) (M5 : Bool → Bool → Int → Heap → Nat) (m5 : Nat) (a0_0 : Option Addr) (n0_1 : Nat) (n0_2 : Nat) (x1 : Int) (s2 : ByteArray) (q6 : Addr) (a8_0 : Option Addr) (n8_1 : Nat) (n8_2 : Nat) (b11 : Bool) (b12 : Bool) (x13 : Int) (h : Heap) (R : Value → Heap → Prop) : Prop :=
  I5 b11 b12 (IntKind.i64.wrap (x13 + 1)) h ∧ M5 b11 b12 (IntKind.i64.wrap (x13 + 1)) h < m5
def F32_k9 (I5 : Bool → Bool → Int → Heap → Prop) (M5 : Bool → Bool → Int → Heap → Nat) (m5 : Nat) (a0_0 : Option Addr) (n0_1 : Nat) (n0_2 : Nat) (x1 : Int) (s2 : ByteArray) (q6 : Addr) (a8_0 : Option Addr) (n8_1 : Nat) (n8_2 : Nat) (b11 : Bool) (b12 : Bool) (x13 : Int) (b80 : Bool) (h : Heap) (R : Value → Heap → Prop) : Prop :=
  br b80 (F32_k10 I5 M5 m5 a0_0 n0_1 n0_2 x1 s2 q6 a8_0 n8_1 n8_2 b11 true x13 h R) (F32_k10 I5 M5 m5 a0_0 n0_1 n0_2 x1 s2 q6 a8_0 n8_1 n8_2 b11 b12 x13 h R)
def F32_k8 (I5 : Bool → Bool → Int → Heap → Prop) (M5 : Bool → Bool → Int → Heap → Nat) (m5 : Nat) (a0_0 : Option Addr) (n0_1 : Nat) (n0_2 : Nat) (x1 : Int) (s2 : ByteArray) (q6 : Addr) (a8_0 : Option Addr) (n8_1 : Nat) (n8_2 : Nat) (b11 : Bool) (b12 : Bool) (x13 : Int) (h : Heap) (R : Value → Heap → Prop) : Prop :=
  ∃ q69 : Addr, a8_0 = some q69 ∧ (0 : Int) ≤ x13 ∧ x13 < (n8_1 : Int) ∧ ∃ s71 : ByteArray, Vc.cell h ((q69.add (x13.toNat * 4)).add 0) = some (Value.string s71) ∧ HCalls Tryd.prog 53 #[Value.string s2, Value.string s71] h fun r72 h1 => ∃ b72 : Bool, r72 = Value.bool b72 ∧ br b72 (∃ q76 : Addr, a8_0 = some q76 ∧ (0 : Int) ≤ x13 ∧ x13 < (n8_1 : Int) ∧ ∃ x78 : Int, Vc.cell h1 ((q76.add (x13.toNat * 4)).add 1) = some (Value.int .i64 x78) ∧ F32_k9 I5 M5 m5 a0_0 n0_1 n0_2 x1 s2 q6 a8_0 n8_1 n8_2 b11 b12 x13 ((x78 : Int) != 3) h1 R) (F32_k9 I5 M5 m5 a0_0 n0_1 n0_2 x1 s2 q6 a8_0 n8_1 n8_2 b11 b12 x13 false h1 R)
def F32_k7 (I5 : Bool → Bool → Int → Heap → Prop) (M5 : Bool → Bool → Int → Heap → Nat) (m5 : Nat) (a0_0 : Option Addr) (n0_1 : Nat) (n0_2 : Nat) (x1 : Int) (s2 : ByteArray) (q6 : Addr) (a8_0 : Option Addr) (n8_1 : Nat) (n8_2 : Nat) (b11 : Bool) (b12 : Bool) (x13 : Int) (b65 : Bool) (h : Heap) (R : Value → Heap → Prop) : Prop :=
  br b65 (F32_k8 I5 M5 m5 a0_0 n0_1 n0_2 x1 s2 q6 a8_0 n8_1 n8_2 true b12 x13 h R) (F32_k8 I5 M5 m5 a0_0 n0_1 n0_2 x1 s2 q6 a8_0 n8_1 n8_2 b11 b12 x13 h R)
def F32_k6 (I5 : Bool → Bool → Int → Heap → Prop) (M5 : Bool → Bool → Int → Heap → Nat) (m5 : Nat) (a0_0 : Option Addr) (n0_1 : Nat) (n0_2 : Nat) (x1 : Int) (s2 : ByteArray) (q6 : Addr) (a8_0 : Option Addr) (n8_1 : Nat) (n8_2 : Nat) (b11 : Bool) (b12 : Bool) (x13 : Int) (h : Heap) (R : Value → Heap → Prop) : Prop :=
  ∃ q53 : Addr, a8_0 = some q53 ∧ (0 : Int) ≤ x13 ∧ x13 < (n8_1 : Int) ∧ ∃ s55 : ByteArray, Vc.cell h ((q53.add (x13.toNat * 4)).add 0) = some (Value.string s55) ∧ HCalls Tryd.prog 53 #[Value.string s55, Value.string s2] h fun r57 h1 => ∃ b57 : Bool, r57 = Value.bool b57 ∧ br b57 (∃ q61 : Addr, a8_0 = some q61 ∧ (0 : Int) ≤ x13 ∧ x13 < (n8_1 : Int) ∧ ∃ x63 : Int, Vc.cell h1 ((q61.add (x13.toNat * 4)).add 1) = some (Value.int .i64 x63) ∧ F32_k7 I5 M5 m5 a0_0 n0_1 n0_2 x1 s2 q6 a8_0 n8_1 n8_2 b11 b12 x13 ((x63 : Int) != 2) h1 R) (F32_k7 I5 M5 m5 a0_0 n0_1 n0_2 x1 s2 q6 a8_0 n8_1 n8_2 b11 b12 x13 false h1 R)
def F32_k14 (q6 : Addr) (q14 : Addr) (b15 : Bool) (h : Heap) (R : Value → Heap → Prop) : Prop :=
  ∃ s104_0 : ByteArray, ∃ x104_1 : Int, ∃ x104_2 : Int, ∃ s104_3 : ByteArray, Vc.cell h (q14.add 0) = some (Value.string s104_0) ∧ Vc.cell h (q14.add 1) = some (Value.int .i64 x104_1) ∧ Vc.cell h (q14.add 2) = some (Value.int .i64 x104_2) ∧ Vc.cell h (q14.add 3) = some (Value.string s104_3) ∧ 4 = 4 ∧ storeK 4 h q6 (Value.agg #[Value.string s104_0, Value.int .i64 x104_1, Value.int .i64 x104_2, Value.string s104_3]) fun h1 => ∃ sr0_0 : ByteArray, ∃ xr0_1 : Int, ∃ xr0_2 : Int, ∃ sr0_3 : ByteArray, Vc.cell h1 (q6.add 0) = some (Value.string sr0_0) ∧ Vc.cell h1 (q6.add 1) = some (Value.int .i64 xr0_1) ∧ Vc.cell h1 (q6.add 2) = some (Value.int .i64 xr0_2) ∧ Vc.cell h1 (q6.add 3) = some (Value.string sr0_3) ∧ 4 = 4 ∧ R (Value.tuple #[Value.agg #[Value.string sr0_0, Value.int .i64 xr0_1, Value.int .i64 xr0_2, Value.string sr0_3], Value.bool b15]) h1
def F32_k13 (s2 : ByteArray) (q6 : Addr) (q14 : Addr) (b15 : Bool) (b101 : Bool) (h : Heap) (R : Value → Heap → Prop) : Prop :=
  br b101 (storeK 4 h q6 (Value.agg #[Value.string s2, Value.int .i64 2, Value.int .i64 0, Value.string ByteArray.empty]) fun h1 => ∃ sr0_0 : ByteArray, ∃ xr0_1 : Int, ∃ xr0_2 : Int, ∃ sr0_3 : ByteArray, Vc.cell h1 (q6.add 0) = some (Value.string sr0_0) ∧ Vc.cell h1 (q6.add 1) = some (Value.int .i64 xr0_1) ∧ Vc.cell h1 (q6.add 2) = some (Value.int .i64 xr0_2) ∧ Vc.cell h1 (q6.add 3) = some (Value.string sr0_3) ∧ 4 = 4 ∧ R (Value.tuple #[Value.agg #[Value.string sr0_0, Value.int .i64 xr0_1, Value.int .i64 xr0_2, Value.string sr0_3], Value.bool true]) h1) (F32_k14 q6 q14 b15 h R)
def F32_k12 (s2 : ByteArray) (q6 : Addr) (b12 : Bool) (q14 : Addr) (b15 : Bool) (h : Heap) (R : Value → Heap → Prop) : Prop :=
  br b12 (br (!b15) (F32_k13 s2 q6 q14 b15 true h R) (∃ x98 : Int, Vc.cell h (q14.add 1) = some (Value.int .i64 x98) ∧ F32_k13 s2 q6 q14 b15 ((x98 : Int) == 1) h R)) (F32_k13 s2 q6 q14 b15 false h R)
def F32_k11 (a0_0 : Option Addr) (n0_1 : Nat) (n0_2 : Nat) (x1 : Int) (s2 : ByteArray) (q6 : Addr) (b11 : Bool) (b12 : Bool) (h : Heap) (R : Value → Heap → Prop) : Prop :=
  newK h (.cells (zeroC Tryd.prog 38) 38) fun b14 h1 => storeK 4 h1 (at0 b14) (Value.agg #[Value.string ByteArray.empty, Value.int .i64 0, Value.int .i64 0, Value.string ByteArray.empty]) fun h2 => br (!b11) (HCalls Tryd.prog 32 #[Value.slice a0_0 n0_1 n0_2, Value.int .i64 (IntKind.i64.wrap (x1 - 1)), Value.string s2] h2 fun r89 h3 => ∃ s89_0_0 : ByteArray, ∃ x89_0_1 : Int, ∃ x89_0_2 : Int, ∃ s89_0_3 : ByteArray, ∃ b89_1 : Bool, r89 = Value.tuple #[Value.agg #[Value.string s89_0_0, Value.int .i64 x89_0_1, Value.int .i64 x89_0_2, Value.string s89_0_3], Value.bool b89_1] ∧ storeK 4 h3 (at0 b14) (Value.agg #[Value.string s89_0_0, Value.int .i64 x89_0_1, Value.int .i64 x89_0_2, Value.string s89_0_3]) fun h4 => F32_k12 s2 q6 b12 (at0 b14) b89_1 h4 R) (F32_k12 s2 q6 b12 (at0 b14) false h2 R)
def F32_b5 (I5 : Bool → Bool → Int → Heap → Prop) (M5 : Bool → Bool → Int → Heap → Nat) (m5 : Nat) (a0_0 : Option Addr) (n0_1 : Nat) (n0_2 : Nat) (x1 : Int) (s2 : ByteArray) (q6 : Addr) (a8_0 : Option Addr) (n8_1 : Nat) (n8_2 : Nat) (b11 : Bool) (b12 : Bool) (x13 : Int) (h : Heap) (R : Value → Heap → Prop) : Prop :=
  br (decide ((x13 : Int) < (n8_1 : Int))) (F32_k6 I5 M5 m5 a0_0 n0_1 n0_2 x1 s2 q6 a8_0 n8_1 n8_2 b11 b12 x13 h R) (F32_k11 a0_0 n0_1 n0_2 x1 s2 q6 b11 b12 h R)
def F32_k4 (a0_0 : Option Addr) (n0_1 : Nat) (n0_2 : Nat) (x1 : Int) (s2 : ByteArray) (q6 : Addr) (a8_0 : Option Addr) (n8_1 : Nat) (n8_2 : Nat) (h : Heap) (R : Value → Heap → Prop) : Prop :=
  ∃ (I5 : Bool → Bool → Int → Heap → Prop) (M5 : Bool → Bool → Int → Heap → Nat), I5 false false 0 h ∧ ∀ h1 (b11 : Bool) (b12 : Bool) (x13 : Int), I5 b11 b12 x13 h1 → F32_b5 I5 M5 (M5 b11 b12 x13 h1) a0_0 n0_1 n0_2 x1 s2 q6 a8_0 n8_1 n8_2 b11 b12 x13 h1 R
def F32_k1 (a0_0 : Option Addr) (n0_1 : Nat) (n0_2 : Nat) (x1 : Int) (s2 : ByteArray) (q6 : Addr) (h : Heap) (R : Value → Heap → Prop) : Prop :=
  ∃ q22 : Addr, a0_0 = some q22 ∧ (0 : Int) ≤ IntKind.i64.wrap (x1 - 1) ∧ IntKind.i64.wrap (x1 - 1) < (n0_1 : Int) ∧ ∃ a23 : Option Addr, ∃ l23 : Nat, ∃ c23 : Nat, Vc.cell h (q22.add (((IntKind.i64.wrap (x1 - 1)).toNat) * 1)) = some (Value.slice a23 l23 c23) ∧ HCalls Tryd.prog 38 #[Value.slice a23 l23 c23, Value.string s2] h fun r26 h1 => ∃ x26 : Int, r26 = Value.int .i64 x26 ∧ br (decide ((x26 : Int) ≥ 0)) (∃ q31 : Addr, a23 = some q31 ∧ (0 : Int) ≤ x26 ∧ x26 < (l23 : Int) ∧ ∃ x33 : Int, Vc.cell h1 ((q31.add (x26.toNat * 4)).add 1) = some (Value.int .i64 x33) ∧ br ((x33 : Int) == 3) (storeK 4 h1 q6 (Value.agg #[Value.string ByteArray.empty, Value.int .i64 0, Value.int .i64 0, Value.string ByteArray.empty]) fun h2 => ∃ sr0_0 : ByteArray, ∃ xr0_1 : Int, ∃ xr0_2 : Int, ∃ sr0_3 : ByteArray, Vc.cell h2 (q6.add 0) = some (Value.string sr0_0) ∧ Vc.cell h2 (q6.add 1) = some (Value.int .i64 xr0_1) ∧ Vc.cell h2 (q6.add 2) = some (Value.int .i64 xr0_2) ∧ Vc.cell h2 (q6.add 3) = some (Value.string sr0_3) ∧ 4 = 4 ∧ R (Value.tuple #[Value.agg #[Value.string sr0_0, Value.int .i64 xr0_1, Value.int .i64 xr0_2, Value.string sr0_3], Value.bool false]) h2) (F32_k2 q6 a23 l23 c23 x26 h1 R)) (F32_k4 a0_0 n0_1 n0_2 x1 s2 q6 a23 l23 c23 h1 R)
def F32 (a0 : Option Addr) (l0 : Nat) (c0 : Nat) (x1 : Int) (s2 : ByteArray) (h : Heap) (R : Value → Heap → Prop) : Prop :=
  newK h (.cells (zeroC Tryd.prog 38) 38) fun b6 h1 => br ((x1 : Int) == 0) (storeK 4 h1 (at0 b6) (Value.agg #[Value.string ByteArray.empty, Value.int .i64 0, Value.int .i64 0, Value.string ByteArray.empty]) fun h2 => ∃ sr0_0 : ByteArray, ∃ xr0_1 : Int, ∃ xr0_2 : Int, ∃ sr0_3 : ByteArray, Vc.cell h2 ((at0 b6).add 0) = some (Value.string sr0_0) ∧ Vc.cell h2 ((at0 b6).add 1) = some (Value.int .i64 xr0_1) ∧ Vc.cell h2 ((at0 b6).add 2) = some (Value.int .i64 xr0_2) ∧ Vc.cell h2 ((at0 b6).add 3) = some (Value.string sr0_3) ∧ 4 = 4 ∧ R (Value.tuple #[Value.agg #[Value.string sr0_0, Value.int .i64 xr0_1, Value.int .i64 xr0_2, Value.string sr0_3], Value.bool false]) h2) (F32_k1 a0 l0 c0 x1 s2 (at0 b6) h1 R)
def A32 : Ann := { loops := [(14, [(11, .bool), (12, .bool), (13, .int .i64)])] }
theorem F32_ent (a0 : Option Addr) (l0 : Nat) (c0 : Nat) (x1 : Int) (s2 : ByteArray) (h : Heap) (R : Value → Heap → Prop) (H : F32 a0 l0 c0 x1 s2 h R) : HEnt Tryd.prog 32 #[Value.slice a0 l0 c0, Value.int .i64 x1, Value.string s2] h R :=
  hent A32 mixed Tryd.func32 rfl (by kernel_rfl) (by kernel_rfl) (Eq.mp (by kernel_rfl) H)

end Go.Proofs.YtcfegbpoailbdaaDoor
