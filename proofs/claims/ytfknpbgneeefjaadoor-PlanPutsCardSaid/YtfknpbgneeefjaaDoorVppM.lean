import Derived.Test.YtfknpbgneeefjaaDoorProg
import Derived.Test.YtfknpbgneeefjaaDoorVppA
import Derived.Test.YtfknpbgneeefjaaDoorVxpC

set_option linter.unusedVariables false
set_option maxRecDepth 100000
namespace Go.Proofs.YtfknpbgneeefjaaDoor
open Go.Vc
/-! ### 4 veneer/veneerlaw18.PlanAlls -/
def F4_k3 (I2 : Int → Heap → Prop) (M2 : Int → Heap → Nat) (m2 : Nat) (a0_0 : Option Addr) (n0_1 : Nat) (n0_2 : Nat) (a7_0 : Option Addr) (n7_1 : Nat) (n7_2 : Nat) (a8_0 : Option Addr) (n8_1 : Nat) (n8_2 : Nat) (b14 : Bool) (x51 : Int) (x52 : Int) (h : Heap) (R : Value → Heap → Prop) : Prop :=
  ∃ q57 : Addr, a8_0 = some q57 ∧ (0 : Int) ≤ x52 ∧ x52 < (n8_1 : Int) ∧ ∃ a59 : Option Addr, ∃ l59 : Nat, ∃ c59 : Nat, Vc.cell h ((q57.add (x52.toNat * 2)).add 1) = some (Value.slice a59 l59 c59) ∧ HCalls Tryd.prog 16 #[Value.slice a59 l59 c59] h fun r60 h1 => r60 = Value.tuple #[] ∧ I2 (IntKind.i64.wrap (x52 + 1)) h1 ∧ M2 (IntKind.i64.wrap (x52 + 1)) h1 < m2
def F4_k4 (a0_0 : Option Addr) (n0_1 : Nat) (n0_2 : Nat) (a7_0 : Option Addr) (n7_1 : Nat) (n7_2 : Nat) (b14 : Bool) (h : Heap) (R : Value → Heap → Prop) : Prop :=
  br b14 (HCalls Tryd.prog 18 #[Value.slice a0_0 n0_1 n0_2] h fun r66 h1 => ∃ a66 : Option Addr, ∃ l66 : Nat, ∃ c66 : Nat, r66 = Value.slice a66 l66 c66 ∧ HCalls Tryd.prog 22 #[Value.slice a7_0 n7_1 n7_2, Value.slice a66 l66 c66] h1 fun r67 h2 => ∃ b67 : Bool, r67 = Value.bool b67 ∧ br b67 (HCalls Tryd.prog 17 #[] h2 fun r70 h3 => ∃ b70 : Bool, r70 = Value.bool b70 ∧ R (Value.bool b70) h3) (R (Value.bool false) h2)) (R (Value.bool false) h)
def F4_b2 (I2 : Int → Heap → Prop) (M2 : Int → Heap → Nat) (m2 : Nat) (a0_0 : Option Addr) (n0_1 : Nat) (n0_2 : Nat) (a7_0 : Option Addr) (n7_1 : Nat) (n7_2 : Nat) (a8_0 : Option Addr) (n8_1 : Nat) (n8_2 : Nat) (b14 : Bool) (x51 : Int) (x52 : Int) (h : Heap) (R : Value → Heap → Prop) : Prop :=
  br (decide ((x52 : Int) < x51)) (F4_k3 I2 M2 m2 a0_0 n0_1 n0_2 a7_0 n7_1 n7_2 a8_0 n8_1 n8_2 b14 x51 x52 h R) (F4_k4 a0_0 n0_1 n0_2 a7_0 n7_1 n7_2 b14 h R)
def F4_k1 (a0_0 : Option Addr) (n0_1 : Nat) (n0_2 : Nat) (a7_0 : Option Addr) (n7_1 : Nat) (n7_2 : Nat) (a8_0 : Option Addr) (n8_1 : Nat) (n8_2 : Nat) (b14 : Bool) (h : Heap) (R : Value → Heap → Prop) : Prop :=
  ∃ (I2 : Int → Heap → Prop) (M2 : Int → Heap → Nat), I2 0 h ∧ ∀ h1 (x52 : Int), I2 x52 h1 → F4_b2 I2 M2 (M2 x52 h1) a0_0 n0_1 n0_2 a7_0 n7_1 n7_2 a8_0 n8_1 n8_2 b14 (n8_1 : Int) x52 h1 R
def F4 (a0 : Option Addr) (l0 : Nat) (c0 : Nat) (x1 : Int) (a2 : Option Addr) (l2 : Nat) (c2 : Nat) (h : Heap) (R : Value → Heap → Prop) : Prop :=
  HCalls Tryd.prog 18 #[Value.slice a0 l0 c0] h fun r17 h1 => ∃ a17 : Option Addr, ∃ l17 : Nat, ∃ c17 : Nat, r17 = Value.slice a17 l17 c17 ∧ HCalls Tryd.prog 10 #[Value.slice a2 l2 c2] h1 fun r22 h2 => ∃ a22 : Option Addr, ∃ l22 : Nat, ∃ c22 : Nat, r22 = Value.slice a22 l22 c22 ∧ HCalls Tryd.prog 19 #[Value.slice a17 l17 c17, Value.int .i64 x1, Value.slice a22 l22 c22] h2 fun r23 h3 => ∃ a23_0 : Option Addr, ∃ l23_0 : Nat, ∃ c23_0 : Nat, ∃ x23_1 : Int, ∃ x23_2 : Int, r23 = Value.tuple #[Value.slice a23_0 l23_0 c23_0, Value.int .i64 x23_1, Value.int .i64 x23_2] ∧ HCalls Tryd.prog 18 #[Value.slice a0 l0 c0] h3 fun r29 h4 => ∃ a29 : Option Addr, ∃ l29 : Nat, ∃ c29 : Nat, r29 = Value.slice a29 l29 c29 ∧ HCalls Tryd.prog 10 #[Value.slice a2 l2 c2] h4 fun r32 h5 => ∃ a32 : Option Addr, ∃ l32 : Nat, ∃ c32 : Nat, r32 = Value.slice a32 l32 c32 ∧ HCalls Tryd.prog 20 #[Value.slice a29 l29 c29, Value.int .i64 x1, Value.slice a32 l32 c32] h5 fun r33 h6 => ∃ a33_0 : Option Addr, ∃ l33_0 : Nat, ∃ c33_0 : Nat, ∃ x33_1 : Int, ∃ x33_2 : Int, r33 = Value.tuple #[Value.slice a33_0 l33_0 c33_0, Value.int .i64 x33_1, Value.int .i64 x33_2] ∧ HCalls Tryd.prog 21 #[Value.slice a23_0 l23_0 c23_0, Value.slice a33_0 l33_0 c33_0] h6 fun r39 h7 => ∃ b39 : Bool, r39 = Value.bool b39 ∧ br b39 (br ((x23_1 : Int) == x33_1) (F4_k1 a0 l0 c0 a17 l17 c17 a23_0 l23_0 c23_0 ((x23_2 : Int) == x33_2) h7 R) (F4_k1 a0 l0 c0 a17 l17 c17 a23_0 l23_0 c23_0 false h7 R)) (F4_k1 a0 l0 c0 a17 l17 c17 a23_0 l23_0 c23_0 false h7 R)
def A4 : Ann := { loops := [(6, [(52, .int .i64)])] }
theorem F4_ent (a0 : Option Addr) (l0 : Nat) (c0 : Nat) (x1 : Int) (a2 : Option Addr) (l2 : Nat) (c2 : Nat) (h : Heap) (R : Value → Heap → Prop) (H : F4 a0 l0 c0 x1 a2 l2 c2 h R) : HEnt Tryd.prog 4 #[Value.slice a0 l0 c0, Value.int .i64 x1, Value.slice a2 l2 c2] h R :=
  hent A4 mixed Tryd.func4 rfl (by kernel_rfl) (by kernel_rfl) (Eq.mp (by kernel_rfl) H)

end Go.Proofs.YtfknpbgneeefjaaDoor
