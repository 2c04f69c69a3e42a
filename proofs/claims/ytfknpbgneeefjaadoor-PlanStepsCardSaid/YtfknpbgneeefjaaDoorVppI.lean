import Derived.Test.YtfknpbgneeefjaaDoorProg
import Derived.Test.YtfknpbgneeefjaaDoorVppA
import Derived.Test.YtfknpbgneeefjaaDoorVxpC

set_option linter.unusedVariables false
set_option maxRecDepth 100000
namespace Go.Proofs.YtfknpbgneeefjaaDoor
open Go.Vc
/-! ### 18 veneer/veneerlaw18.stacksOf -/
def F18_k3 (I1 : Option Addr → Nat → Nat → Int → Heap → Prop) (M1 : Option Addr → Nat → Nat → Int → Heap → Nat) (m1 : Nat) (a0_0 : Option Addr) (n0_1 : Nat) (n0_2 : Nat) (a3_0 : Option Addr) (n3_1 : Nat) (n3_2 : Nat) (x4 : Int) (h : Heap) (R : Value → Heap → Prop) : Prop :=
  ∃ q18 : Addr, a0_0 = some q18 ∧ (0 : Int) ≤ x4 ∧ x4 < (n0_1 : Int) ∧ ∃ a19 : Option Addr, ∃ l19 : Nat, ∃ c19 : Nat, Vc.cell h (q18.add (x4.toNat * 1)) = some (Value.slice a19 l19 c19) ∧ HCalls Tryd.prog 9 #[Value.slice a19 l19 c19] h fun r20 h1 => ∃ a20 : Option Addr, ∃ l20 : Nat, ∃ c20 : Nat, r20 = Value.slice a20 l20 c20 ∧ 1 * 1 ≤ 16777216 ∧ newK h1 (.cells #[Value.slice a20 l20 c20] 22) fun b21 h2 => appK Tryd.prog 22 h2 a3_0 n3_1 n3_2 (Value.slice (some (at0 b21)) 1 1) fun a22 l22 c22 h3 => ∀ x4_1 : Int, x4_1 = IntKind.i64.wrap (x4 + 1) → I1 a22 l22 c22 x4_1 h3 ∧ M1 a22 l22 c22 x4_1 h3 < m1
def F18_k4 (a3_0 : Option Addr) (n3_1 : Nat) (n3_2 : Nat) (h : Heap) (R : Value → Heap → Prop) : Prop :=
  R (Value.slice a3_0 n3_1 n3_2) h
def F18_k2 (I1 : Option Addr → Nat → Nat → Int → Heap → Prop) (M1 : Option Addr → Nat → Nat → Int → Heap → Nat) (m1 : Nat) (a0_0 : Option Addr) (n0_1 : Nat) (n0_2 : Nat) (a3_0 : Option Addr) (n3_1 : Nat) (n3_2 : Nat) (x4 : Int) (b12 : Bool) (h : Heap) (R : Value → Heap → Prop) : Prop :=
  br b12 (F18_k3 I1 M1 m1 a0_0 n0_1 n0_2 a3_0 n3_1 n3_2 x4 h R) (F18_k4 a3_0 n3_1 n3_2 h R)
def F18_b1 (I1 : Option Addr → Nat → Nat → Int → Heap → Prop) (M1 : Option Addr → Nat → Nat → Int → Heap → Nat) (m1 : Nat) (a0_0 : Option Addr) (n0_1 : Nat) (n0_2 : Nat) (a2_0 : Option Addr) (n2_1 : Nat) (n2_2 : Nat) (a3_0 : Option Addr) (n3_1 : Nat) (n3_2 : Nat) (x4 : Int) (h : Heap) (R : Value → Heap → Prop) : Prop :=
  br (decide ((x4 : Int) < (n0_1 : Int))) (F18_k2 I1 M1 m1 a0_0 n0_1 n0_2 a3_0 n3_1 n3_2 x4 (decide ((x4 : Int) < 9)) h R) (F18_k2 I1 M1 m1 a0_0 n0_1 n0_2 a3_0 n3_1 n3_2 x4 false h R)
def F18 (a0 : Option Addr) (l0 : Nat) (c0 : Nat) (h : Heap) (R : Value → Heap → Prop) : Prop :=
  ∀ x4 : Int, x4 = 0 → ∃ (I1 : Option Addr → Nat → Nat → Int → Heap → Prop) (M1 : Option Addr → Nat → Nat → Int → Heap → Nat), I1 none 0 0 x4 h ∧ ∀ h1 (a3 : Option Addr) (l3 c3 : Nat) (x4_1 : Int), I1 a3 l3 c3 x4_1 h1 → F18_b1 I1 M1 (M1 a3 l3 c3 x4_1 h1) a0 l0 c0 none 0 0 a3 l3 c3 x4_1 h1 R
def A18 : Ann := { bind := [4], loops := [(3, [(3, .slice), (4, .int .i64)])] }
theorem F18_ent (a0 : Option Addr) (l0 : Nat) (c0 : Nat) (h : Heap) (R : Value → Heap → Prop) (H : F18 a0 l0 c0 h R) : HEnt Tryd.prog 18 #[Value.slice a0 l0 c0] h R :=
  hent A18 mixed Tryd.func18 rfl (by kernel_rfl) (by kernel_rfl) (Eq.mp (by kernel_rfl) H)

/-! ### 21 veneer/veneerref18.Same -/
def F21_k5 (I2 : Int → Heap → Prop) (M2 : Int → Heap → Nat) (m2 : Nat) (a0_0 : Option Addr) (n0_1 : Nat) (n0_2 : Nat) (a1_0 : Option Addr) (n1_1 : Nat) (n1_2 : Nat) (x5 : Int) (h : Heap) (R : Value → Heap → Prop) : Prop :=
  ∀ x5_1 : Int, x5_1 = IntKind.i64.wrap (x5 + 1) → I2 x5_1 h ∧ M2 x5_1 h < m2
def F21_k4 (I2 : Int → Heap → Prop) (M2 : Int → Heap → Nat) (m2 : Nat) (a0_0 : Option Addr) (n0_1 : Nat) (n0_2 : Nat) (a1_0 : Option Addr) (n1_1 : Nat) (n1_2 : Nat) (x5 : Int) (b41 : Bool) (h : Heap) (R : Value → Heap → Prop) : Prop :=
  br b41 (R (Value.bool false) h) (F21_k5 I2 M2 m2 a0_0 n0_1 n0_2 a1_0 n1_1 n1_2 x5 h R)
def F21_k3 (I2 : Int → Heap → Prop) (M2 : Int → Heap → Nat) (m2 : Nat) (a0_0 : Option Addr) (n0_1 : Nat) (n0_2 : Nat) (a1_0 : Option Addr) (n1_1 : Nat) (n1_2 : Nat) (x5 : Int) (h : Heap) (R : Value → Heap → Prop) : Prop :=
  ∃ Rl : Heap → Heap → Prop, (∀ h, Rl h h) ∧ (∀ a b c, Rl a b → Rl b c → Rl a c) ∧ ∃ q19 : Addr, a0_0 = some q19 ∧ (0 : Int) ≤ x5 ∧ x5 < (n0_1 : Int) ∧ ∃ x21 : Int, (∀ w : World, Rl h w.heap → (loadVar 3 ((q19.add (x5.toNat * 2)).add 0)).run Tryd.prog w = .ok (Value.int .i64 x21) w) ∧ ∃ q24 : Addr, a1_0 = some q24 ∧ (0 : Int) ≤ x5 ∧ x5 < (n1_1 : Int) ∧ ∃ x26 : Int, (∀ w : World, Rl h w.heap → (loadVar 3 ((q24.add (x5.toNat * 2)).add 0)).run Tryd.prog w = .ok (Value.int .i64 x26) w) ∧ br ((x21 : Int) != x26) (F21_k4 I2 M2 m2 a0_0 n0_1 n0_2 a1_0 n1_1 n1_2 x5 true h R) (∃ q31 : Addr, a0_0 = some q31 ∧ (0 : Int) ≤ x5 ∧ x5 < (n0_1 : Int) ∧ ∃ a33 : Option Addr, ∃ l33 : Nat, ∃ c33 : Nat, (∀ w : World, Rl h w.heap → (loadVar 22 ((q31.add (x5.toNat * 2)).add 1)).run Tryd.prog w = .ok (Value.slice a33 l33 c33) w) ∧ ∃ q36 : Addr, a1_0 = some q36 ∧ (0 : Int) ≤ x5 ∧ x5 < (n1_1 : Int) ∧ ∃ a38 : Option Addr, ∃ l38 : Nat, ∃ c38 : Nat, (∀ w : World, Rl h w.heap → (loadVar 22 ((q36.add (x5.toNat * 2)).add 1)).run Tryd.prog w = .ok (Value.slice a38 l38 c38) w) ∧ HCalls Tryd.prog 13 #[Value.slice a33 l33 c33, Value.slice a38 l38 c38] h fun r39 h1 => ∃ b39 : Bool, r39 = Value.bool b39 ∧ Rl h h1 ∧ F21_k4 I2 M2 m2 a0_0 n0_1 n0_2 a1_0 n1_1 n1_2 x5 (!b39) h1 R)
def F21_k6 (h : Heap) (R : Value → Heap → Prop) : Prop :=
  R (Value.bool true) h
def F21_b2 (I2 : Int → Heap → Prop) (M2 : Int → Heap → Nat) (m2 : Nat) (a0_0 : Option Addr) (n0_1 : Nat) (n0_2 : Nat) (a1_0 : Option Addr) (n1_1 : Nat) (n1_2 : Nat) (x5 : Int) (h : Heap) (R : Value → Heap → Prop) : Prop :=
  br (decide ((x5 : Int) < (n0_1 : Int))) (F21_k3 I2 M2 m2 a0_0 n0_1 n0_2 a1_0 n1_1 n1_2 x5 h R) (F21_k6 h R)
def F21_k1 (a0_0 : Option Addr) (n0_1 : Nat) (n0_2 : Nat) (a1_0 : Option Addr) (n1_1 : Nat) (n1_2 : Nat) (h : Heap) (R : Value → Heap → Prop) : Prop :=
  ∀ x5 : Int, x5 = 0 → ∃ (I2 : Int → Heap → Prop) (M2 : Int → Heap → Nat), I2 x5 h ∧ ∀ h1 (x5_1 : Int), I2 x5_1 h1 → F21_b2 I2 M2 (M2 x5_1 h1) a0_0 n0_1 n0_2 a1_0 n1_1 n1_2 x5_1 h1 R
def F21 (a0 : Option Addr) (l0 : Nat) (c0 : Nat) (a1 : Option Addr) (l1 : Nat) (c1 : Nat) (h : Heap) (R : Value → Heap → Prop) : Prop :=
  br (((l0 : Int) : Int) != (l1 : Int)) (R (Value.bool false) h) (F21_k1 a0 l0 c0 a1 l1 c1 h R)
def A21 : Ann := { bind := [5], loops := [(4, [(5, .int .i64)])], draws := [(6, 3, 0)], mixes := [(6, .quiet 0 (.quiet 1 (.quiet 2 (.quiet 3 (.quiet 4 (.quiet 5 (.quiet 6 (.quiet 7 (.quiet 8 (.quiet 9 (.quiet 10 (.quiet 11 (.quiet 12 (.quiet 13 (.quiet 14 (.quiet 15 (.quiet 16 (.quiet 17 (.quiet 18 (.quiet 19 (.quiet 20 (.quiet 21 (.one 22 (.quiet 23 (.quiet 24 (.done))))))))))))))))))))))))))] }
theorem F21_ent (a0 : Option Addr) (l0 : Nat) (c0 : Nat) (a1 : Option Addr) (l1 : Nat) (c1 : Nat) (h : Heap) (R : Value → Heap → Prop) (H : F21 a0 l0 c0 a1 l1 c1 h R) : HEnt Tryd.prog 21 #[Value.slice a0 l0 c0, Value.slice a1 l1 c1] h R :=
  hent A21 mixed Tryd.func21 rfl (by kernel_rfl) (by kernel_rfl) (Eq.mp (by kernel_rfl) H)

/-! ### 22 veneer/veneerref18.SameStacks -/
def F22_k4 (I2 : Int → Heap → Prop) (M2 : Int → Heap → Nat) (m2 : Nat) (a0_0 : Option Addr) (n0_1 : Nat) (n0_2 : Nat) (a1_0 : Option Addr) (n1_1 : Nat) (n1_2 : Nat) (x5 : Int) (h : Heap) (R : Value → Heap → Prop) : Prop :=
  ∀ x5_1 : Int, x5_1 = IntKind.i64.wrap (x5 + 1) → I2 x5_1 h ∧ M2 x5_1 h < m2
def F22_k3 (I2 : Int → Heap → Prop) (M2 : Int → Heap → Nat) (m2 : Nat) (a0_0 : Option Addr) (n0_1 : Nat) (n0_2 : Nat) (a1_0 : Option Addr) (n1_1 : Nat) (n1_2 : Nat) (x5 : Int) (h : Heap) (R : Value → Heap → Prop) : Prop :=
  ∃ Rl : Heap → Heap → Prop, (∀ h, Rl h h) ∧ (∀ a b c, Rl a b → Rl b c → Rl a c) ∧ ∃ q19 : Addr, a0_0 = some q19 ∧ (0 : Int) ≤ x5 ∧ x5 < (n0_1 : Int) ∧ ∃ a20 : Option Addr, ∃ l20 : Nat, ∃ c20 : Nat, (∀ w : World, Rl h w.heap → (loadVar 22 (q19.add (x5.toNat * 1))).run Tryd.prog w = .ok (Value.slice a20 l20 c20) w) ∧ ∃ q23 : Addr, a1_0 = some q23 ∧ (0 : Int) ≤ x5 ∧ x5 < (n1_1 : Int) ∧ ∃ a24 : Option Addr, ∃ l24 : Nat, ∃ c24 : Nat, (∀ w : World, Rl h w.heap → (loadVar 22 (q23.add (x5.toNat * 1))).run Tryd.prog w = .ok (Value.slice a24 l24 c24) w) ∧ HCalls Tryd.prog 13 #[Value.slice a20 l20 c20, Value.slice a24 l24 c24] h fun r25 h1 => ∃ b25 : Bool, r25 = Value.bool b25 ∧ Rl h h1 ∧ br (!b25) (R (Value.bool false) h1) (F22_k4 I2 M2 m2 a0_0 n0_1 n0_2 a1_0 n1_1 n1_2 x5 h1 R)
def F22_k5 (h : Heap) (R : Value → Heap → Prop) : Prop :=
  R (Value.bool true) h
def F22_b2 (I2 : Int → Heap → Prop) (M2 : Int → Heap → Nat) (m2 : Nat) (a0_0 : Option Addr) (n0_1 : Nat) (n0_2 : Nat) (a1_0 : Option Addr) (n1_1 : Nat) (n1_2 : Nat) (x5 : Int) (h : Heap) (R : Value → Heap → Prop) : Prop :=
  br (decide ((x5 : Int) < (n0_1 : Int))) (F22_k3 I2 M2 m2 a0_0 n0_1 n0_2 a1_0 n1_1 n1_2 x5 h R) (F22_k5 h R)
def F22_k1 (a0_0 : Option Addr) (n0_1 : Nat) (n0_2 : Nat) (a1_0 : Option Addr) (n1_1 : Nat) (n1_2 : Nat) (h : Heap) (R : Value → Heap → Prop) : Prop :=
  ∀ x5 : Int, x5 = 0 → ∃ (I2 : Int → Heap → Prop) (M2 : Int → Heap → Nat), I2 x5 h ∧ ∀ h1 (x5_1 : Int), I2 x5_1 h1 → F22_b2 I2 M2 (M2 x5_1 h1) a0_0 n0_1 n0_2 a1_0 n1_1 n1_2 x5_1 h1 R
def F22 (a0 : Option Addr) (l0 : Nat) (c0 : Nat) (a1 : Option Addr) (l1 : Nat) (c1 : Nat) (h : Heap) (R : Value → Heap → Prop) : Prop :=
  br (((l0 : Int) : Int) != (l1 : Int)) (R (Value.bool false) h) (F22_k1 a0 l0 c0 a1 l1 c1 h R)
def A22 : Ann := { bind := [5], loops := [(4, [(5, .int .i64)])], draws := [(6, 3, 0)], mixes := [(6, .quiet 0 (.quiet 1 (.quiet 2 (.quiet 3 (.quiet 4 (.quiet 5 (.quiet 6 (.quiet 7 (.one 8 (.quiet 9 (.done)))))))))))] }
theorem F22_ent (a0 : Option Addr) (l0 : Nat) (c0 : Nat) (a1 : Option Addr) (l1 : Nat) (c1 : Nat) (h : Heap) (R : Value → Heap → Prop) (H : F22 a0 l0 c0 a1 l1 c1 h R) : HEnt Tryd.prog 22 #[Value.slice a0 l0 c0, Value.slice a1 l1 c1] h R :=
  hent A22 mixed Tryd.func22 rfl (by kernel_rfl) (by kernel_rfl) (Eq.mp (by kernel_rfl) H)

/-! ### 24 veneer/plan.Put -/
def F24_k3 (I1 : Int → Heap → Prop) (M1 : Int → Heap → Nat) (m1 : Nat) (a0_0 : Option Addr) (n0_1 : Nat) (n0_2 : Nat) (a1_0 : Option Addr) (n1_1 : Nat) (n1_2 : Nat) (a5_0 : Option Addr) (n5_1 : Nat) (n5_2 : Nat) (x11 : Int) (x12 : Int) (h : Heap) (R : Value → Heap → Prop) : Prop :=
  I1 (IntKind.i64.wrap (x12 + 1)) h ∧ M1 (IntKind.i64.wrap (x12 + 1)) h < m1
def F24_k2 (I1 : Int → Heap → Prop) (M1 : Int → Heap → Nat) (m1 : Nat) (a0_0 : Option Addr) (n0_1 : Nat) (n0_2 : Nat) (a1_0 : Option Addr) (n1_1 : Nat) (n1_2 : Nat) (a5_0 : Option Addr) (n5_1 : Nat) (n5_2 : Nat) (x11 : Int) (x12 : Int) (h : Heap) (R : Value → Heap → Prop) : Prop :=
  br (decide ((x12 : Int) < (n0_1 : Int))) (∃ q23 : Addr, a0_0 = some q23 ∧ (0 : Int) ≤ x12 ∧ x12 < (n0_1 : Int) ∧ ∃ a24 : Option Addr, ∃ l24 : Nat, ∃ c24 : Nat, Vc.cell h (q23.add (x12.toNat * 1)) = some (Value.slice a24 l24 c24) ∧ HCalls Tryd.prog 30 #[Value.slice a24 l24 c24] h fun r25 h1 => ∃ a25 : Option Addr, ∃ l25 : Nat, ∃ c25 : Nat, r25 = Value.slice a25 l25 c25 ∧ ∃ q26 : Addr, a5_0 = some q26 ∧ (0 : Int) ≤ x12 ∧ x12 < (n5_1 : Int) ∧ storeK 1 h1 (q26.add (x12.toNat * 1)) (Value.slice a25 l25 c25) fun h2 => F24_k3 I1 M1 m1 a0_0 n0_1 n0_2 a1_0 n1_1 n1_2 a5_0 n5_1 n5_2 x11 x12 h2 R) (F24_k3 I1 M1 m1 a0_0 n0_1 n0_2 a1_0 n1_1 n1_2 a5_0 n5_1 n5_2 x11 x12 h R)
def F24_k8 (I5 : Int → Heap → Prop) (M5 : Int → Heap → Nat) (m5 : Nat) (a5_0 : Option Addr) (n5_1 : Nat) (n5_2 : Nat) (a28_0 : Option Addr) (n28_1 : Nat) (n28_2 : Nat) (x29 : Int) (x30 : Int) (h : Heap) (R : Value → Heap → Prop) : Prop :=
  I5 (IntKind.i64.wrap (x30 + 1)) h ∧ M5 (IntKind.i64.wrap (x30 + 1)) h < m5
def F24_k7 (I5 : Int → Heap → Prop) (M5 : Int → Heap → Nat) (m5 : Nat) (a5_0 : Option Addr) (n5_1 : Nat) (n5_2 : Nat) (q8 : Addr) (a28_0 : Option Addr) (n28_1 : Nat) (n28_2 : Nat) (x29 : Int) (x30 : Int) (b41 : Bool) (h : Heap) (R : Value → Heap → Prop) : Prop :=
  br b41 (∃ Rl : Heap → Heap → Prop, (∀ h, Rl h h) ∧ (∀ a b c, Rl a b → Rl b c → Rl a c) ∧ ∃ x44 : Int, (∀ w : World, Rl h w.heap → (loadVar 3 (q8.add 0)).run Tryd.prog w = .ok (Value.int .i64 x44) w) ∧ ∃ a47 : Option Addr, ∃ l47 : Nat, ∃ c47 : Nat, (∀ w : World, Rl h w.heap → (loadVar 22 (q8.add 1)).run Tryd.prog w = .ok (Value.slice a47 l47 c47) w) ∧ HCalls Tryd.prog 30 #[Value.slice a47 l47 c47] h fun r48 h1 => ∃ a48 : Option Addr, ∃ l48 : Nat, ∃ c48 : Nat, r48 = Value.slice a48 l48 c48 ∧ Rl h h1 ∧ ∃ q49 : Addr, a5_0 = some q49 ∧ (0 : Int) ≤ IntKind.i64.wrap (x44 - 1) ∧ IntKind.i64.wrap (x44 - 1) < (n5_1 : Int) ∧ storeK 1 h1 (q49.add (((IntKind.i64.wrap (x44 - 1)).toNat) * 1)) (Value.slice a48 l48 c48) fun h2 => Rl h1 h2 ∧ F24_k8 I5 M5 m5 a5_0 n5_1 n5_2 a28_0 n28_1 n28_2 x29 x30 h2 R) (F24_k8 I5 M5 m5 a5_0 n5_1 n5_2 a28_0 n28_1 n28_2 x29 x30 h R)
def F24_k6 (I5 : Int → Heap → Prop) (M5 : Int → Heap → Nat) (m5 : Nat) (a5_0 : Option Addr) (n5_1 : Nat) (n5_2 : Nat) (a28_0 : Option Addr) (n28_1 : Nat) (n28_2 : Nat) (x29 : Int) (x30 : Int) (h : Heap) (R : Value → Heap → Prop) : Prop :=
  ∃ q32 : Addr, a28_0 = some q32 ∧ (0 : Int) ≤ x30 ∧ x30 < (n28_1 : Int) ∧ ∃ x33_0 : Int, ∃ a33_1 : Option Addr, ∃ l33_1 : Nat, ∃ c33_1 : Nat, Vc.cell h ((q32.add (x30.toNat * 2)).add 0) = some (Value.int .i64 x33_0) ∧ Vc.cell h ((q32.add (x30.toNat * 2)).add 1) = some (Value.slice a33_1 l33_1 c33_1) ∧ 2 = 2 ∧ newK h (.cells (zeroC Tryd.prog 49) 49) fun b8 h1 => storeK 2 h1 (at0 b8) (Value.agg #[Value.int .i64 x33_0, Value.slice a33_1 l33_1 c33_1]) fun h2 => ∃ x35 : Int, Vc.cell h2 ((at0 b8).add 0) = some (Value.int .i64 x35) ∧ br (decide ((x35 : Int) ≥ 1)) (∃ x39 : Int, Vc.cell h2 ((at0 b8).add 0) = some (Value.int .i64 x39) ∧ F24_k7 I5 M5 m5 a5_0 n5_1 n5_2 (at0 b8) a28_0 n28_1 n28_2 x29 x30 (decide ((x39 : Int) ≤ 6)) h2 R) (F24_k7 I5 M5 m5 a5_0 n5_1 n5_2 (at0 b8) a28_0 n28_1 n28_2 x29 x30 false h2 R)
def F24_k9 (a5_0 : Option Addr) (n5_1 : Nat) (n5_2 : Nat) (h : Heap) (R : Value → Heap → Prop) : Prop :=
  R (Value.slice a5_0 n5_1 n5_2) h
def F24_b5 (I5 : Int → Heap → Prop) (M5 : Int → Heap → Nat) (m5 : Nat) (a5_0 : Option Addr) (n5_1 : Nat) (n5_2 : Nat) (a28_0 : Option Addr) (n28_1 : Nat) (n28_2 : Nat) (x29 : Int) (x30 : Int) (h : Heap) (R : Value → Heap → Prop) : Prop :=
  br (decide ((x30 : Int) < x29)) (F24_k6 I5 M5 m5 a5_0 n5_1 n5_2 a28_0 n28_1 n28_2 x29 x30 h R) (F24_k9 a5_0 n5_1 n5_2 h R)
def F24_k4 (a1_0 : Option Addr) (n1_1 : Nat) (n1_2 : Nat) (a5_0 : Option Addr) (n5_1 : Nat) (n5_2 : Nat) (h : Heap) (R : Value → Heap → Prop) : Prop :=
  ∃ (I5 : Int → Heap → Prop) (M5 : Int → Heap → Nat), I5 0 h ∧ ∀ h1 (x30 : Int), I5 x30 h1 → F24_b5 I5 M5 (M5 x30 h1) a5_0 n5_1 n5_2 a1_0 n1_1 n1_2 (n1_1 : Int) x30 h1 R
def F24_b1 (I1 : Int → Heap → Prop) (M1 : Int → Heap → Nat) (m1 : Nat) (a0_0 : Option Addr) (n0_1 : Nat) (n0_2 : Nat) (a1_0 : Option Addr) (n1_1 : Nat) (n1_2 : Nat) (a4_0 : Option Addr) (n4_1 : Nat) (n4_2 : Nat) (a5_0 : Option Addr) (n5_1 : Nat) (n5_2 : Nat) (x11 : Int) (x12 : Int) (h : Heap) (R : Value → Heap → Prop) : Prop :=
  br (decide ((x12 : Int) < x11)) (F24_k2 I1 M1 m1 a0_0 n0_1 n0_2 a1_0 n1_1 n1_2 a5_0 n5_1 n5_2 x11 x12 h R) (F24_k4 a1_0 n1_1 n1_2 a5_0 n5_1 n5_2 h R)
def F24 (a0 : Option Addr) (l0 : Nat) (c0 : Nat) (a1 : Option Addr) (l1 : Nat) (c1 : Nat) (h : Heap) (R : Value → Heap → Prop) : Prop :=
  (0 : Int) ≤ 6 ∧ (6 : Int) ≤ 6 ∧ (24 : Int) * 6 ≤ 281474976710656 ∧ (6 : Int) < 9223372036854775808 ∧ newK h (.cells (mkCells (zeroC Tryd.prog 22) (6 * 1)) 22) fun b9 h1 => ∃ (I1 : Int → Heap → Prop) (M1 : Int → Heap → Nat), I1 0 h1 ∧ ∀ h2 (x12 : Int), I1 x12 h2 → F24_b1 I1 M1 (M1 x12 h2) a0 l0 c0 a1 l1 c1 none 0 0 (some (at0 b9)) 6 6 6 x12 h2 R
def A24 : Ann := { loops := [(3, [(12, .int .i64)]), (9, [(30, .int .i64)])], draws := [(12, 3, 0)], mixes := [(12, .quiet 0 (.quiet 1 (.quiet 2 (.quiet 3 (.quiet 4 (.quiet 5 (.one 6 (.quiet 7 (.one 8 (.done))))))))))] }
theorem F24_ent (a0 : Option Addr) (l0 : Nat) (c0 : Nat) (a1 : Option Addr) (l1 : Nat) (c1 : Nat) (h : Heap) (R : Value → Heap → Prop) (H : F24 a0 l0 c0 a1 l1 c1 h R) : HEnt Tryd.prog 24 #[Value.slice a0 l0 c0, Value.slice a1 l1 c1] h R :=
  hent A24 mixed Tryd.func24 rfl (by kernel_rfl) (by kernel_rfl) (Eq.mp (by kernel_rfl) H)

end Go.Proofs.YtfknpbgneeefjaaDoor
