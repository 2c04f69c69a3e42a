import Derived.Test.YtnahhdkekchmfaaDoorProg
import Derived.Test.YtnahhdkekchmfaaDoorVlpA
import Derived.Test.YtnahhdkekchmfaaDoorVcQ

set_option linter.unusedVariables false
set_option maxRecDepth 100000
namespace Go.Proofs.YtnahhdkekchmfaaDoor
open Go.Vc
/-! ### 6 veneer/veneerlaw06.LayerOnly -/
def F6_k1 (a0_0 : Option Addr) (n0_1 : Nat) (n0_2 : Nat) (a3_0 : Option Addr) (n3_1 : Nat) (n3_2 : Nat) (h : Heap) (R : Value → Heap → Prop) : Prop :=
  HCalls Tryd.prog 21 #[Value.slice a3_0 n3_1 n3_2] h fun r28 h1 => ∃ a28_0 : Option Addr, ∃ l28_0 : Nat, ∃ c28_0 : Nat, ∃ x28_1 : Int, r28 = Value.tuple #[Value.slice a28_0 l28_0 c28_0, Value.int .i64 x28_1] ∧ HCalls Tryd.prog 10 #[Value.slice a3_0 n3_1 n3_2] h1 fun r33 h2 => ∃ x33_0 : Int, ∃ x33_1 : Int, r33 = Value.tuple #[Value.int .i64 x33_0, Value.int .i64 x33_1] ∧ br ((x28_1 : Int) == 0) (br ((x33_1 : Int) == 0) (∃ s44 : ByteArray, s44.size = l28_0 ∧ (∀ ad, a28_0 = some ad → CellsAt h2 ad (bytesV s44)) ∧ (a28_0 = none → l28_0 = 0) ∧ ∃ s46 : ByteArray, s46.size = n0_1 ∧ (∀ ad, a0_0 = some ad → CellsAt h2 ad (bytesV s46)) ∧ (a0_0 = none → n0_1 = 0) ∧ br (seq s44 s46) (HCalls Tryd.prog 11 #[] h2 fun r50 h3 => ∃ b50 : Bool, r50 = Value.bool b50 ∧ R (Value.bool b50) h3) (R (Value.bool false) h2)) (R (Value.bool false) h2)) (R (Value.bool false) h2)
def F6 (a0 : Option Addr) (l0 : Nat) (c0 : Nat) (h : Heap) (R : Value → Heap → Prop) : Prop :=
  HCalls Tryd.prog 20 #[Value.slice a0 l0 c0] h fun r11 h1 => ∃ a11_0 : Option Addr, ∃ l11_0 : Nat, ∃ c11_0 : Nat, ∃ x11_1 : Int, r11 = Value.tuple #[Value.slice a11_0 l11_0 c11_0, Value.int .i64 x11_1] ∧ br ((x11_1 : Int) != 0) (br ((x11_1 : Int) == 5) (br (((l11_0 : Int) : Int) == 0) (HCalls Tryd.prog 11 #[] h1 fun r24 h2 => ∃ b24 : Bool, r24 = Value.bool b24 ∧ R (Value.bool b24) h2) (R (Value.bool false) h1)) (R (Value.bool false) h1)) (F6_k1 a0 l0 c0 a11_0 l11_0 c11_0 h1 R)
def A6 : Ann := {  }
theorem F6_ent (a0 : Option Addr) (l0 : Nat) (c0 : Nat) (h : Heap) (R : Value → Heap → Prop) (H : F6 a0 l0 c0 h R) : HEnt Tryd.prog 6 #[Value.slice a0 l0 c0] h R :=
  hent A6 mixed Tryd.func6 rfl (by kernel_rfl) (by kernel_rfl) (Eq.mp (by kernel_rfl) H)

/-! ### 7 veneer/veneerlaw06.LayerCuts -/
def F7_k3 (x1 : Int) (x2 : Int) (a7_0 : Option Addr) (n7_1 : Nat) (n7_2 : Nat) (h : Heap) (R : Value → Heap → Prop) : Prop :=
  ((n7_1 : Int) : Int) ≠ 0 ∧ ((n7_1 : Int) : Int) ≠ 0 ∧ (0 : Int) ≤ 0 ∧ (0 : Int) ≤ (IntKind.i64.wrap ((x1.tmod (n7_1 : Int)) + (n7_1 : Int))).tmod (n7_1 : Int) ∧ (IntKind.i64.wrap ((x1.tmod (n7_1 : Int)) + (n7_1 : Int))).tmod (n7_1 : Int) ≤ (n7_2 : Int) ∧ HCalls Tryd.prog 20 #[Value.slice (cutAt n7_2 0 1 a7_0) ((((IntKind.i64.wrap ((x1.tmod (n7_1 : Int)) + (n7_1 : Int))).tmod (n7_1 : Int)).toNat) - 0) (n7_2 - 0)] h fun r50 h1 => ∃ a50_0 : Option Addr, ∃ l50_0 : Nat, ∃ c50_0 : Nat, ∃ x50_1 : Int, r50 = Value.tuple #[Value.slice a50_0 l50_0 c50_0, Value.int .i64 x50_1] ∧ 0 * 1 ≤ 16777216 ∧ newK h1 (.cells #[] 5) fun b54 h2 => appK Tryd.prog 5 h2 (some (at0 b54)) 0 0 (Value.slice a7_0 n7_1 n7_2) fun a56 l56 c56 h3 => 1 * 1 ≤ 16777216 ∧ newK h3 (.cells #[Value.int .u8 x2] 5) fun b58 h4 => appK Tryd.prog 5 h4 a56 l56 c56 (Value.slice (some (at0 b58)) 1 1) fun a59 l59 c59 h5 => HCalls Tryd.prog 20 #[Value.slice a59 l59 c59] h5 fun r60 h6 => ∃ a60_0 : Option Addr, ∃ l60_0 : Nat, ∃ c60_0 : Nat, ∃ x60_1 : Int, r60 = Value.tuple #[Value.slice a60_0 l60_0 c60_0, Value.int .i64 x60_1] ∧ br ((x50_1 : Int) == 5) (br ((x60_1 : Int) == 5) (HCalls Tryd.prog 11 #[] h6 fun r70 h7 => ∃ b70 : Bool, r70 = Value.bool b70 ∧ R (Value.bool b70) h7) (R (Value.bool false) h6)) (R (Value.bool false) h6)
def F7_k2 (x1 : Int) (x2 : Int) (a7_0 : Option Addr) (n7_1 : Nat) (n7_2 : Nat) (x8 : Int) (b30 : Bool) (h : Heap) (R : Value → Heap → Prop) : Prop :=
  br b30 (br ((x8 : Int) != 0) (HCalls Tryd.prog 11 #[] h fun r34 h1 => ∃ b34 : Bool, r34 = Value.bool b34 ∧ R (Value.bool b34) h1) (R (Value.bool false) h)) (F7_k3 x1 x2 a7_0 n7_1 n7_2 h R)
def F7_k1 (a0_0 : Option Addr) (n0_1 : Nat) (n0_2 : Nat) (x1 : Int) (x2 : Int) (h : Heap) (R : Value → Heap → Prop) : Prop :=
  HCalls Tryd.prog 21 #[Value.slice a0_0 n0_1 n0_2] h fun r21 h1 => ∃ a21_0 : Option Addr, ∃ l21_0 : Nat, ∃ c21_0 : Nat, ∃ x21_1 : Int, r21 = Value.tuple #[Value.slice a21_0 l21_0 c21_0, Value.int .i64 x21_1] ∧ br ((x21_1 : Int) != 0) (F7_k2 x1 x2 a21_0 l21_0 c21_0 x21_1 true h1 R) (F7_k2 x1 x2 a21_0 l21_0 c21_0 x21_1 (((l21_0 : Int) : Int) == 0) h1 R)
def F7 (a0 : Option Addr) (l0 : Nat) (c0 : Nat) (x1 : Int) (x2 : Int) (h : Heap) (R : Value → Heap → Prop) : Prop :=
  br (decide (((l0 : Int) : Int) > 200)) ((0 : Int) ≤ 0 ∧ (0 : Int) ≤ 200 ∧ 200 ≤ (c0 : Int) ∧ F7_k1 (cutAt c0 0 4 a0) (200 - 0) (c0 - 0) x1 x2 h R) (F7_k1 a0 l0 c0 x1 x2 h R)
def A7 : Ann := {  }
theorem F7_ent (a0 : Option Addr) (l0 : Nat) (c0 : Nat) (x1 : Int) (x2 : Int) (h : Heap) (R : Value → Heap → Prop) (H : F7 a0 l0 c0 x1 x2 h R) : HEnt Tryd.prog 7 #[Value.slice a0 l0 c0, Value.int .i64 x1, Value.int .u8 x2] h R :=
  hent A7 mixed Tryd.func7 rfl (by kernel_rfl) (by kernel_rfl) (Eq.mp (by kernel_rfl) H)

/-! ### 9 veneer/veneerlaw06.LayerBack -/
def F9_k4 (a0_0 : Option Addr) (n0_1 : Nat) (n0_2 : Nat) (a5_0 : Option Addr) (n5_1 : Nat) (n5_2 : Nat) (h : Heap) (R : Value → Heap → Prop) : Prop :=
  HCalls Tryd.prog 20 #[Value.slice a5_0 n5_1 n5_2] h fun r54 h1 => ∃ a54_0 : Option Addr, ∃ l54_0 : Nat, ∃ c54_0 : Nat, ∃ x54_1 : Int, r54 = Value.tuple #[Value.slice a54_0 l54_0 c54_0, Value.int .i64 x54_1] ∧ br ((x54_1 : Int) == 0) (HCalls Tryd.prog 19 #[Value.slice a54_0 l54_0 c54_0, Value.slice a0_0 n0_1 n0_2] h1 fun r62 h2 => ∃ b62 : Bool, r62 = Value.bool b62 ∧ br b62 (HCalls Tryd.prog 11 #[] h2 fun r65 h3 => ∃ b65 : Bool, r65 = Value.bool b65 ∧ R (Value.bool b65) h3) (R (Value.bool false) h2)) (R (Value.bool false) h1)
def F9_k3 (a0_0 : Option Addr) (n0_1 : Nat) (n0_2 : Nat) (x4 : Int) (a5_0 : Option Addr) (n5_1 : Nat) (n5_2 : Nat) (q7 : Addr) (h : Heap) (R : Value → Heap → Prop) : Prop :=
  br ((x4 : Int) != 0) (br (((n5_1 : Int) : Int) == 0) (∃ cs45 : Array Value, cs45.size = 32 ∧ CellsAt h q7 cs45.toList ∧ ∃ e47 : Bool, (∀ w : World, (Op.equal 52 (Value.agg cs45) (Value.agg (zeroC Tryd.prog 52))).run Tryd.prog w = .ok e47 w) ∧ Tryd.prog.eqGuardType Tryd.prog.depth 52 = false ∧ br e47 (HCalls Tryd.prog 11 #[] h fun r50 h1 => ∃ b50 : Bool, r50 = Value.bool b50 ∧ R (Value.bool b50) h1) (R (Value.bool false) h)) (R (Value.bool false) h)) (F9_k4 a0_0 n0_1 n0_2 a5_0 n5_1 n5_2 h R)
def F9_k2 (a0_0 : Option Addr) (n0_1 : Nat) (n0_2 : Nat) (x4 : Int) (a5_0 : Option Addr) (n5_1 : Nat) (n5_2 : Nat) (q7 : Addr) (b38 : Bool) (h : Heap) (R : Value → Heap → Prop) : Prop :=
  br b38 (R (Value.bool false) h) (F9_k3 a0_0 n0_1 n0_2 x4 a5_0 n5_1 n5_2 q7 h R)
def F9_k1 (a0_0 : Option Addr) (n0_1 : Nat) (n0_2 : Nat) (h : Heap) (R : Value → Heap → Prop) : Prop :=
  HCalls Tryd.prog 10 #[Value.slice a0_0 n0_1 n0_2] h fun r18 h1 => ∃ x18_0 : Int, ∃ x18_1 : Int, r18 = Value.tuple #[Value.int .i64 x18_0, Value.int .i64 x18_1] ∧ HCalls Tryd.prog 21 #[Value.slice a0_0 n0_1 n0_2] h1 fun r23 h2 => ∃ a23_0 : Option Addr, ∃ l23_0 : Nat, ∃ c23_0 : Nat, ∃ x23_1 : Int, r23 = Value.tuple #[Value.slice a23_0 l23_0 c23_0, Value.int .i64 x23_1] ∧ HCalls Tryd.prog 24 #[Value.slice a0_0 n0_1 n0_2] h2 fun r28 h3 => ∃ cs28_0 : Array Value, cs28_0.size = 32 ∧ ∃ x28_1 : Int, r28 = Value.tuple #[Value.agg cs28_0, Value.int .i64 x28_1] ∧ newK h3 (.cells (zeroC Tryd.prog 52) 52) fun b7 h4 => storeK 32 h4 (at0 b7) (Value.agg cs28_0) fun h5 => br ((x23_1 : Int) != x18_1) (F9_k2 a0_0 n0_1 n0_2 x18_1 a23_0 l23_0 c23_0 (at0 b7) true h5 R) (F9_k2 a0_0 n0_1 n0_2 x18_1 a23_0 l23_0 c23_0 (at0 b7) ((x28_1 : Int) != x18_1) h5 R)
def F9 (a0 : Option Addr) (l0 : Nat) (c0 : Nat) (h : Heap) (R : Value → Heap → Prop) : Prop :=
  br (decide (((l0 : Int) : Int) > 200)) ((0 : Int) ≤ 0 ∧ (0 : Int) ≤ 200 ∧ 200 ≤ (c0 : Int) ∧ F9_k1 (cutAt c0 0 4 a0) (200 - 0) (c0 - 0) h R) (F9_k1 a0 l0 c0 h R)
def A9 : Ann := {  }
theorem F9_ent (a0 : Option Addr) (l0 : Nat) (c0 : Nat) (h : Heap) (R : Value → Heap → Prop) (H : F9 a0 l0 c0 h R) : HEnt Tryd.prog 9 #[Value.slice a0 l0 c0] h R :=
  hent A9 mixed Tryd.func9 rfl (by kernel_rfl) (by kernel_rfl) (Eq.mp (by kernel_rfl) H)

end Go.Proofs.YtnahhdkekchmfaaDoor
