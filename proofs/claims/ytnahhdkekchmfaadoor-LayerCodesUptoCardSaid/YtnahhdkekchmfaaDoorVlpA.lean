import Derived.Test.YtnahhdkekchmfaaDoorProg
import Derived.Test.YtnahhdkekchmfaaDoorVcK

set_option linter.unusedVariables false
set_option maxRecDepth 100000
namespace Go.Proofs.YtnahhdkekchmfaaDoor
open Go.Vc
theorem mixed : Tryd.prog.follows .mixedOrders = true := by kernel_rfl
/-! ### 12 veneer/trail.Clean -/
def F12_k4 (I1 : Option Addr → Nat → Nat → Int → Heap → Prop) (M1 : Option Addr → Nat → Nat → Int → Heap → Nat) (m1 : Nat) (a4_0 : Option Addr) (n4_1 : Nat) (n4_2 : Nat) (a8_0 : Option Addr) (n8_1 : Nat) (n8_2 : Nat) (x9 : Int) (x10 : Int) (h : Heap) (R : Value → Heap → Prop) : Prop :=
  I1 a4_0 n4_1 n4_2 (IntKind.i64.wrap (x10 + 1)) h ∧ M1 a4_0 n4_1 n4_2 (IntKind.i64.wrap (x10 + 1)) h < m1
def F12_k5 (I1 : Option Addr → Nat → Nat → Int → Heap → Prop) (M1 : Option Addr → Nat → Nat → Int → Heap → Nat) (m1 : Nat) (a4_0 : Option Addr) (n4_1 : Nat) (n4_2 : Nat) (a8_0 : Option Addr) (n8_1 : Nat) (n8_2 : Nat) (x9 : Int) (x10 : Int) (h : Heap) (R : Value → Heap → Prop) : Prop :=
  (0 : Int) ≤ 0 ∧ (0 : Int) ≤ IntKind.i64.wrap ((n4_1 : Int) - 1) ∧ IntKind.i64.wrap ((n4_1 : Int) - 1) ≤ (n4_2 : Int) ∧ F12_k4 I1 M1 m1 (cutAt n4_2 0 1 a4_0) (((IntKind.i64.wrap ((n4_1 : Int) - 1)).toNat) - 0) (n4_2 - 0) a8_0 n8_1 n8_2 x9 x10 h R
def F12_k3 (I1 : Option Addr → Nat → Nat → Int → Heap → Prop) (M1 : Option Addr → Nat → Nat → Int → Heap → Nat) (m1 : Nat) (a4_0 : Option Addr) (n4_1 : Nat) (n4_2 : Nat) (s6 : ByteArray) (a8_0 : Option Addr) (n8_1 : Nat) (n8_2 : Nat) (x9 : Int) (x10 : Int) (b14 : Bool) (h : Heap) (R : Value → Heap → Prop) : Prop :=
  br b14 (F12_k4 I1 M1 m1 a4_0 n4_1 n4_2 a8_0 n8_1 n8_2 x9 x10 h R) (br (seq s6 (⟨#[46, 46]⟩ : ByteArray)) (br (((n4_1 : Int) : Int) == 0) (R (Value.tuple #[Value.string (⟨#[]⟩ : ByteArray), Value.int .i64 12]) h) (F12_k5 I1 M1 m1 a4_0 n4_1 n4_2 a8_0 n8_1 n8_2 x9 x10 h R)) (HCalls Tryd.prog 28 #[Value.string s6] h fun r34 h1 => ∃ b34 : Bool, r34 = Value.bool b34 ∧ br b34 (1 * 1 ≤ 16777216 ∧ newK h1 (.cells #[Value.string s6] 9) fun b37 h2 => appK Tryd.prog 9 h2 a4_0 n4_1 n4_2 (Value.slice (some (at0 b37)) 1 1) fun a38 l38 c38 h3 => F12_k4 I1 M1 m1 a38 l38 c38 a8_0 n8_1 n8_2 x9 x10 h3 R) (R (Value.tuple #[Value.string (⟨#[]⟩ : ByteArray), Value.int .i64 12]) h1)))
def F12_k2 (I1 : Option Addr → Nat → Nat → Int → Heap → Prop) (M1 : Option Addr → Nat → Nat → Int → Heap → Nat) (m1 : Nat) (a4_0 : Option Addr) (n4_1 : Nat) (n4_2 : Nat) (a8_0 : Option Addr) (n8_1 : Nat) (n8_2 : Nat) (x9 : Int) (x10 : Int) (h : Heap) (R : Value → Heap → Prop) : Prop :=
  ∃ q12 : Addr, a8_0 = some q12 ∧ (0 : Int) ≤ x10 ∧ x10 < (n8_1 : Int) ∧ ∃ s13 : ByteArray, Vc.cell h (q12.add (x10.toNat * 1)) = some (Value.string s13) ∧ br (seq s13 (⟨#[]⟩ : ByteArray)) (F12_k3 I1 M1 m1 a4_0 n4_1 n4_2 s13 a8_0 n8_1 n8_2 x9 x10 true h R) (F12_k3 I1 M1 m1 a4_0 n4_1 n4_2 s13 a8_0 n8_1 n8_2 x9 x10 (seq s13 (⟨#[46]⟩ : ByteArray)) h R)
def F12_k7 (a4_0 : Option Addr) (n4_1 : Nat) (n4_2 : Nat) (h : Heap) (R : Value → Heap → Prop) : Prop :=
  HCalls Tryd.prog 29 #[Value.slice a4_0 n4_1 n4_2, Value.string (⟨#[47]⟩ : ByteArray)] h fun r44 h1 => ∃ s44 : ByteArray, r44 = Value.string s44 ∧ R (Value.tuple #[Value.string s44, Value.int .i64 0]) h1
def F12_k6 (a4_0 : Option Addr) (n4_1 : Nat) (n4_2 : Nat) (h : Heap) (R : Value → Heap → Prop) : Prop :=
  br (decide (((n4_1 : Int) : Int) > 8)) (R (Value.tuple #[Value.string (⟨#[]⟩ : ByteArray), Value.int .i64 3]) h) (F12_k7 a4_0 n4_1 n4_2 h R)
def F12_b1 (I1 : Option Addr → Nat → Nat → Int → Heap → Prop) (M1 : Option Addr → Nat → Nat → Int → Heap → Nat) (m1 : Nat) (s0 : ByteArray) (a4_0 : Option Addr) (n4_1 : Nat) (n4_2 : Nat) (a8_0 : Option Addr) (n8_1 : Nat) (n8_2 : Nat) (x9 : Int) (x10 : Int) (h : Heap) (R : Value → Heap → Prop) : Prop :=
  br (decide ((x10 : Int) < x9)) (F12_k2 I1 M1 m1 a4_0 n4_1 n4_2 a8_0 n8_1 n8_2 x9 x10 h R) (F12_k6 a4_0 n4_1 n4_2 h R)
def F12 (s0 : ByteArray) (h : Heap) (R : Value → Heap → Prop) : Prop :=
  HCalls Tryd.prog 27 #[Value.string s0, Value.string (⟨#[47]⟩ : ByteArray)] h fun r8 h1 => ∃ a8 : Option Addr, ∃ l8 : Nat, ∃ c8 : Nat, r8 = Value.slice a8 l8 c8 ∧ ∃ (I1 : Option Addr → Nat → Nat → Int → Heap → Prop) (M1 : Option Addr → Nat → Nat → Int → Heap → Nat), I1 none 0 0 0 h1 ∧ ∀ h2 (a4 : Option Addr) (l4 c4 : Nat) (x10 : Int), I1 a4 l4 c4 x10 h2 → F12_b1 I1 M1 (M1 a4 l4 c4 x10 h2) s0 a4 l4 c4 a8 l8 c8 (l8 : Int) x10 h2 R
def A12 : Ann := { loops := [(3, [(4, .slice), (10, .int .i64)])] }
theorem F12_ent (s0 : ByteArray) (h : Heap) (R : Value → Heap → Prop) (H : F12 s0 h R) : HEnt Tryd.prog 12 #[Value.string s0] h R :=
  hent A12 mixed Tryd.func12 rfl (by kernel_rfl) (by kernel_rfl) (Eq.mp (by kernel_rfl) H)

/-! ### 13 veneer/trail.Less -/
def F13_k5 (I3 : Int → Heap → Prop) (M3 : Int → Heap → Nat) (m3 : Nat) (s0 : ByteArray) (s1 : ByteArray) (x26 : Int) (x27 : Int) (h : Heap) (R : Value → Heap → Prop) : Prop :=
  I3 (IntKind.i64.wrap (x27 + 1)) h ∧ M3 (IntKind.i64.wrap (x27 + 1)) h < m3
def F13_k8 (I3 : Int → Heap → Prop) (M3 : Int → Heap → Nat) (m3 : Nat) (x7 : Int) (x8 : Int) (h : Heap) (R : Value → Heap → Prop) : Prop :=
  R (Value.bool (decide ((x7 : Int) < x8))) h
def F13_k7 (I3 : Int → Heap → Prop) (M3 : Int → Heap → Nat) (m3 : Nat) (x7 : Int) (x8 : Int) (b44 : Bool) (h : Heap) (R : Value → Heap → Prop) : Prop :=
  br b44 (R (Value.bool ((x7 : Int) == 47)) h) (F13_k8 I3 M3 m3 x7 x8 h R)
def F13_k6 (I3 : Int → Heap → Prop) (M3 : Int → Heap → Nat) (m3 : Nat) (x7 : Int) (x8 : Int) (h : Heap) (R : Value → Heap → Prop) : Prop :=
  br ((x7 : Int) == 47) (F13_k7 I3 M3 m3 x7 x8 true h R) (F13_k7 I3 M3 m3 x7 x8 ((x8 : Int) == 47) h R)
def F13_k4 (I3 : Int → Heap → Prop) (M3 : Int → Heap → Nat) (m3 : Nat) (s0 : ByteArray) (s1 : ByteArray) (x26 : Int) (x27 : Int) (h : Heap) (R : Value → Heap → Prop) : Prop :=
  (0 : Int) ≤ x27 ∧ x27 < (s0.size : Int) ∧ (0 : Int) ≤ x27 ∧ x27 < (s1.size : Int) ∧ ∀ h1, Cls false h h1 → br ((bt s0 x27 : Int) == (bt s1 x27)) (F13_k5 I3 M3 m3 s0 s1 x26 x27 h1 R) (F13_k6 I3 M3 m3 (bt s0 x27) (bt s1 x27) h1 R)
def F13_k9 (s0 : ByteArray) (s1 : ByteArray) (h : Heap) (R : Value → Heap → Prop) : Prop :=
  R (Value.bool (decide (((s0.size : Int) : Int) < (s1.size : Int)))) h
def F13_b3 (I3 : Int → Heap → Prop) (M3 : Int → Heap → Nat) (m3 : Nat) (s0 : ByteArray) (s1 : ByteArray) (x26 : Int) (x27 : Int) (h : Heap) (R : Value → Heap → Prop) : Prop :=
  br (decide ((x27 : Int) < x26)) (F13_k4 I3 M3 m3 s0 s1 x26 x27 h R) (F13_k9 s0 s1 h R)
def F13_k2 (s0 : ByteArray) (s1 : ByteArray) (h : Heap) (R : Value → Heap → Prop) : Prop :=
  ∃ (I3 : Int → Heap → Prop) (M3 : Int → Heap → Nat), I3 0 h ∧ ∀ h1 (x27 : Int), I3 x27 h1 → F13_b3 I3 M3 (M3 x27 h1) s0 s1 (minI (s0.size : Int) (s1.size : Int)) x27 h1 R
def F13_k1 (s0 : ByteArray) (s1 : ByteArray) (b14 : Bool) (h : Heap) (R : Value → Heap → Prop) : Prop :=
  br b14 (br (seq s0 (⟨#[]⟩ : ByteArray)) (R (Value.bool (!(seq s1 (⟨#[]⟩ : ByteArray)))) h) (R (Value.bool false) h)) (F13_k2 s0 s1 h R)
def F13 (s0 : ByteArray) (s1 : ByteArray) (h : Heap) (R : Value → Heap → Prop) : Prop :=
  br (seq s0 (⟨#[]⟩ : ByteArray)) (F13_k1 s0 s1 true h R) (F13_k1 s0 s1 (seq s1 (⟨#[]⟩ : ByteArray)) h R)
def A13 : Ann := { loops := [(5, [(27, .int .i64)])], draws := [(7, 0, 8)] }
theorem F13_ent (s0 : ByteArray) (s1 : ByteArray) (h : Heap) (R : Value → Heap → Prop) (H : F13 s0 s1 h R) : HEnt Tryd.prog 13 #[Value.string s0, Value.string s1] h R :=
  hent A13 mixed Tryd.func13 rfl (by kernel_rfl) (by kernel_rfl) (Eq.mp (by kernel_rfl) H)

/-! ### 14 veneer/trail.In -/
def F14 (s0 : ByteArray) (s1 : ByteArray) (h : Heap) (R : Value → Heap → Prop) : Prop :=
  br (seq s0 (⟨#[]⟩ : ByteArray)) (R (Value.bool true) h) (br (seq s1 s0) (R (Value.bool true) h) (br (decide (((s1.size : Int) : Int) > (s0.size : Int))) ((0 : Int) ≤ 0 ∧ (0 : Int) ≤ (s0.size : Int) ∧ (s0.size : Int) ≤ (s1.size : Int) ∧ br (seq (s1.extract 0 (s0.size : Int).toNat) s0) ((0 : Int) ≤ (s0.size : Int) ∧ (s0.size : Int) < (s1.size : Int) ∧ R (Value.bool ((bt s1 (s0.size : Int) : Int) == 47)) h) (R (Value.bool false) h)) (R (Value.bool false) h)))
def A14 : Ann := {  }
theorem F14_ent (s0 : ByteArray) (s1 : ByteArray) (h : Heap) (R : Value → Heap → Prop) (H : F14 s0 s1 h R) : HEnt Tryd.prog 14 #[Value.string s0, Value.string s1] h R :=
  hent A14 mixed Tryd.func14 rfl (by kernel_rfl) (by kernel_rfl) (Eq.mp (by kernel_rfl) H)

/-! ### 28 veneer/trail.part -/
def F28_k6 (I3 : Int → Heap → Prop) (M3 : Int → Heap → Nat) (m3 : Nat) (s0 : ByteArray) (x21 : Int) (x22 : Int) (h : Heap) (R : Value → Heap → Prop) : Prop :=
  I3 (IntKind.i64.wrap (x22 + 1)) h ∧ M3 (IntKind.i64.wrap (x22 + 1)) h < m3
def F28_k5 (I3 : Int → Heap → Prop) (M3 : Int → Heap → Nat) (m3 : Nat) (s0 : ByteArray) (x21 : Int) (x22 : Int) (b54 : Bool) (h : Heap) (R : Value → Heap → Prop) : Prop :=
  br b54 (R (Value.bool false) h) (F28_k6 I3 M3 m3 s0 x21 x22 h R)
def F28_k4 (I3 : Int → Heap → Prop) (M3 : Int → Heap → Nat) (m3 : Nat) (s0 : ByteArray) (x21 : Int) (x22 : Int) (h : Heap) (R : Value → Heap → Prop) : Prop :=
  (0 : Int) ≤ x22 ∧ x22 < (s0.size : Int) ∧ br (decide ((bt s0 x22 : Int) ≥ 97)) (br (decide ((bt s0 x22 : Int) ≤ 122)) (F28_k5 I3 M3 m3 s0 x21 x22 false h R) (br (decide ((bt s0 x22 : Int) ≥ 48)) (br (decide ((bt s0 x22 : Int) ≤ 57)) (F28_k5 I3 M3 m3 s0 x21 x22 false h R) (br ((bt s0 x22 : Int) == 95) (F28_k5 I3 M3 m3 s0 x21 x22 false h R) (br ((bt s0 x22 : Int) == 45) (F28_k5 I3 M3 m3 s0 x21 x22 false h R) (F28_k5 I3 M3 m3 s0 x21 x22 (!((bt s0 x22 : Int) == 46)) h R)))) (br ((bt s0 x22 : Int) == 95) (F28_k5 I3 M3 m3 s0 x21 x22 false h R) (br ((bt s0 x22 : Int) == 45) (F28_k5 I3 M3 m3 s0 x21 x22 false h R) (F28_k5 I3 M3 m3 s0 x21 x22 (!((bt s0 x22 : Int) == 46)) h R))))) (br (decide ((bt s0 x22 : Int) ≥ 48)) (br (decide ((bt s0 x22 : Int) ≤ 57)) (F28_k5 I3 M3 m3 s0 x21 x22 false h R) (br ((bt s0 x22 : Int) == 95) (F28_k5 I3 M3 m3 s0 x21 x22 false h R) (br ((bt s0 x22 : Int) == 45) (F28_k5 I3 M3 m3 s0 x21 x22 false h R) (F28_k5 I3 M3 m3 s0 x21 x22 (!((bt s0 x22 : Int) == 46)) h R)))) (br ((bt s0 x22 : Int) == 95) (F28_k5 I3 M3 m3 s0 x21 x22 false h R) (br ((bt s0 x22 : Int) == 45) (F28_k5 I3 M3 m3 s0 x21 x22 false h R) (F28_k5 I3 M3 m3 s0 x21 x22 (!((bt s0 x22 : Int) == 46)) h R))))
def F28_k7 (h : Heap) (R : Value → Heap → Prop) : Prop :=
  R (Value.bool true) h
def F28_b3 (I3 : Int → Heap → Prop) (M3 : Int → Heap → Nat) (m3 : Nat) (s0 : ByteArray) (x21 : Int) (x22 : Int) (h : Heap) (R : Value → Heap → Prop) : Prop :=
  br (decide ((x22 : Int) < x21)) (F28_k4 I3 M3 m3 s0 x21 x22 h R) (F28_k7 h R)
def F28_k2 (s0 : ByteArray) (h : Heap) (R : Value → Heap → Prop) : Prop :=
  ∃ (I3 : Int → Heap → Prop) (M3 : Int → Heap → Nat), I3 0 h ∧ ∀ h1 (x22 : Int), I3 x22 h1 → F28_b3 I3 M3 (M3 x22 h1) s0 (s0.size : Int) x22 h1 R
def F28_k1 (s0 : ByteArray) (b19 : Bool) (h : Heap) (R : Value → Heap → Prop) : Prop :=
  br b19 (R (Value.bool false) h) (F28_k2 s0 h R)
def F28 (s0 : ByteArray) (h : Heap) (R : Value → Heap → Prop) : Prop :=
  br (seq s0 (⟨#[]⟩ : ByteArray)) (F28_k1 s0 true h R) (br (decide (((s0.size : Int) : Int) > 24)) (F28_k1 s0 true h R) (br (seq s0 (⟨#[46]⟩ : ByteArray)) (F28_k1 s0 true h R) (F28_k1 s0 (seq s0 (⟨#[46, 46]⟩ : ByteArray)) h R)))
def A28 : Ann := { loops := [(4, [(22, .int .i64)])] }
theorem F28_ent (s0 : ByteArray) (h : Heap) (R : Value → Heap → Prop) (H : F28 s0 h R) : HEnt Tryd.prog 28 #[Value.string s0] h R :=
  hent A28 mixed Tryd.func28 rfl (by kernel_rfl) (by kernel_rfl) (Eq.mp (by kernel_rfl) H)

/-! ### 47 veneer/veneerref05.Is -/
def F47_k4 (I2 : Int → Heap → Prop) (M2 : Int → Heap → Nat) (m2 : Nat) (a3_0 : Option Addr) (n3_1 : Nat) (n3_2 : Nat) (x4 : Int) (h : Heap) (R : Value → Heap → Prop) : Prop :=
  ∀ x4_1 : Int, x4_1 = IntKind.i64.wrap (x4 + 1) → I2 x4_1 h ∧ M2 x4_1 h < m2
def F47_k3 (I2 : Int → Heap → Prop) (M2 : Int → Heap → Nat) (m2 : Nat) (a3_0 : Option Addr) (n3_1 : Nat) (n3_2 : Nat) (x4 : Int) (h : Heap) (R : Value → Heap → Prop) : Prop :=
  ∃ q17 : Addr, a3_0 = some q17 ∧ (0 : Int) ≤ x4 ∧ x4 < (n3_1 : Int) ∧ ∃ s18 : ByteArray, Vc.cell h (q17.add (x4.toNat * 1)) = some (Value.string s18) ∧ HCalls Tryd.prog 62 #[Value.string s18] h fun r19 h1 => ∃ b19 : Bool, r19 = Value.bool b19 ∧ br (!b19) (R (Value.bool false) h1) (F47_k4 I2 M2 m2 a3_0 n3_1 n3_2 x4 h1 R)
def F47_k5 (a3_0 : Option Addr) (n3_1 : Nat) (n3_2 : Nat) (h : Heap) (R : Value → Heap → Prop) : Prop :=
  R (Value.bool (decide (((n3_1 : Int) : Int) ≤ 8))) h
def F47_b2 (I2 : Int → Heap → Prop) (M2 : Int → Heap → Nat) (m2 : Nat) (a3_0 : Option Addr) (n3_1 : Nat) (n3_2 : Nat) (x4 : Int) (h : Heap) (R : Value → Heap → Prop) : Prop :=
  br (decide ((x4 : Int) < (n3_1 : Int))) (F47_k3 I2 M2 m2 a3_0 n3_1 n3_2 x4 h R) (F47_k5 a3_0 n3_1 n3_2 h R)
def F47_k1 (s0 : ByteArray) (h : Heap) (R : Value → Heap → Prop) : Prop :=
  HCalls Tryd.prog 61 #[Value.string s0] h fun r8 h1 => ∃ a8 : Option Addr, ∃ l8 : Nat, ∃ c8 : Nat, r8 = Value.slice a8 l8 c8 ∧ ∀ x4 : Int, x4 = 0 → ∃ (I2 : Int → Heap → Prop) (M2 : Int → Heap → Nat), I2 x4 h1 ∧ ∀ h2 (x4_1 : Int), I2 x4_1 h2 → F47_b2 I2 M2 (M2 x4_1 h2) a8 l8 c8 x4_1 h2 R
def F47 (s0 : ByteArray) (h : Heap) (R : Value → Heap → Prop) : Prop :=
  br (seq s0 (⟨#[]⟩ : ByteArray)) (R (Value.bool true) h) (F47_k1 s0 h R)
def A47 : Ann := { bind := [4], loops := [(5, [(4, .int .i64)])] }
theorem F47_ent (s0 : ByteArray) (h : Heap) (R : Value → Heap → Prop) (H : F47 s0 h R) : HEnt Tryd.prog 47 #[Value.string s0] h R :=
  hent A47 mixed Tryd.func47 rfl (by kernel_rfl) (by kernel_rfl) (Eq.mp (by kernel_rfl) H)

/-! ### 48 veneer/veneerref05.Less -/
def F48_k4 (I1 : Int → Heap → Prop) (M1 : Int → Heap → Nat) (m1 : Nat) (a5_0 : Option Addr) (n5_1 : Nat) (n5_2 : Nat) (a6_0 : Option Addr) (n6_1 : Nat) (n6_2 : Nat) (x7 : Int) (h : Heap) (R : Value → Heap → Prop) : Prop :=
  ∀ x7_1 : Int, x7_1 = IntKind.i64.wrap (x7 + 1) → I1 x7_1 h ∧ M1 x7_1 h < m1
def F48_k3 (I1 : Int → Heap → Prop) (M1 : Int → Heap → Nat) (m1 : Nat) (a5_0 : Option Addr) (n5_1 : Nat) (n5_2 : Nat) (a6_0 : Option Addr) (n6_1 : Nat) (n6_2 : Nat) (x7 : Int) (h : Heap) (R : Value → Heap → Prop) : Prop :=
  ∃ q26 : Addr, a5_0 = some q26 ∧ (0 : Int) ≤ x7 ∧ x7 < (n5_1 : Int) ∧ ∃ s27 : ByteArray, Vc.cell h (q26.add (x7.toNat * 1)) = some (Value.string s27) ∧ ∃ q30 : Addr, a6_0 = some q30 ∧ (0 : Int) ≤ x7 ∧ x7 < (n6_1 : Int) ∧ ∃ s31 : ByteArray, Vc.cell h (q30.add (x7.toNat * 1)) = some (Value.string s31) ∧ ∀ h1, Cls false h h1 → br (!(seq s27 s31)) (∃ q35 : Addr, a5_0 = some q35 ∧ (0 : Int) ≤ x7 ∧ x7 < (n5_1 : Int) ∧ ∃ s36 : ByteArray, Vc.cell h1 (q35.add (x7.toNat * 1)) = some (Value.string s36) ∧ ∃ q39 : Addr, a6_0 = some q39 ∧ (0 : Int) ≤ x7 ∧ x7 < (n6_1 : Int) ∧ ∃ s40 : ByteArray, Vc.cell h1 (q39.add (x7.toNat * 1)) = some (Value.string s40) ∧ ∀ h2, Cls false h1 h2 → R (Value.bool (slt s36 s40)) h2) (F48_k4 I1 M1 m1 a5_0 n5_1 n5_2 a6_0 n6_1 n6_2 x7 h1 R)
def F48_k5 (a5_0 : Option Addr) (n5_1 : Nat) (n5_2 : Nat) (a6_0 : Option Addr) (n6_1 : Nat) (n6_2 : Nat) (h : Heap) (R : Value → Heap → Prop) : Prop :=
  R (Value.bool (decide (((n5_1 : Int) : Int) < (n6_1 : Int)))) h
def F48_k2 (I1 : Int → Heap → Prop) (M1 : Int → Heap → Nat) (m1 : Nat) (a5_0 : Option Addr) (n5_1 : Nat) (n5_2 : Nat) (a6_0 : Option Addr) (n6_1 : Nat) (n6_2 : Nat) (x7 : Int) (b21 : Bool) (h : Heap) (R : Value → Heap → Prop) : Prop :=
  br b21 (F48_k3 I1 M1 m1 a5_0 n5_1 n5_2 a6_0 n6_1 n6_2 x7 h R) (F48_k5 a5_0 n5_1 n5_2 a6_0 n6_1 n6_2 h R)
def F48_b1 (I1 : Int → Heap → Prop) (M1 : Int → Heap → Nat) (m1 : Nat) (a5_0 : Option Addr) (n5_1 : Nat) (n5_2 : Nat) (a6_0 : Option Addr) (n6_1 : Nat) (n6_2 : Nat) (x7 : Int) (h : Heap) (R : Value → Heap → Prop) : Prop :=
  br (decide ((x7 : Int) < (n5_1 : Int))) (F48_k2 I1 M1 m1 a5_0 n5_1 n5_2 a6_0 n6_1 n6_2 x7 (decide ((x7 : Int) < (n6_1 : Int))) h R) (F48_k2 I1 M1 m1 a5_0 n5_1 n5_2 a6_0 n6_1 n6_2 x7 false h R)
def F48 (s0 : ByteArray) (s1 : ByteArray) (h : Heap) (R : Value → Heap → Prop) : Prop :=
  HCalls Tryd.prog 63 #[Value.string s0] h fun r9 h1 => ∃ a9 : Option Addr, ∃ l9 : Nat, ∃ c9 : Nat, r9 = Value.slice a9 l9 c9 ∧ HCalls Tryd.prog 63 #[Value.string s1] h1 fun r11 h2 => ∃ a11 : Option Addr, ∃ l11 : Nat, ∃ c11 : Nat, r11 = Value.slice a11 l11 c11 ∧ ∀ x7 : Int, x7 = 0 → ∃ (I1 : Int → Heap → Prop) (M1 : Int → Heap → Nat), I1 x7 h2 ∧ ∀ h3 (x7_1 : Int), I1 x7_1 h3 → F48_b1 I1 M1 (M1 x7_1 h3) a9 l9 c9 a11 l11 c11 x7_1 h3 R
def A48 : Ann := { bind := [7], loops := [(3, [(7, .int .i64)])], draws := [(5, 0, 9), (6, 0, 10)] }
theorem F48_ent (s0 : ByteArray) (s1 : ByteArray) (h : Heap) (R : Value → Heap → Prop) (H : F48 s0 s1 h R) : HEnt Tryd.prog 48 #[Value.string s0, Value.string s1] h R :=
  hent A48 mixed Tryd.func48 rfl (by kernel_rfl) (by kernel_rfl) (Eq.mp (by kernel_rfl) H)

/-! ### 49 veneer/veneerref05.In -/
def F49_k2 (s0 : ByteArray) (s1 : ByteArray) (h : Heap) (R : Value → Heap → Prop) : Prop :=
  br (decide (((s1.size : Int) : Int) > (s0.size : Int))) ((0 : Int) ≤ 0 ∧ (0 : Int) ≤ IntKind.i64.wrap ((s0.size : Int) + 1) ∧ IntKind.i64.wrap ((s0.size : Int) + 1) ≤ (s1.size : Int) ∧ s0.size + (⟨#[47]⟩ : ByteArray).size ≤ 9223372036854775807 ∧ R (Value.bool (seq (s1.extract 0 (IntKind.i64.wrap ((s0.size : Int) + 1)).toNat) (s0 ++ (⟨#[47]⟩ : ByteArray)))) h) (R (Value.bool false) h)
def F49_k1 (s0 : ByteArray) (s1 : ByteArray) (b11 : Bool) (h : Heap) (R : Value → Heap → Prop) : Prop :=
  br b11 (R (Value.bool true) h) (F49_k2 s0 s1 h R)
def F49 (s0 : ByteArray) (s1 : ByteArray) (h : Heap) (R : Value → Heap → Prop) : Prop :=
  br (seq s0 (⟨#[]⟩ : ByteArray)) (F49_k1 s0 s1 true h R) (F49_k1 s0 s1 (seq s0 s1) h R)
def A49 : Ann := {  }
theorem F49_ent (s0 : ByteArray) (s1 : ByteArray) (h : Heap) (R : Value → Heap → Prop) (H : F49 s0 s1 h R) : HEnt Tryd.prog 49 #[Value.string s0, Value.string s1] h R :=
  hent A49 mixed Tryd.func49 rfl (by kernel_rfl) (by kernel_rfl) (Eq.mp (by kernel_rfl) H)

/-! ### 61 veneer/veneerref05.Pieces -/
def F61_k3 (I1 : Option Addr → Nat → Nat → Int → Int → Heap → Prop) (M1 : Option Addr → Nat → Nat → Int → Int → Heap → Nat) (m1 : Nat) (s0 : ByteArray) (a3_0 : Option Addr) (n3_1 : Nat) (n3_2 : Nat) (x4 : Int) (x5 : Int) (h : Heap) (R : Value → Heap → Prop) : Prop :=
  ∀ x5_1 : Int, x5_1 = IntKind.i64.wrap (x5 + 1) → I1 a3_0 n3_1 n3_2 x4 x5_1 h ∧ M1 a3_0 n3_1 n3_2 x4 x5_1 h < m1
def F61_k2 (I1 : Option Addr → Nat → Nat → Int → Int → Heap → Prop) (M1 : Option Addr → Nat → Nat → Int → Int → Heap → Nat) (m1 : Nat) (s0 : ByteArray) (a3_0 : Option Addr) (n3_1 : Nat) (n3_2 : Nat) (x4 : Int) (x5 : Int) (h : Heap) (R : Value → Heap → Prop) : Prop :=
  (0 : Int) ≤ x5 ∧ x5 < (s0.size : Int) ∧ br ((bt s0 x5 : Int) == 47) ((0 : Int) ≤ x4 ∧ (x4 : Int) ≤ x5 ∧ x5 ≤ (s0.size : Int) ∧ 1 * 1 ≤ 16777216 ∧ newK h (.cells #[Value.string (s0.extract x4.toNat x5.toNat)] 9) fun b21 h1 => appK Tryd.prog 9 h1 a3_0 n3_1 n3_2 (Value.slice (some (at0 b21)) 1 1) fun a22 l22 c22 h2 => ∀ x4_1 : Int, x4_1 = IntKind.i64.wrap (x5 + 1) → F61_k3 I1 M1 m1 s0 a22 l22 c22 x4_1 x5 h2 R) (F61_k3 I1 M1 m1 s0 a3_0 n3_1 n3_2 x4 x5 h R)
def F61_k4 (s0 : ByteArray) (a3_0 : Option Addr) (n3_1 : Nat) (n3_2 : Nat) (x4 : Int) (h : Heap) (R : Value → Heap → Prop) : Prop :=
  (0 : Int) ≤ x4 ∧ (x4 : Int) ≤ (s0.size : Int) ∧ (s0.size : Int) ≤ (s0.size : Int) ∧ 1 * 1 ≤ 16777216 ∧ newK h (.cells #[Value.string (s0.extract x4.toNat (s0.size : Int).toNat)] 9) fun b29 h1 => appK Tryd.prog 9 h1 a3_0 n3_1 n3_2 (Value.slice (some (at0 b29)) 1 1) fun a30 l30 c30 h2 => R (Value.slice a30 l30 c30) h2
def F61_b1 (I1 : Option Addr → Nat → Nat → Int → Int → Heap → Prop) (M1 : Option Addr → Nat → Nat → Int → Int → Heap → Nat) (m1 : Nat) (s0 : ByteArray) (a2_0 : Option Addr) (n2_1 : Nat) (n2_2 : Nat) (a3_0 : Option Addr) (n3_1 : Nat) (n3_2 : Nat) (x4 : Int) (x5 : Int) (h : Heap) (R : Value → Heap → Prop) : Prop :=
  br (decide ((x5 : Int) < (s0.size : Int))) (F61_k2 I1 M1 m1 s0 a3_0 n3_1 n3_2 x4 x5 h R) (F61_k4 s0 a3_0 n3_1 n3_2 x4 h R)
def F61 (s0 : ByteArray) (h : Heap) (R : Value → Heap → Prop) : Prop :=
  ∀ x4 : Int, x4 = 0 → ∀ x5 : Int, x5 = 0 → ∃ (I1 : Option Addr → Nat → Nat → Int → Int → Heap → Prop) (M1 : Option Addr → Nat → Nat → Int → Int → Heap → Nat), I1 none 0 0 x4 x5 h ∧ ∀ h1 (a3 : Option Addr) (l3 c3 : Nat) (x4_1 : Int) (x5_1 : Int), I1 a3 l3 c3 x4_1 x5_1 h1 → F61_b1 I1 M1 (M1 a3 l3 c3 x4_1 x5_1 h1) s0 none 0 0 a3 l3 c3 x4_1 x5_1 h1 R
def A61 : Ann := { bind := [4, 5], loops := [(4, [(3, .slice), (4, .int .i64), (5, .int .i64)])] }
theorem F61_ent (s0 : ByteArray) (h : Heap) (R : Value → Heap → Prop) (H : F61 s0 h R) : HEnt Tryd.prog 61 #[Value.string s0] h R :=
  hent A61 mixed Tryd.func61 rfl (by kernel_rfl) (by kernel_rfl) (Eq.mp (by kernel_rfl) H)

/-! ### 62 veneer/veneerref05.Part -/
def F62_k5 (I1 : Int → Heap → Prop) (M1 : Int → Heap → Nat) (m1 : Nat) (I3 : Bool → Int → Heap → Prop) (M3 : Bool → Int → Heap → Nat) (m3 : Nat) (s0 : ByteArray) (x3 : Int) (b4 : Bool) (x5 : Int) (h : Heap) (R : Value → Heap → Prop) : Prop :=
  ∀ x5_1 : Int, x5_1 = IntKind.i64.wrap (x5 + 1) → I3 b4 x5_1 h ∧ M3 b4 x5_1 h < m3
def F62_k4 (I1 : Int → Heap → Prop) (M1 : Int → Heap → Nat) (m1 : Nat) (I3 : Bool → Int → Heap → Prop) (M3 : Bool → Int → Heap → Nat) (m3 : Nat) (s0 : ByteArray) (x3 : Int) (b4 : Bool) (x5 : Int) (h : Heap) (R : Value → Heap → Prop) : Prop :=
  br b4 (∀ h1, Cls false h h1 → F62_k5 I1 M1 m1 I3 M3 m3 s0 x3 true x5 h1 R) ((0 : Int) ≤ x5 ∧ x5 < ((⟨#[97, 98, 99, 100, 101, 102, 103, 104, 105, 106, 107, 108, 109, 110, 111, 112, 113, 114, 115, 116, 117, 118, 119, 120, 121, 122, 48, 49, 50, 51, 52, 53, 54, 55, 56, 57, 95, 45, 46]⟩ : ByteArray).size : Int) ∧ (0 : Int) ≤ x3 ∧ x3 < (s0.size : Int) ∧ ∀ h1, Cls false h h1 → F62_k5 I1 M1 m1 I3 M3 m3 s0 x3 ((bt (⟨#[97, 98, 99, 100, 101, 102, 103, 104, 105, 106, 107, 108, 109, 110, 111, 112, 113, 114, 115, 116, 117, 118, 119, 120, 121, 122, 48, 49, 50, 51, 52, 53, 54, 55, 56, 57, 95, 45, 46]⟩ : ByteArray) x5 : Int) == (bt s0 x3)) x5 h1 R)
def F62_k7 (I1 : Int → Heap → Prop) (M1 : Int → Heap → Nat) (m1 : Nat) (s0 : ByteArray) (x3 : Int) (h : Heap) (R : Value → Heap → Prop) : Prop :=
  ∀ x3_1 : Int, x3_1 = IntKind.i64.wrap (x3 + 1) → I1 x3_1 h ∧ M1 x3_1 h < m1
def F62_k6 (I1 : Int → Heap → Prop) (M1 : Int → Heap → Nat) (m1 : Nat) (s0 : ByteArray) (x3 : Int) (b4 : Bool) (h : Heap) (R : Value → Heap → Prop) : Prop :=
  br (!b4) (R (Value.bool false) h) (F62_k7 I1 M1 m1 s0 x3 h R)
def F62_b3 (I1 : Int → Heap → Prop) (M1 : Int → Heap → Nat) (m1 : Nat) (I3 : Bool → Int → Heap → Prop) (M3 : Bool → Int → Heap → Nat) (m3 : Nat) (s0 : ByteArray) (x3 : Int) (b4 : Bool) (x5 : Int) (h : Heap) (R : Value → Heap → Prop) : Prop :=
  br (decide ((x5 : Int) < 39)) (F62_k4 I1 M1 m1 I3 M3 m3 s0 x3 b4 x5 h R) (F62_k6 I1 M1 m1 s0 x3 b4 h R)
def F62_k2 (I1 : Int → Heap → Prop) (M1 : Int → Heap → Nat) (m1 : Nat) (s0 : ByteArray) (x3 : Int) (h : Heap) (R : Value → Heap → Prop) : Prop :=
  ∀ x5 : Int, x5 = 0 → ∃ (I3 : Bool → Int → Heap → Prop) (M3 : Bool → Int → Heap → Nat), I3 false x5 h ∧ ∀ h1 (b4 : Bool) (x5_1 : Int), I3 b4 x5_1 h1 → F62_b3 I1 M1 m1 I3 M3 (M3 b4 x5_1 h1) s0 x3 b4 x5_1 h1 R
def F62_k8 (s0 : ByteArray) (h : Heap) (R : Value → Heap → Prop) : Prop :=
  br (decide (((s0.size : Int) : Int) ≥ 1)) (br (decide (((s0.size : Int) : Int) ≤ 24)) (br (!(seq s0 (⟨#[46]⟩ : ByteArray))) (R (Value.bool (!(seq s0 (⟨#[46, 46]⟩ : ByteArray)))) h) (R (Value.bool false) h)) (R (Value.bool false) h)) (R (Value.bool false) h)
def F62_b1 (I1 : Int → Heap → Prop) (M1 : Int → Heap → Nat) (m1 : Nat) (s0 : ByteArray) (x3 : Int) (h : Heap) (R : Value → Heap → Prop) : Prop :=
  br (decide ((x3 : Int) < (s0.size : Int))) (F62_k2 I1 M1 m1 s0 x3 h R) (F62_k8 s0 h R)
def F62 (s0 : ByteArray) (h : Heap) (R : Value → Heap → Prop) : Prop :=
  ∀ x3 : Int, x3 = 0 → ∃ (I1 : Int → Heap → Prop) (M1 : Int → Heap → Nat), I1 x3 h ∧ ∀ h1 (x3_1 : Int), I1 x3_1 h1 → F62_b1 I1 M1 (M1 x3_1 h1) s0 x3_1 h1 R
def A62 : Ann := { bind := [3, 5], loops := [(2, [(3, .int .i64)]), (6, [(4, .bool), (5, .int .i64)])], draws := [(8, 0, 10)] }
theorem F62_ent (s0 : ByteArray) (h : Heap) (R : Value → Heap → Prop) (H : F62 s0 h R) : HEnt Tryd.prog 62 #[Value.string s0] h R :=
  hent A62 mixed Tryd.func62 rfl (by kernel_rfl) (by kernel_rfl) (Eq.mp (by kernel_rfl) H)

/-! ### 63 veneer/veneerref05.pieces -/
def F63_k1 (s0 : ByteArray) (h : Heap) (R : Value → Heap → Prop) : Prop :=
  HCalls Tryd.prog 61 #[Value.string s0] h fun r6 h1 => ∃ a6 : Option Addr, ∃ l6 : Nat, ∃ c6 : Nat, r6 = Value.slice a6 l6 c6 ∧ R (Value.slice a6 l6 c6) h1
def F63 (s0 : ByteArray) (h : Heap) (R : Value → Heap → Prop) : Prop :=
  br (seq s0 (⟨#[]⟩ : ByteArray)) (R (Value.slice none 0 0) h) (F63_k1 s0 h R)
def A63 : Ann := {  }
theorem F63_ent (s0 : ByteArray) (h : Heap) (R : Value → Heap → Prop) (H : F63 s0 h R) : HEnt Tryd.prog 63 #[Value.string s0] h R :=
  hent A63 mixed Tryd.func63 rfl (by kernel_rfl) (by kernel_rfl) (Eq.mp (by kernel_rfl) H)

end Go.Proofs.YtnahhdkekchmfaaDoor
