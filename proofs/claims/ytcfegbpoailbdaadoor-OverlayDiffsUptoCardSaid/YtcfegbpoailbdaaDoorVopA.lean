import Derived.Test.YtcfegbpoailbdaaDoorProg
import Derived.Test.YtcfegbpoailbdaaDoorVcK

set_option linter.unusedVariables false
set_option maxRecDepth 100000
namespace Go.Proofs.YtcfegbpoailbdaaDoor
open Go.Vc
theorem mixed : Tryd.prog.follows .mixedOrders = true := by kernel_rfl
/-! ### 17 veneer/trail.Clean -/
def F17_k4 (I1 : Option Addr → Nat → Nat → Int → Heap → Prop) (M1 : Option Addr → Nat → Nat → Int → Heap → Nat) (m1 : Nat) (a4_0 : Option Addr) (n4_1 : Nat) (n4_2 : Nat) (a8_0 : Option Addr) (n8_1 : Nat) (n8_2 : Nat) (x9 : Int) (x10 : Int) (h : Heap) (R : Value → Heap → Prop) : Prop :=
  I1 a4_0 n4_1 n4_2 (IntKind.i64.wrap (x10 + 1)) h ∧ M1 a4_0 n4_1 n4_2 (IntKind.i64.wrap (x10 + 1)) h < m1
def F17_k5 (I1 : Option Addr → Nat → Nat → Int → Heap → Prop) (M1 : Option Addr → Nat → Nat → Int → Heap → Nat) (m1 : Nat) (a4_0 : Option Addr) (n4_1 : Nat) (n4_2 : Nat) (a8_0 : Option Addr) (n8_1 : Nat) (n8_2 : Nat) (x9 : Int) (x10 : Int) (h : Heap) (R : Value → Heap → Prop) : Prop :=
  (0 : Int) ≤ 0 ∧ (0 : Int) ≤ IntKind.i64.wrap ((n4_1 : Int) - 1) ∧ IntKind.i64.wrap ((n4_1 : Int) - 1) ≤ (n4_2 : Int) ∧ F17_k4 I1 M1 m1 (cutAt n4_2 0 1 a4_0) (((IntKind.i64.wrap ((n4_1 : Int) - 1)).toNat) - 0) (n4_2 - 0) a8_0 n8_1 n8_2 x9 x10 h R
def F17_k3 (I1 : Option Addr → Nat → Nat → Int → Heap → Prop) (M1 : Option Addr → Nat → Nat → Int → Heap → Nat) (m1 : Nat) (a4_0 : Option Addr) (n4_1 : Nat) (n4_2 : Nat) (s6 : ByteArray) (a8_0 : Option Addr) (n8_1 : Nat) (n8_2 : Nat) (x9 : Int) (x10 : Int) (b14 : Bool) (h : Heap) (R : Value → Heap → Prop) : Prop :=
  br b14 (F17_k4 I1 M1 m1 a4_0 n4_1 n4_2 a8_0 n8_1 n8_2 x9 x10 h R) (br (seq s6 (⟨#[46, 46]⟩ : ByteArray)) (br (((n4_1 : Int) : Int) == 0) (R (Value.tuple #[Value.string (⟨#[]⟩ : ByteArray), Value.int .i64 12]) h) (F17_k5 I1 M1 m1 a4_0 n4_1 n4_2 a8_0 n8_1 n8_2 x9 x10 h R)) (HCalls Tryd.prog 34 #[Value.string s6] h fun r34 h1 => ∃ b34 : Bool, r34 = Value.bool b34 ∧ br b34 (1 * 1 ≤ 16777216 ∧ newK h1 (.cells #[Value.string s6] 9) fun b37 h2 => appK Tryd.prog 9 h2 a4_0 n4_1 n4_2 (Value.slice (some (at0 b37)) 1 1) fun a38 l38 c38 h3 => F17_k4 I1 M1 m1 a38 l38 c38 a8_0 n8_1 n8_2 x9 x10 h3 R) (R (Value.tuple #[Value.string (⟨#[]⟩ : ByteArray), Value.int .i64 12]) h1)))
def F17_k2 (I1 : Option Addr → Nat → Nat → Int → Heap → Prop) (M1 : Option Addr → Nat → Nat → Int → Heap → Nat) (m1 : Nat) (a4_0 : Option Addr) (n4_1 : Nat) (n4_2 : Nat) (a8_0 : Option Addr) (n8_1 : Nat) (n8_2 : Nat) (x9 : Int) (x10 : Int) (h : Heap) (R : Value → Heap → Prop) : Prop :=
  ∃ q12 : Addr, a8_0 = some q12 ∧ (0 : Int) ≤ x10 ∧ x10 < (n8_1 : Int) ∧ ∃ s13 : ByteArray, Vc.cell h (q12.add (x10.toNat * 1)) = some (Value.string s13) ∧ br (seq s13 (⟨#[]⟩ : ByteArray)) (F17_k3 I1 M1 m1 a4_0 n4_1 n4_2 s13 a8_0 n8_1 n8_2 x9 x10 true h R) (F17_k3 I1 M1 m1 a4_0 n4_1 n4_2 s13 a8_0 n8_1 n8_2 x9 x10 (seq s13 (⟨#[46]⟩ : ByteArray)) h R)
def F17_k7 (a4_0 : Option Addr) (n4_1 : Nat) (n4_2 : Nat) (h : Heap) (R : Value → Heap → Prop) : Prop :=
  HCalls Tryd.prog 35 #[Value.slice a4_0 n4_1 n4_2, Value.string (⟨#[47]⟩ : ByteArray)] h fun r44 h1 => ∃ s44 : ByteArray, r44 = Value.string s44 ∧ R (Value.tuple #[Value.string s44, Value.int .i64 0]) h1
def F17_k6 (a4_0 : Option Addr) (n4_1 : Nat) (n4_2 : Nat) (h : Heap) (R : Value → Heap → Prop) : Prop :=
  br (decide (((n4_1 : Int) : Int) > 8)) (R (Value.tuple #[Value.string (⟨#[]⟩ : ByteArray), Value.int .i64 3]) h) (F17_k7 a4_0 n4_1 n4_2 h R)
def F17_b1 (I1 : Option Addr → Nat → Nat → Int → Heap → Prop) (M1 : Option Addr → Nat → Nat → Int → Heap → Nat) (m1 : Nat) (s0 : ByteArray) (a4_0 : Option Addr) (n4_1 : Nat) (n4_2 : Nat) (a8_0 : Option Addr) (n8_1 : Nat) (n8_2 : Nat) (x9 : Int) (x10 : Int) (h : Heap) (R : Value → Heap → Prop) : Prop :=
  br (decide ((x10 : Int) < x9)) (F17_k2 I1 M1 m1 a4_0 n4_1 n4_2 a8_0 n8_1 n8_2 x9 x10 h R) (F17_k6 a4_0 n4_1 n4_2 h R)
def F17 (s0 : ByteArray) (h : Heap) (R : Value → Heap → Prop) : Prop :=
  HCalls Tryd.prog 33 #[Value.string s0, Value.string (⟨#[47]⟩ : ByteArray)] h fun r8 h1 => ∃ a8 : Option Addr, ∃ l8 : Nat, ∃ c8 : Nat, r8 = Value.slice a8 l8 c8 ∧ ∃ (I1 : Option Addr → Nat → Nat → Int → Heap → Prop) (M1 : Option Addr → Nat → Nat → Int → Heap → Nat), I1 none 0 0 0 h1 ∧ ∀ h2 (a4 : Option Addr) (l4 c4 : Nat) (x10 : Int), I1 a4 l4 c4 x10 h2 → F17_b1 I1 M1 (M1 a4 l4 c4 x10 h2) s0 a4 l4 c4 a8 l8 c8 (l8 : Int) x10 h2 R
def A17 : Ann := { loops := [(3, [(4, .slice), (10, .int .i64)])] }
theorem F17_ent (s0 : ByteArray) (h : Heap) (R : Value → Heap → Prop) (H : F17 s0 h R) : HEnt Tryd.prog 17 #[Value.string s0] h R :=
  hent A17 mixed Tryd.func17 rfl (by kernel_rfl) (by kernel_rfl) (Eq.mp (by kernel_rfl) H)

/-! ### 18 veneer/trail.In -/
def F18 (s0 : ByteArray) (s1 : ByteArray) (h : Heap) (R : Value → Heap → Prop) : Prop :=
  br (seq s0 (⟨#[]⟩ : ByteArray)) (R (Value.bool true) h) (br (seq s1 s0) (R (Value.bool true) h) (br (decide (((s1.size : Int) : Int) > (s0.size : Int))) ((0 : Int) ≤ 0 ∧ (0 : Int) ≤ (s0.size : Int) ∧ (s0.size : Int) ≤ (s1.size : Int) ∧ br (seq (s1.extract 0 (s0.size : Int).toNat) s0) ((0 : Int) ≤ (s0.size : Int) ∧ (s0.size : Int) < (s1.size : Int) ∧ R (Value.bool ((bt s1 (s0.size : Int) : Int) == 47)) h) (R (Value.bool false) h)) (R (Value.bool false) h)))
def A18 : Ann := {  }
theorem F18_ent (s0 : ByteArray) (s1 : ByteArray) (h : Heap) (R : Value → Heap → Prop) (H : F18 s0 s1 h R) : HEnt Tryd.prog 18 #[Value.string s0, Value.string s1] h R :=
  hent A18 mixed Tryd.func18 rfl (by kernel_rfl) (by kernel_rfl) (Eq.mp (by kernel_rfl) H)

/-! ### 24 veneer/trail.Up -/
def F24_k3 (h : Heap) (R : Value → Heap → Prop) : Prop :=
  R (Value.tuple #[Value.string (⟨#[]⟩ : ByteArray), Value.bool true]) h
def F24_k2 (s0 : ByteArray) (h : Heap) (R : Value → Heap → Prop) : Prop :=
  HCalls Tryd.prog 43 #[Value.string s0, Value.int .u8 47] h fun r13 h1 => ∃ x13 : Int, r13 = Value.int .i64 x13 ∧ br (decide ((x13 : Int) ≥ 0)) ((0 : Int) ≤ 0 ∧ (0 : Int) ≤ x13 ∧ x13 ≤ (s0.size : Int) ∧ R (Value.tuple #[Value.string (s0.extract 0 x13.toNat), Value.bool true]) h1) (F24_k3 h1 R)
def F24_k1 (s0 : ByteArray) (b11 : Bool) (h : Heap) (R : Value → Heap → Prop) : Prop :=
  br b11 (R (Value.tuple #[Value.string (⟨#[]⟩ : ByteArray), Value.bool false]) h) (F24_k2 s0 h R)
def F24 (s0 : ByteArray) (h : Heap) (R : Value → Heap → Prop) : Prop :=
  br (seq s0 (⟨#[]⟩ : ByteArray)) (F24_k1 s0 true h R) (HCalls Tryd.prog 42 #[Value.string s0] h fun r9 h1 => ∃ b9 : Bool, r9 = Value.bool b9 ∧ F24_k1 s0 (!b9) h1 R)
def A24 : Ann := {  }
theorem F24_ent (s0 : ByteArray) (h : Heap) (R : Value → Heap → Prop) (H : F24 s0 h R) : HEnt Tryd.prog 24 #[Value.string s0] h R :=
  hent A24 mixed Tryd.func24 rfl (by kernel_rfl) (by kernel_rfl) (Eq.mp (by kernel_rfl) H)

/-! ### 26 veneer/trail.Parts -/
def F26_k2 (s0 : ByteArray) (h : Heap) (R : Value → Heap → Prop) : Prop :=
  HCalls Tryd.prog 33 #[Value.string s0, Value.string (⟨#[47]⟩ : ByteArray)] h fun r11 h1 => ∃ a11 : Option Addr, ∃ l11 : Nat, ∃ c11 : Nat, r11 = Value.slice a11 l11 c11 ∧ R (Value.slice a11 l11 c11) h1
def F26_k1 (s0 : ByteArray) (b9 : Bool) (h : Heap) (R : Value → Heap → Prop) : Prop :=
  br b9 (R (Value.slice none 0 0) h) (F26_k2 s0 h R)
def F26 (s0 : ByteArray) (h : Heap) (R : Value → Heap → Prop) : Prop :=
  br (seq s0 (⟨#[]⟩ : ByteArray)) (F26_k1 s0 true h R) (HCalls Tryd.prog 42 #[Value.string s0] h fun r7 h1 => ∃ b7 : Bool, r7 = Value.bool b7 ∧ F26_k1 s0 (!b7) h1 R)
def A26 : Ann := {  }
theorem F26_ent (s0 : ByteArray) (h : Heap) (R : Value → Heap → Prop) (H : F26 s0 h R) : HEnt Tryd.prog 26 #[Value.string s0] h R :=
  hent A26 mixed Tryd.func26 rfl (by kernel_rfl) (by kernel_rfl) (Eq.mp (by kernel_rfl) H)

/-! ### 30 veneer/veneerref05.Walk -/
def F30_k3 (I2 : Option Addr → Nat → Nat → Int → Heap → Prop) (M2 : Option Addr → Nat → Nat → Int → Heap → Nat) (m2 : Nat) (a3_0 : Option Addr) (n3_1 : Nat) (n3_2 : Nat) (a4_0 : Option Addr) (n4_1 : Nat) (n4_2 : Nat) (x5 : Int) (h : Heap) (R : Value → Heap → Prop) : Prop :=
  (0 : Int) ≤ 0 ∧ (0 : Int) ≤ x5 ∧ x5 ≤ (n4_2 : Int) ∧ HCalls Tryd.prog 51 #[Value.slice (cutAt n4_2 0 1 a4_0) (x5.toNat - 0) (n4_2 - 0)] h fun r22 h1 => ∃ s22 : ByteArray, r22 = Value.string s22 ∧ 1 * 1 ≤ 16777216 ∧ newK h1 (.cells #[Value.string s22] 9) fun b23 h2 => appK Tryd.prog 9 h2 a3_0 n3_1 n3_2 (Value.slice (some (at0 b23)) 1 1) fun a24 l24 c24 h3 => ∀ x5_1 : Int, x5_1 = IntKind.i64.wrap (x5 + 1) → I2 a24 l24 c24 x5_1 h3 ∧ M2 a24 l24 c24 x5_1 h3 < m2
def F30_k4 (a3_0 : Option Addr) (n3_1 : Nat) (n3_2 : Nat) (h : Heap) (R : Value → Heap → Prop) : Prop :=
  R (Value.slice a3_0 n3_1 n3_2) h
def F30_b2 (I2 : Option Addr → Nat → Nat → Int → Heap → Prop) (M2 : Option Addr → Nat → Nat → Int → Heap → Nat) (m2 : Nat) (a3_0 : Option Addr) (n3_1 : Nat) (n3_2 : Nat) (a4_0 : Option Addr) (n4_1 : Nat) (n4_2 : Nat) (x5 : Int) (h : Heap) (R : Value → Heap → Prop) : Prop :=
  br (decide ((x5 : Int) ≤ (n4_1 : Int))) (F30_k3 I2 M2 m2 a3_0 n3_1 n3_2 a4_0 n4_1 n4_2 x5 h R) (F30_k4 a3_0 n3_1 n3_2 h R)
def F30_k1 (s0 : ByteArray) (h : Heap) (R : Value → Heap → Prop) : Prop :=
  1 * 1 ≤ 16777216 ∧ newK h (.cells #[Value.string (⟨#[]⟩ : ByteArray)] 9) fun b9 h1 => HCalls Tryd.prog 50 #[Value.string s0] h1 fun r11 h2 => ∃ a11 : Option Addr, ∃ l11 : Nat, ∃ c11 : Nat, r11 = Value.slice a11 l11 c11 ∧ ∀ x5 : Int, x5 = 1 → ∃ (I2 : Option Addr → Nat → Nat → Int → Heap → Prop) (M2 : Option Addr → Nat → Nat → Int → Heap → Nat), I2 (some (at0 b9)) 1 1 x5 h2 ∧ ∀ h3 (a3 : Option Addr) (l3 c3 : Nat) (x5_1 : Int), I2 a3 l3 c3 x5_1 h3 → F30_b2 I2 M2 (M2 a3 l3 c3 x5_1 h3) a3 l3 c3 a11 l11 c11 x5_1 h3 R
def F30 (s0 : ByteArray) (h : Heap) (R : Value → Heap → Prop) : Prop :=
  HCalls Tryd.prog 49 #[Value.string s0] h fun r7 h1 => ∃ b7 : Bool, r7 = Value.bool b7 ∧ br (!b7) (R (Value.slice none 0 0) h1) (F30_k1 s0 h1 R)
def A30 : Ann := { bind := [5], loops := [(6, [(3, .slice), (5, .int .i64)])] }
theorem F30_ent (s0 : ByteArray) (h : Heap) (R : Value → Heap → Prop) (H : F30 s0 h R) : HEnt Tryd.prog 30 #[Value.string s0] h R :=
  hent A30 mixed Tryd.func30 rfl (by kernel_rfl) (by kernel_rfl) (Eq.mp (by kernel_rfl) H)

/-! ### 34 veneer/trail.part -/
def F34_k6 (I3 : Int → Heap → Prop) (M3 : Int → Heap → Nat) (m3 : Nat) (s0 : ByteArray) (x21 : Int) (x22 : Int) (h : Heap) (R : Value → Heap → Prop) : Prop :=
  I3 (IntKind.i64.wrap (x22 + 1)) h ∧ M3 (IntKind.i64.wrap (x22 + 1)) h < m3
def F34_k5 (I3 : Int → Heap → Prop) (M3 : Int → Heap → Nat) (m3 : Nat) (s0 : ByteArray) (x21 : Int) (x22 : Int) (b54 : Bool) (h : Heap) (R : Value → Heap → Prop) : Prop :=
  br b54 (R (Value.bool false) h) (F34_k6 I3 M3 m3 s0 x21 x22 h R)
def F34_k4 (I3 : Int → Heap → Prop) (M3 : Int → Heap → Nat) (m3 : Nat) (s0 : ByteArray) (x21 : Int) (x22 : Int) (h : Heap) (R : Value → Heap → Prop) : Prop :=
  (0 : Int) ≤ x22 ∧ x22 < (s0.size : Int) ∧ br (decide ((bt s0 x22 : Int) ≥ 97)) (br (decide ((bt s0 x22 : Int) ≤ 122)) (F34_k5 I3 M3 m3 s0 x21 x22 false h R) (br (decide ((bt s0 x22 : Int) ≥ 48)) (br (decide ((bt s0 x22 : Int) ≤ 57)) (F34_k5 I3 M3 m3 s0 x21 x22 false h R) (br ((bt s0 x22 : Int) == 95) (F34_k5 I3 M3 m3 s0 x21 x22 false h R) (br ((bt s0 x22 : Int) == 45) (F34_k5 I3 M3 m3 s0 x21 x22 false h R) (F34_k5 I3 M3 m3 s0 x21 x22 (!((bt s0 x22 : Int) == 46)) h R)))) (br ((bt s0 x22 : Int) == 95) (F34_k5 I3 M3 m3 s0 x21 x22 false h R) (br ((bt s0 x22 : Int) == 45) (F34_k5 I3 M3 m3 s0 x21 x22 false h R) (F34_k5 I3 M3 m3 s0 x21 x22 (!((bt s0 x22 : Int) == 46)) h R))))) (br (decide ((bt s0 x22 : Int) ≥ 48)) (br (decide ((bt s0 x22 : Int) ≤ 57)) (F34_k5 I3 M3 m3 s0 x21 x22 false h R) (br ((bt s0 x22 : Int) == 95) (F34_k5 I3 M3 m3 s0 x21 x22 false h R) (br ((bt s0 x22 : Int) == 45) (F34_k5 I3 M3 m3 s0 x21 x22 false h R) (F34_k5 I3 M3 m3 s0 x21 x22 (!((bt s0 x22 : Int) == 46)) h R)))) (br ((bt s0 x22 : Int) == 95) (F34_k5 I3 M3 m3 s0 x21 x22 false h R) (br ((bt s0 x22 : Int) == 45) (F34_k5 I3 M3 m3 s0 x21 x22 false h R) (F34_k5 I3 M3 m3 s0 x21 x22 (!((bt s0 x22 : Int) == 46)) h R))))
def F34_k7 (h : Heap) (R : Value → Heap → Prop) : Prop :=
  R (Value.bool true) h
def F34_b3 (I3 : Int → Heap → Prop) (M3 : Int → Heap → Nat) (m3 : Nat) (s0 : ByteArray) (x21 : Int) (x22 : Int) (h : Heap) (R : Value → Heap → Prop) : Prop :=
  br (decide ((x22 : Int) < x21)) (F34_k4 I3 M3 m3 s0 x21 x22 h R) (F34_k7 h R)
def F34_k2 (s0 : ByteArray) (h : Heap) (R : Value → Heap → Prop) : Prop :=
  ∃ (I3 : Int → Heap → Prop) (M3 : Int → Heap → Nat), I3 0 h ∧ ∀ h1 (x22 : Int), I3 x22 h1 → F34_b3 I3 M3 (M3 x22 h1) s0 (s0.size : Int) x22 h1 R
def F34_k1 (s0 : ByteArray) (b19 : Bool) (h : Heap) (R : Value → Heap → Prop) : Prop :=
  br b19 (R (Value.bool false) h) (F34_k2 s0 h R)
def F34 (s0 : ByteArray) (h : Heap) (R : Value → Heap → Prop) : Prop :=
  br (seq s0 (⟨#[]⟩ : ByteArray)) (F34_k1 s0 true h R) (br (decide (((s0.size : Int) : Int) > 24)) (F34_k1 s0 true h R) (br (seq s0 (⟨#[46]⟩ : ByteArray)) (F34_k1 s0 true h R) (F34_k1 s0 (seq s0 (⟨#[46, 46]⟩ : ByteArray)) h R)))
def A34 : Ann := { loops := [(4, [(22, .int .i64)])] }
theorem F34_ent (s0 : ByteArray) (h : Heap) (R : Value → Heap → Prop) (H : F34 s0 h R) : HEnt Tryd.prog 34 #[Value.string s0] h R :=
  hent A34 mixed Tryd.func34 rfl (by kernel_rfl) (by kernel_rfl) (Eq.mp (by kernel_rfl) H)

/-! ### 39 veneer/veneerref05.Up -/
def F39_k1 (a4_0 : Option Addr) (n4_1 : Nat) (n4_2 : Nat) (h : Heap) (R : Value → Heap → Prop) : Prop :=
  (0 : Int) ≤ 0 ∧ (0 : Int) ≤ IntKind.i64.wrap ((n4_1 : Int) - 1) ∧ IntKind.i64.wrap ((n4_1 : Int) - 1) ≤ (n4_2 : Int) ∧ HCalls Tryd.prog 51 #[Value.slice (cutAt n4_2 0 1 a4_0) (((IntKind.i64.wrap ((n4_1 : Int) - 1)).toNat) - 0) (n4_2 - 0)] h fun r15 h1 => ∃ s15 : ByteArray, r15 = Value.string s15 ∧ R (Value.tuple #[Value.string s15, Value.bool true]) h1
def F39 (s0 : ByteArray) (h : Heap) (R : Value → Heap → Prop) : Prop :=
  HCalls Tryd.prog 50 #[Value.string s0] h fun r6 h1 => ∃ a6 : Option Addr, ∃ l6 : Nat, ∃ c6 : Nat, r6 = Value.slice a6 l6 c6 ∧ br (((l6 : Int) : Int) == 0) (R (Value.tuple #[Value.string (⟨#[]⟩ : ByteArray), Value.bool false]) h1) (F39_k1 a6 l6 c6 h1 R)
def A39 : Ann := {  }
theorem F39_ent (s0 : ByteArray) (h : Heap) (R : Value → Heap → Prop) (H : F39 s0 h R) : HEnt Tryd.prog 39 #[Value.string s0] h R :=
  hent A39 mixed Tryd.func39 rfl (by kernel_rfl) (by kernel_rfl) (Eq.mp (by kernel_rfl) H)

/-! ### 41 veneer/trail.Less -/
def F41_k5 (I3 : Int → Heap → Prop) (M3 : Int → Heap → Nat) (m3 : Nat) (s0 : ByteArray) (s1 : ByteArray) (x26 : Int) (x27 : Int) (h : Heap) (R : Value → Heap → Prop) : Prop :=
  I3 (IntKind.i64.wrap (x27 + 1)) h ∧ M3 (IntKind.i64.wrap (x27 + 1)) h < m3
def F41_k8 (I3 : Int → Heap → Prop) (M3 : Int → Heap → Nat) (m3 : Nat) (x7 : Int) (x8 : Int) (h : Heap) (R : Value → Heap → Prop) : Prop :=
  R (Value.bool (decide ((x7 : Int) < x8))) h
def F41_k7 (I3 : Int → Heap → Prop) (M3 : Int → Heap → Nat) (m3 : Nat) (x7 : Int) (x8 : Int) (b44 : Bool) (h : Heap) (R : Value → Heap → Prop) : Prop :=
  br b44 (R (Value.bool ((x7 : Int) == 47)) h) (F41_k8 I3 M3 m3 x7 x8 h R)
def F41_k6 (I3 : Int → Heap → Prop) (M3 : Int → Heap → Nat) (m3 : Nat) (x7 : Int) (x8 : Int) (h : Heap) (R : Value → Heap → Prop) : Prop :=
  br ((x7 : Int) == 47) (F41_k7 I3 M3 m3 x7 x8 true h R) (F41_k7 I3 M3 m3 x7 x8 ((x8 : Int) == 47) h R)
def F41_k4 (I3 : Int → Heap → Prop) (M3 : Int → Heap → Nat) (m3 : Nat) (s0 : ByteArray) (s1 : ByteArray) (x26 : Int) (x27 : Int) (h : Heap) (R : Value → Heap → Prop) : Prop :=
  (0 : Int) ≤ x27 ∧ x27 < (s0.size : Int) ∧ (0 : Int) ≤ x27 ∧ x27 < (s1.size : Int) ∧ ∀ h1, Cls false h h1 → br ((bt s0 x27 : Int) == (bt s1 x27)) (F41_k5 I3 M3 m3 s0 s1 x26 x27 h1 R) (F41_k6 I3 M3 m3 (bt s0 x27) (bt s1 x27) h1 R)
def F41_k9 (s0 : ByteArray) (s1 : ByteArray) (h : Heap) (R : Value → Heap → Prop) : Prop :=
  R (Value.bool (decide (((s0.size : Int) : Int) < (s1.size : Int)))) h
def F41_b3 (I3 : Int → Heap → Prop) (M3 : Int → Heap → Nat) (m3 : Nat) (s0 : ByteArray) (s1 : ByteArray) (x26 : Int) (x27 : Int) (h : Heap) (R : Value → Heap → Prop) : Prop :=
  br (decide ((x27 : Int) < x26)) (F41_k4 I3 M3 m3 s0 s1 x26 x27 h R) (F41_k9 s0 s1 h R)
def F41_k2 (s0 : ByteArray) (s1 : ByteArray) (h : Heap) (R : Value → Heap → Prop) : Prop :=
  ∃ (I3 : Int → Heap → Prop) (M3 : Int → Heap → Nat), I3 0 h ∧ ∀ h1 (x27 : Int), I3 x27 h1 → F41_b3 I3 M3 (M3 x27 h1) s0 s1 (minI (s0.size : Int) (s1.size : Int)) x27 h1 R
def F41_k1 (s0 : ByteArray) (s1 : ByteArray) (b14 : Bool) (h : Heap) (R : Value → Heap → Prop) : Prop :=
  br b14 (br (seq s0 (⟨#[]⟩ : ByteArray)) (R (Value.bool (!(seq s1 (⟨#[]⟩ : ByteArray)))) h) (R (Value.bool false) h)) (F41_k2 s0 s1 h R)
def F41 (s0 : ByteArray) (s1 : ByteArray) (h : Heap) (R : Value → Heap → Prop) : Prop :=
  br (seq s0 (⟨#[]⟩ : ByteArray)) (F41_k1 s0 s1 true h R) (F41_k1 s0 s1 (seq s1 (⟨#[]⟩ : ByteArray)) h R)
def A41 : Ann := { loops := [(5, [(27, .int .i64)])], draws := [(7, 0, 8)] }
theorem F41_ent (s0 : ByteArray) (s1 : ByteArray) (h : Heap) (R : Value → Heap → Prop) (H : F41 s0 s1 h R) : HEnt Tryd.prog 41 #[Value.string s0, Value.string s1] h R :=
  hent A41 mixed Tryd.func41 rfl (by kernel_rfl) (by kernel_rfl) (Eq.mp (by kernel_rfl) H)

/-! ### 42 veneer/trail.is -/
def F42 (s0 : ByteArray) (h : Heap) (R : Value → Heap → Prop) : Prop :=
  HCalls Tryd.prog 17 #[Value.string s0] h fun r7 h1 => ∃ s7_0 : ByteArray, ∃ x7_1 : Int, r7 = Value.tuple #[Value.string s7_0, Value.int .i64 x7_1] ∧ br ((x7_1 : Int) == 0) (R (Value.bool (seq s7_0 s0)) h1) (R (Value.bool false) h1)
def A42 : Ann := {  }
theorem F42_ent (s0 : ByteArray) (h : Heap) (R : Value → Heap → Prop) (H : F42 s0 h R) : HEnt Tryd.prog 42 #[Value.string s0] h R :=
  hent A42 mixed Tryd.func42 rfl (by kernel_rfl) (by kernel_rfl) (Eq.mp (by kernel_rfl) H)

/-! ### 49 veneer/veneerref05.Is -/
def F49_k4 (I2 : Int → Heap → Prop) (M2 : Int → Heap → Nat) (m2 : Nat) (a3_0 : Option Addr) (n3_1 : Nat) (n3_2 : Nat) (x4 : Int) (h : Heap) (R : Value → Heap → Prop) : Prop :=
  ∀ x4_1 : Int, x4_1 = IntKind.i64.wrap (x4 + 1) → I2 x4_1 h ∧ M2 x4_1 h < m2
def F49_k3 (I2 : Int → Heap → Prop) (M2 : Int → Heap → Nat) (m2 : Nat) (a3_0 : Option Addr) (n3_1 : Nat) (n3_2 : Nat) (x4 : Int) (h : Heap) (R : Value → Heap → Prop) : Prop :=
  ∃ q17 : Addr, a3_0 = some q17 ∧ (0 : Int) ≤ x4 ∧ x4 < (n3_1 : Int) ∧ ∃ s18 : ByteArray, Vc.cell h (q17.add (x4.toNat * 1)) = some (Value.string s18) ∧ HCalls Tryd.prog 63 #[Value.string s18] h fun r19 h1 => ∃ b19 : Bool, r19 = Value.bool b19 ∧ br (!b19) (R (Value.bool false) h1) (F49_k4 I2 M2 m2 a3_0 n3_1 n3_2 x4 h1 R)
def F49_k5 (a3_0 : Option Addr) (n3_1 : Nat) (n3_2 : Nat) (h : Heap) (R : Value → Heap → Prop) : Prop :=
  R (Value.bool (decide (((n3_1 : Int) : Int) ≤ 8))) h
def F49_b2 (I2 : Int → Heap → Prop) (M2 : Int → Heap → Nat) (m2 : Nat) (a3_0 : Option Addr) (n3_1 : Nat) (n3_2 : Nat) (x4 : Int) (h : Heap) (R : Value → Heap → Prop) : Prop :=
  br (decide ((x4 : Int) < (n3_1 : Int))) (F49_k3 I2 M2 m2 a3_0 n3_1 n3_2 x4 h R) (F49_k5 a3_0 n3_1 n3_2 h R)
def F49_k1 (s0 : ByteArray) (h : Heap) (R : Value → Heap → Prop) : Prop :=
  HCalls Tryd.prog 62 #[Value.string s0] h fun r8 h1 => ∃ a8 : Option Addr, ∃ l8 : Nat, ∃ c8 : Nat, r8 = Value.slice a8 l8 c8 ∧ ∀ x4 : Int, x4 = 0 → ∃ (I2 : Int → Heap → Prop) (M2 : Int → Heap → Nat), I2 x4 h1 ∧ ∀ h2 (x4_1 : Int), I2 x4_1 h2 → F49_b2 I2 M2 (M2 x4_1 h2) a8 l8 c8 x4_1 h2 R
def F49 (s0 : ByteArray) (h : Heap) (R : Value → Heap → Prop) : Prop :=
  br (seq s0 (⟨#[]⟩ : ByteArray)) (R (Value.bool true) h) (F49_k1 s0 h R)
def A49 : Ann := { bind := [4], loops := [(5, [(4, .int .i64)])] }
theorem F49_ent (s0 : ByteArray) (h : Heap) (R : Value → Heap → Prop) (H : F49 s0 h R) : HEnt Tryd.prog 49 #[Value.string s0] h R :=
  hent A49 mixed Tryd.func49 rfl (by kernel_rfl) (by kernel_rfl) (Eq.mp (by kernel_rfl) H)

/-! ### 50 veneer/veneerref05.Parts -/
def F50_k2 (s0 : ByteArray) (h : Heap) (R : Value → Heap → Prop) : Prop :=
  HCalls Tryd.prog 62 #[Value.string s0] h fun r11 h1 => ∃ a11 : Option Addr, ∃ l11 : Nat, ∃ c11 : Nat, r11 = Value.slice a11 l11 c11 ∧ R (Value.slice a11 l11 c11) h1
def F50_k1 (s0 : ByteArray) (b9 : Bool) (h : Heap) (R : Value → Heap → Prop) : Prop :=
  br b9 (R (Value.slice none 0 0) h) (F50_k2 s0 h R)
def F50 (s0 : ByteArray) (h : Heap) (R : Value → Heap → Prop) : Prop :=
  br (seq s0 (⟨#[]⟩ : ByteArray)) (F50_k1 s0 true h R) (HCalls Tryd.prog 49 #[Value.string s0] h fun r7 h1 => ∃ b7 : Bool, r7 = Value.bool b7 ∧ F50_k1 s0 (!b7) h1 R)
def A50 : Ann := {  }
theorem F50_ent (s0 : ByteArray) (h : Heap) (R : Value → Heap → Prop) (H : F50 s0 h R) : HEnt Tryd.prog 50 #[Value.string s0] h R :=
  hent A50 mixed Tryd.func50 rfl (by kernel_rfl) (by kernel_rfl) (Eq.mp (by kernel_rfl) H)

/-! ### 51 veneer/veneerref05.Text -/
def F51_k4 (I1 : ByteArray → Int → Heap → Prop) (M1 : ByteArray → Int → Heap → Nat) (m1 : Nat) (a0_0 : Option Addr) (n0_1 : Nat) (n0_2 : Nat) (s3 : ByteArray) (x4 : Int) (h : Heap) (R : Value → Heap → Prop) : Prop :=
  ∀ x4_1 : Int, x4_1 = IntKind.i64.wrap (x4 + 1) → I1 s3 x4_1 h ∧ M1 s3 x4_1 h < m1
def F51_k3 (I1 : ByteArray → Int → Heap → Prop) (M1 : ByteArray → Int → Heap → Nat) (m1 : Nat) (a0_0 : Option Addr) (n0_1 : Nat) (n0_2 : Nat) (s3 : ByteArray) (x4 : Int) (h : Heap) (R : Value → Heap → Prop) : Prop :=
  ∃ q18 : Addr, a0_0 = some q18 ∧ (0 : Int) ≤ x4 ∧ x4 < (n0_1 : Int) ∧ ∃ s19 : ByteArray, Vc.cell h (q18.add (x4.toNat * 1)) = some (Value.string s19) ∧ s3.size + s19.size ≤ 9223372036854775807 ∧ ∀ s3_1 : ByteArray, s3_1 = s3 ++ s19 → F51_k4 I1 M1 m1 a0_0 n0_1 n0_2 s3_1 x4 h R
def F51_k2 (I1 : ByteArray → Int → Heap → Prop) (M1 : ByteArray → Int → Heap → Nat) (m1 : Nat) (a0_0 : Option Addr) (n0_1 : Nat) (n0_2 : Nat) (s3 : ByteArray) (x4 : Int) (h : Heap) (R : Value → Heap → Prop) : Prop :=
  br (decide ((x4 : Int) > 0)) (s3.size + (⟨#[47]⟩ : ByteArray).size ≤ 9223372036854775807 ∧ ∀ s3_1 : ByteArray, s3_1 = s3 ++ (⟨#[47]⟩ : ByteArray) → F51_k3 I1 M1 m1 a0_0 n0_1 n0_2 s3_1 x4 h R) (F51_k3 I1 M1 m1 a0_0 n0_1 n0_2 s3 x4 h R)
def F51_k5 (s3 : ByteArray) (h : Heap) (R : Value → Heap → Prop) : Prop :=
  R (Value.string s3) h
def F51_b1 (I1 : ByteArray → Int → Heap → Prop) (M1 : ByteArray → Int → Heap → Nat) (m1 : Nat) (a0_0 : Option Addr) (n0_1 : Nat) (n0_2 : Nat) (s2 : ByteArray) (s3 : ByteArray) (x4 : Int) (h : Heap) (R : Value → Heap → Prop) : Prop :=
  br (decide ((x4 : Int) < (n0_1 : Int))) (F51_k2 I1 M1 m1 a0_0 n0_1 n0_2 s3 x4 h R) (F51_k5 s3 h R)
def F51 (a0 : Option Addr) (l0 : Nat) (c0 : Nat) (h : Heap) (R : Value → Heap → Prop) : Prop :=
  ∀ s3 : ByteArray, s3 = (⟨#[]⟩ : ByteArray) → ∀ x4 : Int, x4 = 0 → ∃ (I1 : ByteArray → Int → Heap → Prop) (M1 : ByteArray → Int → Heap → Nat), I1 s3 x4 h ∧ ∀ h1 (s3_1 : ByteArray) (x4_1 : Int), I1 s3_1 x4_1 h1 → F51_b1 I1 M1 (M1 s3_1 x4_1 h1) a0 l0 c0 (⟨#[]⟩ : ByteArray) s3_1 x4_1 h1 R
def A51 : Ann := { bind := [3, 4], loops := [(3, [(3, .str), (4, .int .i64)])] }
theorem F51_ent (a0 : Option Addr) (l0 : Nat) (c0 : Nat) (h : Heap) (R : Value → Heap → Prop) (H : F51 a0 l0 c0 h R) : HEnt Tryd.prog 51 #[Value.slice a0 l0 c0] h R :=
  hent A51 mixed Tryd.func51 rfl (by kernel_rfl) (by kernel_rfl) (Eq.mp (by kernel_rfl) H)

/-! ### 52 veneer/veneerref05.Less -/
def F52_k4 (I1 : Int → Heap → Prop) (M1 : Int → Heap → Nat) (m1 : Nat) (a5_0 : Option Addr) (n5_1 : Nat) (n5_2 : Nat) (a6_0 : Option Addr) (n6_1 : Nat) (n6_2 : Nat) (x7 : Int) (h : Heap) (R : Value → Heap → Prop) : Prop :=
  ∀ x7_1 : Int, x7_1 = IntKind.i64.wrap (x7 + 1) → I1 x7_1 h ∧ M1 x7_1 h < m1
def F52_k3 (I1 : Int → Heap → Prop) (M1 : Int → Heap → Nat) (m1 : Nat) (a5_0 : Option Addr) (n5_1 : Nat) (n5_2 : Nat) (a6_0 : Option Addr) (n6_1 : Nat) (n6_2 : Nat) (x7 : Int) (h : Heap) (R : Value → Heap → Prop) : Prop :=
  ∃ q26 : Addr, a5_0 = some q26 ∧ (0 : Int) ≤ x7 ∧ x7 < (n5_1 : Int) ∧ ∃ s27 : ByteArray, Vc.cell h (q26.add (x7.toNat * 1)) = some (Value.string s27) ∧ ∃ q30 : Addr, a6_0 = some q30 ∧ (0 : Int) ≤ x7 ∧ x7 < (n6_1 : Int) ∧ ∃ s31 : ByteArray, Vc.cell h (q30.add (x7.toNat * 1)) = some (Value.string s31) ∧ ∀ h1, Cls false h h1 → br (!(seq s27 s31)) (∃ q35 : Addr, a5_0 = some q35 ∧ (0 : Int) ≤ x7 ∧ x7 < (n5_1 : Int) ∧ ∃ s36 : ByteArray, Vc.cell h1 (q35.add (x7.toNat * 1)) = some (Value.string s36) ∧ ∃ q39 : Addr, a6_0 = some q39 ∧ (0 : Int) ≤ x7 ∧ x7 < (n6_1 : Int) ∧ ∃ s40 : ByteArray, Vc.cell h1 (q39.add (x7.toNat * 1)) = some (Value.string s40) ∧ ∀ h2, Cls false h1 h2 → R (Value.bool (slt s36 s40)) h2) (F52_k4 I1 M1 m1 a5_0 n5_1 n5_2 a6_0 n6_1 n6_2 x7 h1 R)
def F52_k5 (a5_0 : Option Addr) (n5_1 : Nat) (n5_2 : Nat) (a6_0 : Option Addr) (n6_1 : Nat) (n6_2 : Nat) (h : Heap) (R : Value → Heap → Prop) : Prop :=
  R (Value.bool (decide (((n5_1 : Int) : Int) < (n6_1 : Int)))) h
def F52_k2 (I1 : Int → Heap → Prop) (M1 : Int → Heap → Nat) (m1 : Nat) (a5_0 : Option Addr) (n5_1 : Nat) (n5_2 : Nat) (a6_0 : Option Addr) (n6_1 : Nat) (n6_2 : Nat) (x7 : Int) (b21 : Bool) (h : Heap) (R : Value → Heap → Prop) : Prop :=
  br b21 (F52_k3 I1 M1 m1 a5_0 n5_1 n5_2 a6_0 n6_1 n6_2 x7 h R) (F52_k5 a5_0 n5_1 n5_2 a6_0 n6_1 n6_2 h R)
def F52_b1 (I1 : Int → Heap → Prop) (M1 : Int → Heap → Nat) (m1 : Nat) (a5_0 : Option Addr) (n5_1 : Nat) (n5_2 : Nat) (a6_0 : Option Addr) (n6_1 : Nat) (n6_2 : Nat) (x7 : Int) (h : Heap) (R : Value → Heap → Prop) : Prop :=
  br (decide ((x7 : Int) < (n5_1 : Int))) (F52_k2 I1 M1 m1 a5_0 n5_1 n5_2 a6_0 n6_1 n6_2 x7 (decide ((x7 : Int) < (n6_1 : Int))) h R) (F52_k2 I1 M1 m1 a5_0 n5_1 n5_2 a6_0 n6_1 n6_2 x7 false h R)
def F52 (s0 : ByteArray) (s1 : ByteArray) (h : Heap) (R : Value → Heap → Prop) : Prop :=
  HCalls Tryd.prog 64 #[Value.string s0] h fun r9 h1 => ∃ a9 : Option Addr, ∃ l9 : Nat, ∃ c9 : Nat, r9 = Value.slice a9 l9 c9 ∧ HCalls Tryd.prog 64 #[Value.string s1] h1 fun r11 h2 => ∃ a11 : Option Addr, ∃ l11 : Nat, ∃ c11 : Nat, r11 = Value.slice a11 l11 c11 ∧ ∀ x7 : Int, x7 = 0 → ∃ (I1 : Int → Heap → Prop) (M1 : Int → Heap → Nat), I1 x7 h2 ∧ ∀ h3 (x7_1 : Int), I1 x7_1 h3 → F52_b1 I1 M1 (M1 x7_1 h3) a9 l9 c9 a11 l11 c11 x7_1 h3 R
def A52 : Ann := { bind := [7], loops := [(3, [(7, .int .i64)])], draws := [(5, 0, 9), (6, 0, 10)] }
theorem F52_ent (s0 : ByteArray) (s1 : ByteArray) (h : Heap) (R : Value → Heap → Prop) (H : F52 s0 s1 h R) : HEnt Tryd.prog 52 #[Value.string s0, Value.string s1] h R :=
  hent A52 mixed Tryd.func52 rfl (by kernel_rfl) (by kernel_rfl) (Eq.mp (by kernel_rfl) H)

/-! ### 53 veneer/veneerref05.In -/
def F53_k2 (s0 : ByteArray) (s1 : ByteArray) (h : Heap) (R : Value → Heap → Prop) : Prop :=
  br (decide (((s1.size : Int) : Int) > (s0.size : Int))) ((0 : Int) ≤ 0 ∧ (0 : Int) ≤ IntKind.i64.wrap ((s0.size : Int) + 1) ∧ IntKind.i64.wrap ((s0.size : Int) + 1) ≤ (s1.size : Int) ∧ s0.size + (⟨#[47]⟩ : ByteArray).size ≤ 9223372036854775807 ∧ R (Value.bool (seq (s1.extract 0 (IntKind.i64.wrap ((s0.size : Int) + 1)).toNat) (s0 ++ (⟨#[47]⟩ : ByteArray)))) h) (R (Value.bool false) h)
def F53_k1 (s0 : ByteArray) (s1 : ByteArray) (b11 : Bool) (h : Heap) (R : Value → Heap → Prop) : Prop :=
  br b11 (R (Value.bool true) h) (F53_k2 s0 s1 h R)
def F53 (s0 : ByteArray) (s1 : ByteArray) (h : Heap) (R : Value → Heap → Prop) : Prop :=
  br (seq s0 (⟨#[]⟩ : ByteArray)) (F53_k1 s0 s1 true h R) (F53_k1 s0 s1 (seq s0 s1) h R)
def A53 : Ann := {  }
theorem F53_ent (s0 : ByteArray) (s1 : ByteArray) (h : Heap) (R : Value → Heap → Prop) (H : F53 s0 s1 h R) : HEnt Tryd.prog 53 #[Value.string s0, Value.string s1] h R :=
  hent A53 mixed Tryd.func53 rfl (by kernel_rfl) (by kernel_rfl) (Eq.mp (by kernel_rfl) H)

/-! ### 62 veneer/veneerref05.Pieces -/
def F62_k3 (I1 : Option Addr → Nat → Nat → Int → Int → Heap → Prop) (M1 : Option Addr → Nat → Nat → Int → Int → Heap → Nat) (m1 : Nat) (s0 : ByteArray) (a3_0 : Option Addr) (n3_1 : Nat) (n3_2 : Nat) (x4 : Int) (x5 : Int) (h : Heap) (R : Value → Heap → Prop) : Prop :=
  ∀ x5_1 : Int, x5_1 = IntKind.i64.wrap (x5 + 1) → I1 a3_0 n3_1 n3_2 x4 x5_1 h ∧ M1 a3_0 n3_1 n3_2 x4 x5_1 h < m1
def F62_k2 (I1 : Option Addr → Nat → Nat → Int → Int → Heap → Prop) (M1 : Option Addr → Nat → Nat → Int → Int → Heap → Nat) (m1 : Nat) (s0 : ByteArray) (a3_0 : Option Addr) (n3_1 : Nat) (n3_2 : Nat) (x4 : Int) (x5 : Int) (h : Heap) (R : Value → Heap → Prop) : Prop :=
  (0 : Int) ≤ x5 ∧ x5 < (s0.size : Int) ∧ br ((bt s0 x5 : Int) == 47) ((0 : Int) ≤ x4 ∧ (x4 : Int) ≤ x5 ∧ x5 ≤ (s0.size : Int) ∧ 1 * 1 ≤ 16777216 ∧ newK h (.cells #[Value.string (s0.extract x4.toNat x5.toNat)] 9) fun b21 h1 => appK Tryd.prog 9 h1 a3_0 n3_1 n3_2 (Value.slice (some (at0 b21)) 1 1) fun a22 l22 c22 h2 => ∀ x4_1 : Int, x4_1 = IntKind.i64.wrap (x5 + 1) → F62_k3 I1 M1 m1 s0 a22 l22 c22 x4_1 x5 h2 R) (F62_k3 I1 M1 m1 s0 a3_0 n3_1 n3_2 x4 x5 h R)
def F62_k4 (s0 : ByteArray) (a3_0 : Option Addr) (n3_1 : Nat) (n3_2 : Nat) (x4 : Int) (h : Heap) (R : Value → Heap → Prop) : Prop :=
  (0 : Int) ≤ x4 ∧ (x4 : Int) ≤ (s0.size : Int) ∧ (s0.size : Int) ≤ (s0.size : Int) ∧ 1 * 1 ≤ 16777216 ∧ newK h (.cells #[Value.string (s0.extract x4.toNat (s0.size : Int).toNat)] 9) fun b29 h1 => appK Tryd.prog 9 h1 a3_0 n3_1 n3_2 (Value.slice (some (at0 b29)) 1 1) fun a30 l30 c30 h2 => R (Value.slice a30 l30 c30) h2
def F62_b1 (I1 : Option Addr → Nat → Nat → Int → Int → Heap → Prop) (M1 : Option Addr → Nat → Nat → Int → Int → Heap → Nat) (m1 : Nat) (s0 : ByteArray) (a2_0 : Option Addr) (n2_1 : Nat) (n2_2 : Nat) (a3_0 : Option Addr) (n3_1 : Nat) (n3_2 : Nat) (x4 : Int) (x5 : Int) (h : Heap) (R : Value → Heap → Prop) : Prop :=
  br (decide ((x5 : Int) < (s0.size : Int))) (F62_k2 I1 M1 m1 s0 a3_0 n3_1 n3_2 x4 x5 h R) (F62_k4 s0 a3_0 n3_1 n3_2 x4 h R)
def F62 (s0 : ByteArray) (h : Heap) (R : Value → Heap → Prop) : Prop :=
  ∀ x4 : Int, x4 = 0 → ∀ x5 : Int, x5 = 0 → ∃ (I1 : Option Addr → Nat → Nat → Int → Int → Heap → Prop) (M1 : Option Addr → Nat → Nat → Int → Int → Heap → Nat), I1 none 0 0 x4 x5 h ∧ ∀ h1 (a3 : Option Addr) (l3 c3 : Nat) (x4_1 : Int) (x5_1 : Int), I1 a3 l3 c3 x4_1 x5_1 h1 → F62_b1 I1 M1 (M1 a3 l3 c3 x4_1 x5_1 h1) s0 none 0 0 a3 l3 c3 x4_1 x5_1 h1 R
def A62 : Ann := { bind := [4, 5], loops := [(4, [(3, .slice), (4, .int .i64), (5, .int .i64)])] }
theorem F62_ent (s0 : ByteArray) (h : Heap) (R : Value → Heap → Prop) (H : F62 s0 h R) : HEnt Tryd.prog 62 #[Value.string s0] h R :=
  hent A62 mixed Tryd.func62 rfl (by kernel_rfl) (by kernel_rfl) (Eq.mp (by kernel_rfl) H)

/-! ### 63 veneer/veneerref05.Part -/
def F63_k5 (I1 : Int → Heap → Prop) (M1 : Int → Heap → Nat) (m1 : Nat) (I3 : Bool → Int → Heap → Prop) (M3 : Bool → Int → Heap → Nat) (m3 : Nat) (s0 : ByteArray) (x3 : Int) (b4 : Bool) (x5 : Int) (h : Heap) (R : Value → Heap → Prop) : Prop :=
  ∀ x5_1 : Int, x5_1 = IntKind.i64.wrap (x5 + 1) → I3 b4 x5_1 h ∧ M3 b4 x5_1 h < m3
def F63_k4 (I1 : Int → Heap → Prop) (M1 : Int → Heap → Nat) (m1 : Nat) (I3 : Bool → Int → Heap → Prop) (M3 : Bool → Int → Heap → Nat) (m3 : Nat) (s0 : ByteArray) (x3 : Int) (b4 : Bool) (x5 : Int) (h : Heap) (R : Value → Heap → Prop) : Prop :=
  br b4 (∀ h1, Cls false h h1 → F63_k5 I1 M1 m1 I3 M3 m3 s0 x3 true x5 h1 R) ((0 : Int) ≤ x5 ∧ x5 < ((⟨#[97, 98, 99, 100, 101, 102, 103, 104, 105, 106, 107, 108, 109, 110, 111, 112, 113, 114, 115, 116, 117, 118, 119, 120, 121, 122, 48, 49, 50, 51, 52, 53, 54, 55, 56, 57, 95, 45, 46]⟩ : ByteArray).size : Int) ∧ (0 : Int) ≤ x3 ∧ x3 < (s0.size : Int) ∧ ∀ h1, Cls false h h1 → F63_k5 I1 M1 m1 I3 M3 m3 s0 x3 ((bt (⟨#[97, 98, 99, 100, 101, 102, 103, 104, 105, 106, 107, 108, 109, 110, 111, 112, 113, 114, 115, 116, 117, 118, 119, 120, 121, 122, 48, 49, 50, 51, 52, 53, 54, 55, 56, 57, 95, 45, 46]⟩ : ByteArray) x5 : Int) == (bt s0 x3)) x5 h1 R)
def F63_k7 (I1 : Int → Heap → Prop) (M1 : Int → Heap → Nat) (m1 : Nat) (s0 : ByteArray) (x3 : Int) (h : Heap) (R : Value → Heap → Prop) : Prop :=
  ∀ x3_1 : Int, x3_1 = IntKind.i64.wrap (x3 + 1) → I1 x3_1 h ∧ M1 x3_1 h < m1
def F63_k6 (I1 : Int → Heap → Prop) (M1 : Int → Heap → Nat) (m1 : Nat) (s0 : ByteArray) (x3 : Int) (b4 : Bool) (h : Heap) (R : Value → Heap → Prop) : Prop :=
  br (!b4) (R (Value.bool false) h) (F63_k7 I1 M1 m1 s0 x3 h R)
def F63_b3 (I1 : Int → Heap → Prop) (M1 : Int → Heap → Nat) (m1 : Nat) (I3 : Bool → Int → Heap → Prop) (M3 : Bool → Int → Heap → Nat) (m3 : Nat) (s0 : ByteArray) (x3 : Int) (b4 : Bool) (x5 : Int) (h : Heap) (R : Value → Heap → Prop) : Prop :=
  br (decide ((x5 : Int) < 39)) (F63_k4 I1 M1 m1 I3 M3 m3 s0 x3 b4 x5 h R) (F63_k6 I1 M1 m1 s0 x3 b4 h R)
def F63_k2 (I1 : Int → Heap → Prop) (M1 : Int → Heap → Nat) (m1 : Nat) (s0 : ByteArray) (x3 : Int) (h : Heap) (R : Value → Heap → Prop) : Prop :=
  ∀ x5 : Int, x5 = 0 → ∃ (I3 : Bool → Int → Heap → Prop) (M3 : Bool → Int → Heap → Nat), I3 false x5 h ∧ ∀ h1 (b4 : Bool) (x5_1 : Int), I3 b4 x5_1 h1 → F63_b3 I1 M1 m1 I3 M3 (M3 b4 x5_1 h1) s0 x3 b4 x5_1 h1 R
def F63_k8 (s0 : ByteArray) (h : Heap) (R : Value → Heap → Prop) : Prop :=
  br (decide (((s0.size : Int) : Int) ≥ 1)) (br (decide (((s0.size : Int) : Int) ≤ 24)) (br (!(seq s0 (⟨#[46]⟩ : ByteArray))) (R (Value.bool (!(seq s0 (⟨#[46, 46]⟩ : ByteArray)))) h) (R (Value.bool false) h)) (R (Value.bool false) h)) (R (Value.bool false) h)
def F63_b1 (I1 : Int → Heap → Prop) (M1 : Int → Heap → Nat) (m1 : Nat) (s0 : ByteArray) (x3 : Int) (h : Heap) (R : Value → Heap → Prop) : Prop :=
  br (decide ((x3 : Int) < (s0.size : Int))) (F63_k2 I1 M1 m1 s0 x3 h R) (F63_k8 s0 h R)
def F63 (s0 : ByteArray) (h : Heap) (R : Value → Heap → Prop) : Prop :=
  ∀ x3 : Int, x3 = 0 → ∃ (I1 : Int → Heap → Prop) (M1 : Int → Heap → Nat), I1 x3 h ∧ ∀ h1 (x3_1 : Int), I1 x3_1 h1 → F63_b1 I1 M1 (M1 x3_1 h1) s0 x3_1 h1 R
def A63 : Ann := { bind := [3, 5], loops := [(2, [(3, .int .i64)]), (6, [(4, .bool), (5, .int .i64)])], draws := [(8, 0, 10)] }
theorem F63_ent (s0 : ByteArray) (h : Heap) (R : Value → Heap → Prop) (H : F63 s0 h R) : HEnt Tryd.prog 63 #[Value.string s0] h R :=
  hent A63 mixed Tryd.func63 rfl (by kernel_rfl) (by kernel_rfl) (Eq.mp (by kernel_rfl) H)

/-! ### 64 veneer/veneerref05.pieces -/
def F64_k1 (s0 : ByteArray) (h : Heap) (R : Value → Heap → Prop) : Prop :=
  HCalls Tryd.prog 62 #[Value.string s0] h fun r6 h1 => ∃ a6 : Option Addr, ∃ l6 : Nat, ∃ c6 : Nat, r6 = Value.slice a6 l6 c6 ∧ R (Value.slice a6 l6 c6) h1
def F64 (s0 : ByteArray) (h : Heap) (R : Value → Heap → Prop) : Prop :=
  br (seq s0 (⟨#[]⟩ : ByteArray)) (R (Value.slice none 0 0) h) (F64_k1 s0 h R)
def A64 : Ann := {  }
theorem F64_ent (s0 : ByteArray) (h : Heap) (R : Value → Heap → Prop) (H : F64 s0 h R) : HEnt Tryd.prog 64 #[Value.string s0] h R :=
  hent A64 mixed Tryd.func64 rfl (by kernel_rfl) (by kernel_rfl) (Eq.mp (by kernel_rfl) H)

end Go.Proofs.YtcfegbpoailbdaaDoor
