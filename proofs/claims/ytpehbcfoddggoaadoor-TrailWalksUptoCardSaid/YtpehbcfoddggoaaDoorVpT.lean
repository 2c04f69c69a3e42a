import Derived.Test.YtpehbcfoddggoaaDoorProg
import Derived.Test.YtpehbcfoddggoaaDoorVcK

set_option linter.unusedVariables false
set_option maxRecDepth 100000
namespace Go.Proofs.YtpehbcfoddggoaaDoor
open Go.Vc
theorem mixed : Tryd.prog.follows .mixedOrders = true := by kernel_rfl
/-! ### 3 veneer/veneerlaw05.TrailOrders -/
def F3 (s0 : ByteArray) (s1 : ByteArray) (h : Heap) (R : Value → Heap → Prop) : Prop :=
  HCalls Tryd.prog 11 #[Value.string s0, Value.string s1] h fun r7 h1 => ∃ b7 : Bool, r7 = Value.bool b7 ∧ HCalls Tryd.prog 12 #[Value.string s0, Value.string s1] h1 fun r10 h2 => ∃ b10 : Bool, r10 = Value.bool b10 ∧ br (b7 == b10) (HCalls Tryd.prog 11 #[Value.string s1, Value.string s0] h2 fun r15 h3 => ∃ b15 : Bool, r15 = Value.bool b15 ∧ HCalls Tryd.prog 12 #[Value.string s1, Value.string s0] h3 fun r18 h4 => ∃ b18 : Bool, r18 = Value.bool b18 ∧ br (b15 == b18) (HCalls Tryd.prog 13 #[Value.string s0, Value.string s1] h4 fun r24 h5 => ∃ b24 : Bool, r24 = Value.bool b24 ∧ HCalls Tryd.prog 14 #[Value.string s0, Value.string s1] h5 fun r27 h6 => ∃ b27 : Bool, r27 = Value.bool b27 ∧ br (b24 == b27) (HCalls Tryd.prog 13 #[Value.string s1, Value.string s0] h6 fun r33 h7 => ∃ b33 : Bool, r33 = Value.bool b33 ∧ HCalls Tryd.prog 14 #[Value.string s1, Value.string s0] h7 fun r36 h8 => ∃ b36 : Bool, r36 = Value.bool b36 ∧ br (b33 == b36) (HCalls Tryd.prog 15 #[] h8 fun r40 h9 => ∃ b40 : Bool, r40 = Value.bool b40 ∧ R (Value.bool b40) h9) (R (Value.bool false) h8)) (R (Value.bool false) h6)) (R (Value.bool false) h4)) (R (Value.bool false) h2)
def A3 : Ann := {  }
theorem F3_ent (s0 : ByteArray) (s1 : ByteArray) (h : Heap) (R : Value → Heap → Prop) (H : F3 s0 s1 h R) : HEnt Tryd.prog 3 #[Value.string s0, Value.string s1] h R :=
  hent A3 mixed Tryd.func3 rfl (by kernel_rfl) (by kernel_rfl) (Eq.mp (by kernel_rfl) H)

/-! ### 4 veneer/veneerlaw05.TrailOne -/
def F4_k2 (s0 : ByteArray) (s1 : ByteArray) (h : Heap) (R : Value → Heap → Prop) : Prop :=
  HCalls Tryd.prog 11 #[Value.string s0, Value.string s0] h fun r23 h1 => ∃ b23 : Bool, r23 = Value.bool b23 ∧ br (!b23) (HCalls Tryd.prog 11 #[Value.string s0, Value.string s1] h1 fun r28 h2 => ∃ b28 : Bool, r28 = Value.bool b28 ∧ HCalls Tryd.prog 11 #[Value.string s1, Value.string s0] h2 fun r31 h3 => ∃ b31 : Bool, r31 = Value.bool b31 ∧ br ((!(b28 == b31)) == (!(seq s0 s1))) (HCalls Tryd.prog 15 #[] h3 fun r39 h4 => ∃ b39 : Bool, r39 = Value.bool b39 ∧ R (Value.bool b39) h4) (R (Value.bool false) h3)) (R (Value.bool false) h1)
def F4_k1 (s0 : ByteArray) (s1 : ByteArray) (b20 : Bool) (h : Heap) (R : Value → Heap → Prop) : Prop :=
  br b20 (R (Value.bool false) h) (F4_k2 s0 s1 h R)
def F4 (s0 : ByteArray) (s1 : ByteArray) (s2 : ByteArray) (h : Heap) (R : Value → Heap → Prop) : Prop :=
  HCalls Tryd.prog 11 #[Value.string s0, Value.string s1] h fun r9 h1 => ∃ b9 : Bool, r9 = Value.bool b9 ∧ br b9 (HCalls Tryd.prog 11 #[Value.string s1, Value.string s2] h1 fun r13 h2 => ∃ b13 : Bool, r13 = Value.bool b13 ∧ br b13 (HCalls Tryd.prog 11 #[Value.string s0, Value.string s2] h2 fun r18 h3 => ∃ b18 : Bool, r18 = Value.bool b18 ∧ F4_k1 s0 s1 (!b18) h3 R) (F4_k1 s0 s1 false h2 R)) (F4_k1 s0 s1 false h1 R)
def A4 : Ann := {  }
theorem F4_ent (s0 : ByteArray) (s1 : ByteArray) (s2 : ByteArray) (h : Heap) (R : Value → Heap → Prop) (H : F4 s0 s1 s2 h R) : HEnt Tryd.prog 4 #[Value.string s0, Value.string s1, Value.string s2] h R :=
  hent A4 mixed Tryd.func4 rfl (by kernel_rfl) (by kernel_rfl) (Eq.mp (by kernel_rfl) H)

/-! ### 6 veneer/veneerlaw05.TrailCleans -/
def F6 (s0 : ByteArray) (s1 : ByteArray) (h : Heap) (R : Value → Heap → Prop) : Prop :=
  HCalls Tryd.prog 16 #[Value.string s0] h fun r15 h1 => ∃ s15_0 : ByteArray, ∃ x15_1 : Int, r15 = Value.tuple #[Value.string s15_0, Value.int .i64 x15_1] ∧ HCalls Tryd.prog 17 #[Value.string s0] h1 fun r20 h2 => ∃ s20_0 : ByteArray, ∃ x20_1 : Int, r20 = Value.tuple #[Value.string s20_0, Value.int .i64 x20_1] ∧ HCalls Tryd.prog 18 #[Value.string s0, Value.string s1] h2 fun r26 h3 => ∃ s26_0 : ByteArray, ∃ x26_1 : Int, r26 = Value.tuple #[Value.string s26_0, Value.int .i64 x26_1] ∧ s0.size + (⟨#[47]⟩ : ByteArray).size ≤ 9223372036854775807 ∧ (s0 ++ (⟨#[47]⟩ : ByteArray)).size + s1.size ≤ 9223372036854775807 ∧ HCalls Tryd.prog 17 #[Value.string ((s0 ++ (⟨#[47]⟩ : ByteArray)) ++ s1)] h3 fun r34 h4 => ∃ s34_0 : ByteArray, ∃ x34_1 : Int, r34 = Value.tuple #[Value.string s34_0, Value.int .i64 x34_1] ∧ br (seq s15_0 s20_0) (br ((x15_1 : Int) == x20_1) (br (seq s26_0 s34_0) (br ((x26_1 : Int) == x34_1) (HCalls Tryd.prog 15 #[] h4 fun r56 h5 => ∃ b56 : Bool, r56 = Value.bool b56 ∧ R (Value.bool b56) h5) (R (Value.bool false) h4)) (R (Value.bool false) h4)) (R (Value.bool false) h4)) (R (Value.bool false) h4)
def A6 : Ann := {  }
theorem F6_ent (s0 : ByteArray) (s1 : ByteArray) (h : Heap) (R : Value → Heap → Prop) (H : F6 s0 s1 h R) : HEnt Tryd.prog 6 #[Value.string s0, Value.string s1] h R :=
  hent A6 mixed Tryd.func6 rfl (by kernel_rfl) (by kernel_rfl) (Eq.mp (by kernel_rfl) H)

/-! ### 7 veneer/veneerlaw05.TrailOnce -/
def F7_k5 (I2 : ByteArray → Int → Heap → Prop) (M2 : ByteArray → Int → Heap → Nat) (m2 : Nat) (s3 : ByteArray) (s5 : ByteArray) (x6 : Int) (s7 : ByteArray) (x8 : Int) (s9 : ByteArray) (a10_0 : Option Addr) (n10_1 : Nat) (n10_2 : Nat) (x47 : Int) (x48 : Int) (h : Heap) (R : Value → Heap → Prop) : Prop :=
  I2 s9 (IntKind.i64.wrap (x48 + 1)) h ∧ M2 s9 (IntKind.i64.wrap (x48 + 1)) h < m2
def F7_k4 (I2 : ByteArray → Int → Heap → Prop) (M2 : ByteArray → Int → Heap → Nat) (m2 : Nat) (s3 : ByteArray) (s5 : ByteArray) (x6 : Int) (s7 : ByteArray) (x8 : Int) (s9 : ByteArray) (a10_0 : Option Addr) (n10_1 : Nat) (n10_2 : Nat) (x11 : Int) (x47 : Int) (x48 : Int) (h : Heap) (R : Value → Heap → Prop) : Prop :=
  ∃ q58 : Addr, a10_0 = some q58 ∧ (0 : Int) ≤ x11 ∧ x11 < (n10_1 : Int) ∧ ∃ s59 : ByteArray, Vc.cell h (q58.add (x11.toNat * 1)) = some (Value.string s59) ∧ s9.size + s59.size ≤ 9223372036854775807 ∧ F7_k5 I2 M2 m2 s3 s5 x6 s7 x8 (s9 ++ s59) a10_0 n10_1 n10_2 x47 x48 h R
def F7_k3 (I2 : ByteArray → Int → Heap → Prop) (M2 : ByteArray → Int → Heap → Nat) (m2 : Nat) (s3 : ByteArray) (s5 : ByteArray) (x6 : Int) (s7 : ByteArray) (x8 : Int) (s9 : ByteArray) (a10_0 : Option Addr) (n10_1 : Nat) (n10_2 : Nat) (x47 : Int) (x48 : Int) (h : Heap) (R : Value → Heap → Prop) : Prop :=
  br (decide ((x48 : Int) > 0)) (s9.size + (⟨#[47]⟩ : ByteArray).size ≤ 9223372036854775807 ∧ F7_k4 I2 M2 m2 s3 s5 x6 s7 x8 (s9 ++ (⟨#[47]⟩ : ByteArray)) a10_0 n10_1 n10_2 x48 x47 x48 h R) (F7_k4 I2 M2 m2 s3 s5 x6 s7 x8 s9 a10_0 n10_1 n10_2 x48 x47 x48 h R)
def F7_k6 (s3 : ByteArray) (s5 : ByteArray) (x6 : Int) (s7 : ByteArray) (x8 : Int) (s9 : ByteArray) (a10_0 : Option Addr) (n10_1 : Nat) (n10_2 : Nat) (h : Heap) (R : Value → Heap → Prop) : Prop :=
  br (seq s5 s3) (br ((x6 : Int) == 0) (br (seq s7 s3) (br ((x8 : Int) == 0) (br (seq s9 s3) (br (decide (((n10_1 : Int) : Int) ≤ 8)) (HCalls Tryd.prog 15 #[] h fun r89 h1 => ∃ b89 : Bool, r89 = Value.bool b89 ∧ R (Value.bool b89) h1) (R (Value.bool false) h)) (R (Value.bool false) h)) (R (Value.bool false) h)) (R (Value.bool false) h)) (R (Value.bool false) h)) (R (Value.bool false) h)
def F7_b2 (I2 : ByteArray → Int → Heap → Prop) (M2 : ByteArray → Int → Heap → Nat) (m2 : Nat) (s3 : ByteArray) (s5 : ByteArray) (x6 : Int) (s7 : ByteArray) (x8 : Int) (s9 : ByteArray) (a10_0 : Option Addr) (n10_1 : Nat) (n10_2 : Nat) (x47 : Int) (x48 : Int) (h : Heap) (R : Value → Heap → Prop) : Prop :=
  br (decide ((x48 : Int) < x47)) (F7_k3 I2 M2 m2 s3 s5 x6 s7 x8 s9 a10_0 n10_1 n10_2 x47 x48 h R) (F7_k6 s3 s5 x6 s7 x8 s9 a10_0 n10_1 n10_2 h R)
def F7_k1 (s3 : ByteArray) (h : Heap) (R : Value → Heap → Prop) : Prop :=
  HCalls Tryd.prog 16 #[Value.string s3] h fun r34 h1 => ∃ s34_0 : ByteArray, ∃ x34_1 : Int, r34 = Value.tuple #[Value.string s34_0, Value.int .i64 x34_1] ∧ (⟨#[47]⟩ : ByteArray).size + s3.size ≤ 9223372036854775807 ∧ ((⟨#[47]⟩ : ByteArray) ++ s3).size + (⟨#[47]⟩ : ByteArray).size ≤ 9223372036854775807 ∧ HCalls Tryd.prog 16 #[Value.string (((⟨#[47]⟩ : ByteArray) ++ s3) ++ (⟨#[47]⟩ : ByteArray))] h1 fun r41 h2 => ∃ s41_0 : ByteArray, ∃ x41_1 : Int, r41 = Value.tuple #[Value.string s41_0, Value.int .i64 x41_1] ∧ HCalls Tryd.prog 19 #[Value.string s3] h2 fun r45 h3 => ∃ a45 : Option Addr, ∃ l45 : Nat, ∃ c45 : Nat, r45 = Value.slice a45 l45 c45 ∧ ∃ (I2 : ByteArray → Int → Heap → Prop) (M2 : ByteArray → Int → Heap → Nat), I2 (⟨#[]⟩ : ByteArray) 0 h3 ∧ ∀ h4 (s9 : ByteArray) (x48 : Int), I2 s9 x48 h4 → F7_b2 I2 M2 (M2 s9 x48 h4) s3 s34_0 x34_1 s41_0 x41_1 s9 a45 l45 c45 (l45 : Int) x48 h4 R
def F7 (s0 : ByteArray) (h : Heap) (R : Value → Heap → Prop) : Prop :=
  HCalls Tryd.prog 16 #[Value.string s0] h fun r14 h1 => ∃ s14_0 : ByteArray, ∃ x14_1 : Int, r14 = Value.tuple #[Value.string s14_0, Value.int .i64 x14_1] ∧ br ((x14_1 : Int) != 0) (br (seq s14_0 (⟨#[]⟩ : ByteArray)) (br ((x14_1 : Int) == 12) (HCalls Tryd.prog 15 #[] h1 fun r30 h2 => ∃ b30 : Bool, r30 = Value.bool b30 ∧ R (Value.bool b30) h2) (br ((x14_1 : Int) == 3) (HCalls Tryd.prog 15 #[] h1 fun r30 h2 => ∃ b30 : Bool, r30 = Value.bool b30 ∧ R (Value.bool b30) h2) (R (Value.bool false) h1))) (R (Value.bool false) h1)) (F7_k1 s14_0 h1 R)
def A7 : Ann := { loops := [(9, [(9, .str), (48, .int .i64)])] }
theorem F7_ent (s0 : ByteArray) (h : Heap) (R : Value → Heap → Prop) (H : F7 s0 h R) : HEnt Tryd.prog 7 #[Value.string s0] h R :=
  hent A7 mixed Tryd.func7 rfl (by kernel_rfl) (by kernel_rfl) (Eq.mp (by kernel_rfl) H)

/-! ### 9 veneer/veneerlaw05.TrailTells -/
def F9 (s0 : ByteArray) (h : Heap) (R : Value → Heap → Prop) : Prop :=
  HCalls Tryd.prog 23 #[Value.string s0] h fun r9 h1 => ∃ s9_0 : ByteArray, ∃ b9_1 : Bool, r9 = Value.tuple #[Value.string s9_0, Value.bool b9_1] ∧ HCalls Tryd.prog 24 #[Value.string s0] h1 fun r14 h2 => ∃ s14_0 : ByteArray, ∃ b14_1 : Bool, r14 = Value.tuple #[Value.string s14_0, Value.bool b14_1] ∧ HCalls Tryd.prog 19 #[Value.string s0] h2 fun r18 h3 => ∃ a18 : Option Addr, ∃ l18 : Nat, ∃ c18 : Nat, r18 = Value.slice a18 l18 c18 ∧ HCalls Tryd.prog 25 #[Value.string s0] h3 fun r20 h4 => ∃ a20 : Option Addr, ∃ l20 : Nat, ∃ c20 : Nat, r20 = Value.slice a20 l20 c20 ∧ HCalls Tryd.prog 22 #[Value.slice a18 l18 c18, Value.slice a20 l20 c20] h4 fun r21 h5 => ∃ b21 : Bool, r21 = Value.bool b21 ∧ br b21 (br (seq s9_0 s14_0) (br (b9_1 == b14_1) (HCalls Tryd.prog 15 #[] h5 fun r33 h6 => ∃ b33 : Bool, r33 = Value.bool b33 ∧ R (Value.bool b33) h6) (R (Value.bool false) h5)) (R (Value.bool false) h5)) (R (Value.bool false) h5)
def A9 : Ann := {  }
theorem F9_ent (s0 : ByteArray) (h : Heap) (R : Value → Heap → Prop) (H : F9 s0 h R) : HEnt Tryd.prog 9 #[Value.string s0] h R :=
  hent A9 mixed Tryd.func9 rfl (by kernel_rfl) (by kernel_rfl) (Eq.mp (by kernel_rfl) H)

/-! ### 11 veneer/trail.Less -/
def F11_k5 (I3 : Int → Heap → Prop) (M3 : Int → Heap → Nat) (m3 : Nat) (s0 : ByteArray) (s1 : ByteArray) (x26 : Int) (x27 : Int) (h : Heap) (R : Value → Heap → Prop) : Prop :=
  I3 (IntKind.i64.wrap (x27 + 1)) h ∧ M3 (IntKind.i64.wrap (x27 + 1)) h < m3
def F11_k8 (I3 : Int → Heap → Prop) (M3 : Int → Heap → Nat) (m3 : Nat) (x7 : Int) (x8 : Int) (h : Heap) (R : Value → Heap → Prop) : Prop :=
  R (Value.bool (decide ((x7 : Int) < x8))) h
def F11_k7 (I3 : Int → Heap → Prop) (M3 : Int → Heap → Nat) (m3 : Nat) (x7 : Int) (x8 : Int) (b44 : Bool) (h : Heap) (R : Value → Heap → Prop) : Prop :=
  br b44 (R (Value.bool ((x7 : Int) == 47)) h) (F11_k8 I3 M3 m3 x7 x8 h R)
def F11_k6 (I3 : Int → Heap → Prop) (M3 : Int → Heap → Nat) (m3 : Nat) (x7 : Int) (x8 : Int) (h : Heap) (R : Value → Heap → Prop) : Prop :=
  br ((x7 : Int) == 47) (F11_k7 I3 M3 m3 x7 x8 true h R) (F11_k7 I3 M3 m3 x7 x8 ((x8 : Int) == 47) h R)
def F11_k4 (I3 : Int → Heap → Prop) (M3 : Int → Heap → Nat) (m3 : Nat) (s0 : ByteArray) (s1 : ByteArray) (x26 : Int) (x27 : Int) (h : Heap) (R : Value → Heap → Prop) : Prop :=
  (0 : Int) ≤ x27 ∧ x27 < (s0.size : Int) ∧ (0 : Int) ≤ x27 ∧ x27 < (s1.size : Int) ∧ ∀ h1, Cls false h h1 → br ((bt s0 x27 : Int) == (bt s1 x27)) (F11_k5 I3 M3 m3 s0 s1 x26 x27 h1 R) (F11_k6 I3 M3 m3 (bt s0 x27) (bt s1 x27) h1 R)
def F11_k9 (s0 : ByteArray) (s1 : ByteArray) (h : Heap) (R : Value → Heap → Prop) : Prop :=
  R (Value.bool (decide (((s0.size : Int) : Int) < (s1.size : Int)))) h
def F11_b3 (I3 : Int → Heap → Prop) (M3 : Int → Heap → Nat) (m3 : Nat) (s0 : ByteArray) (s1 : ByteArray) (x26 : Int) (x27 : Int) (h : Heap) (R : Value → Heap → Prop) : Prop :=
  br (decide ((x27 : Int) < x26)) (F11_k4 I3 M3 m3 s0 s1 x26 x27 h R) (F11_k9 s0 s1 h R)
def F11_k2 (s0 : ByteArray) (s1 : ByteArray) (h : Heap) (R : Value → Heap → Prop) : Prop :=
  ∃ (I3 : Int → Heap → Prop) (M3 : Int → Heap → Nat), I3 0 h ∧ ∀ h1 (x27 : Int), I3 x27 h1 → F11_b3 I3 M3 (M3 x27 h1) s0 s1 (minI (s0.size : Int) (s1.size : Int)) x27 h1 R
def F11_k1 (s0 : ByteArray) (s1 : ByteArray) (b14 : Bool) (h : Heap) (R : Value → Heap → Prop) : Prop :=
  br b14 (br (seq s0 (⟨#[]⟩ : ByteArray)) (R (Value.bool (!(seq s1 (⟨#[]⟩ : ByteArray)))) h) (R (Value.bool false) h)) (F11_k2 s0 s1 h R)
def F11 (s0 : ByteArray) (s1 : ByteArray) (h : Heap) (R : Value → Heap → Prop) : Prop :=
  br (seq s0 (⟨#[]⟩ : ByteArray)) (F11_k1 s0 s1 true h R) (F11_k1 s0 s1 (seq s1 (⟨#[]⟩ : ByteArray)) h R)
def A11 : Ann := { loops := [(5, [(27, .int .i64)])], draws := [(7, 0, 8)] }
theorem F11_ent (s0 : ByteArray) (s1 : ByteArray) (h : Heap) (R : Value → Heap → Prop) (H : F11 s0 s1 h R) : HEnt Tryd.prog 11 #[Value.string s0, Value.string s1] h R :=
  hent A11 mixed Tryd.func11 rfl (by kernel_rfl) (by kernel_rfl) (Eq.mp (by kernel_rfl) H)

/-! ### 12 veneer/veneerref05.Less -/
def F12_k4 (I1 : Int → Heap → Prop) (M1 : Int → Heap → Nat) (m1 : Nat) (a5_0 : Option Addr) (n5_1 : Nat) (n5_2 : Nat) (a6_0 : Option Addr) (n6_1 : Nat) (n6_2 : Nat) (x7 : Int) (h : Heap) (R : Value → Heap → Prop) : Prop :=
  ∀ x7_1 : Int, x7_1 = IntKind.i64.wrap (x7 + 1) → I1 x7_1 h ∧ M1 x7_1 h < m1
def F12_k3 (I1 : Int → Heap → Prop) (M1 : Int → Heap → Nat) (m1 : Nat) (a5_0 : Option Addr) (n5_1 : Nat) (n5_2 : Nat) (a6_0 : Option Addr) (n6_1 : Nat) (n6_2 : Nat) (x7 : Int) (h : Heap) (R : Value → Heap → Prop) : Prop :=
  ∃ q26 : Addr, a5_0 = some q26 ∧ (0 : Int) ≤ x7 ∧ x7 < (n5_1 : Int) ∧ ∃ s27 : ByteArray, Vc.cell h (q26.add (x7.toNat * 1)) = some (Value.string s27) ∧ ∃ q30 : Addr, a6_0 = some q30 ∧ (0 : Int) ≤ x7 ∧ x7 < (n6_1 : Int) ∧ ∃ s31 : ByteArray, Vc.cell h (q30.add (x7.toNat * 1)) = some (Value.string s31) ∧ ∀ h1, Cls false h h1 → br (!(seq s27 s31)) (∃ q35 : Addr, a5_0 = some q35 ∧ (0 : Int) ≤ x7 ∧ x7 < (n5_1 : Int) ∧ ∃ s36 : ByteArray, Vc.cell h1 (q35.add (x7.toNat * 1)) = some (Value.string s36) ∧ ∃ q39 : Addr, a6_0 = some q39 ∧ (0 : Int) ≤ x7 ∧ x7 < (n6_1 : Int) ∧ ∃ s40 : ByteArray, Vc.cell h1 (q39.add (x7.toNat * 1)) = some (Value.string s40) ∧ ∀ h2, Cls false h1 h2 → R (Value.bool (slt s36 s40)) h2) (F12_k4 I1 M1 m1 a5_0 n5_1 n5_2 a6_0 n6_1 n6_2 x7 h1 R)
def F12_k5 (a5_0 : Option Addr) (n5_1 : Nat) (n5_2 : Nat) (a6_0 : Option Addr) (n6_1 : Nat) (n6_2 : Nat) (h : Heap) (R : Value → Heap → Prop) : Prop :=
  R (Value.bool (decide (((n5_1 : Int) : Int) < (n6_1 : Int)))) h
def F12_k2 (I1 : Int → Heap → Prop) (M1 : Int → Heap → Nat) (m1 : Nat) (a5_0 : Option Addr) (n5_1 : Nat) (n5_2 : Nat) (a6_0 : Option Addr) (n6_1 : Nat) (n6_2 : Nat) (x7 : Int) (b21 : Bool) (h : Heap) (R : Value → Heap → Prop) : Prop :=
  br b21 (F12_k3 I1 M1 m1 a5_0 n5_1 n5_2 a6_0 n6_1 n6_2 x7 h R) (F12_k5 a5_0 n5_1 n5_2 a6_0 n6_1 n6_2 h R)
def F12_b1 (I1 : Int → Heap → Prop) (M1 : Int → Heap → Nat) (m1 : Nat) (a5_0 : Option Addr) (n5_1 : Nat) (n5_2 : Nat) (a6_0 : Option Addr) (n6_1 : Nat) (n6_2 : Nat) (x7 : Int) (h : Heap) (R : Value → Heap → Prop) : Prop :=
  br (decide ((x7 : Int) < (n5_1 : Int))) (F12_k2 I1 M1 m1 a5_0 n5_1 n5_2 a6_0 n6_1 n6_2 x7 (decide ((x7 : Int) < (n6_1 : Int))) h R) (F12_k2 I1 M1 m1 a5_0 n5_1 n5_2 a6_0 n6_1 n6_2 x7 false h R)
def F12 (s0 : ByteArray) (s1 : ByteArray) (h : Heap) (R : Value → Heap → Prop) : Prop :=
  HCalls Tryd.prog 26 #[Value.string s0] h fun r9 h1 => ∃ a9 : Option Addr, ∃ l9 : Nat, ∃ c9 : Nat, r9 = Value.slice a9 l9 c9 ∧ HCalls Tryd.prog 26 #[Value.string s1] h1 fun r11 h2 => ∃ a11 : Option Addr, ∃ l11 : Nat, ∃ c11 : Nat, r11 = Value.slice a11 l11 c11 ∧ ∀ x7 : Int, x7 = 0 → ∃ (I1 : Int → Heap → Prop) (M1 : Int → Heap → Nat), I1 x7 h2 ∧ ∀ h3 (x7_1 : Int), I1 x7_1 h3 → F12_b1 I1 M1 (M1 x7_1 h3) a9 l9 c9 a11 l11 c11 x7_1 h3 R
def A12 : Ann := { bind := [7], loops := [(3, [(7, .int .i64)])], draws := [(5, 0, 9), (6, 0, 10)] }
theorem F12_ent (s0 : ByteArray) (s1 : ByteArray) (h : Heap) (R : Value → Heap → Prop) (H : F12 s0 s1 h R) : HEnt Tryd.prog 12 #[Value.string s0, Value.string s1] h R :=
  hent A12 mixed Tryd.func12 rfl (by kernel_rfl) (by kernel_rfl) (Eq.mp (by kernel_rfl) H)

/-! ### 13 veneer/trail.In -/
def F13 (s0 : ByteArray) (s1 : ByteArray) (h : Heap) (R : Value → Heap → Prop) : Prop :=
  br (seq s0 (⟨#[]⟩ : ByteArray)) (R (Value.bool true) h) (br (seq s1 s0) (R (Value.bool true) h) (br (decide (((s1.size : Int) : Int) > (s0.size : Int))) ((0 : Int) ≤ 0 ∧ (0 : Int) ≤ (s0.size : Int) ∧ (s0.size : Int) ≤ (s1.size : Int) ∧ br (seq (s1.extract 0 (s0.size : Int).toNat) s0) ((0 : Int) ≤ (s0.size : Int) ∧ (s0.size : Int) < (s1.size : Int) ∧ R (Value.bool ((bt s1 (s0.size : Int) : Int) == 47)) h) (R (Value.bool false) h)) (R (Value.bool false) h)))
def A13 : Ann := {  }
theorem F13_ent (s0 : ByteArray) (s1 : ByteArray) (h : Heap) (R : Value → Heap → Prop) (H : F13 s0 s1 h R) : HEnt Tryd.prog 13 #[Value.string s0, Value.string s1] h R :=
  hent A13 mixed Tryd.func13 rfl (by kernel_rfl) (by kernel_rfl) (Eq.mp (by kernel_rfl) H)

/-! ### 14 veneer/veneerref05.In -/
def F14_k2 (s0 : ByteArray) (s1 : ByteArray) (h : Heap) (R : Value → Heap → Prop) : Prop :=
  br (decide (((s1.size : Int) : Int) > (s0.size : Int))) ((0 : Int) ≤ 0 ∧ (0 : Int) ≤ IntKind.i64.wrap ((s0.size : Int) + 1) ∧ IntKind.i64.wrap ((s0.size : Int) + 1) ≤ (s1.size : Int) ∧ s0.size + (⟨#[47]⟩ : ByteArray).size ≤ 9223372036854775807 ∧ R (Value.bool (seq (s1.extract 0 (IntKind.i64.wrap ((s0.size : Int) + 1)).toNat) (s0 ++ (⟨#[47]⟩ : ByteArray)))) h) (R (Value.bool false) h)
def F14_k1 (s0 : ByteArray) (s1 : ByteArray) (b11 : Bool) (h : Heap) (R : Value → Heap → Prop) : Prop :=
  br b11 (R (Value.bool true) h) (F14_k2 s0 s1 h R)
def F14 (s0 : ByteArray) (s1 : ByteArray) (h : Heap) (R : Value → Heap → Prop) : Prop :=
  br (seq s0 (⟨#[]⟩ : ByteArray)) (F14_k1 s0 s1 true h R) (F14_k1 s0 s1 (seq s0 s1) h R)
def A14 : Ann := {  }
theorem F14_ent (s0 : ByteArray) (s1 : ByteArray) (h : Heap) (R : Value → Heap → Prop) (H : F14 s0 s1 h R) : HEnt Tryd.prog 14 #[Value.string s0, Value.string s1] h R :=
  hent A14 mixed Tryd.func14 rfl (by kernel_rfl) (by kernel_rfl) (Eq.mp (by kernel_rfl) H)

/-! ### 15 veneer/veneerlaw05.works -/
def F15 (h : Heap) (R : Value → Heap → Prop) : Prop :=
  HCalls Tryd.prog 16 #[Value.string (⟨#[47, 117, 115, 114, 47, 47, 46, 47, 108, 105, 98, 47, 46, 46, 47, 98, 105, 110, 47]⟩ : ByteArray)] h fun r4 h1 => ∃ s4_0 : ByteArray, ∃ x4_1 : Int, r4 = Value.tuple #[Value.string s4_0, Value.int .i64 x4_1] ∧ br (seq s4_0 (⟨#[117, 115, 114, 47, 98, 105, 110]⟩ : ByteArray)) (br ((x4_1 : Int) == 0) (HCalls Tryd.prog 13 #[Value.string (⟨#[117, 115, 114]⟩ : ByteArray), Value.string s4_0] h1 fun r15 h2 => ∃ b15 : Bool, r15 = Value.bool b15 ∧ br b15 (HCalls Tryd.prog 13 #[Value.string (⟨#[117, 115, 114]⟩ : ByteArray), Value.string (⟨#[117, 115, 114, 120]⟩ : ByteArray)] h2 fun r18 h3 => ∃ b18 : Bool, r18 = Value.bool b18 ∧ br (!b18) (HCalls Tryd.prog 11 #[Value.string (⟨#[97, 47, 98]⟩ : ByteArray), Value.string (⟨#[97, 45, 98]⟩ : ByteArray)] h3 fun r22 h4 => ∃ b22 : Bool, r22 = Value.bool b22 ∧ R (Value.bool b22) h4) (R (Value.bool false) h3)) (R (Value.bool false) h2)) (R (Value.bool false) h1)) (R (Value.bool false) h1)
def A15 : Ann := {  }
theorem F15_ent (h : Heap) (R : Value → Heap → Prop) (H : F15 h R) : HEnt Tryd.prog 15 #[] h R :=
  hent A15 mixed Tryd.func15 rfl (by kernel_rfl) (by kernel_rfl) (Eq.mp (by kernel_rfl) H)

/-! ### 16 veneer/trail.Clean -/
def F16_k4 (I1 : Option Addr → Nat → Nat → Int → Heap → Prop) (M1 : Option Addr → Nat → Nat → Int → Heap → Nat) (m1 : Nat) (a4_0 : Option Addr) (n4_1 : Nat) (n4_2 : Nat) (a8_0 : Option Addr) (n8_1 : Nat) (n8_2 : Nat) (x9 : Int) (x10 : Int) (h : Heap) (R : Value → Heap → Prop) : Prop :=
  I1 a4_0 n4_1 n4_2 (IntKind.i64.wrap (x10 + 1)) h ∧ M1 a4_0 n4_1 n4_2 (IntKind.i64.wrap (x10 + 1)) h < m1
def F16_k5 (I1 : Option Addr → Nat → Nat → Int → Heap → Prop) (M1 : Option Addr → Nat → Nat → Int → Heap → Nat) (m1 : Nat) (a4_0 : Option Addr) (n4_1 : Nat) (n4_2 : Nat) (a8_0 : Option Addr) (n8_1 : Nat) (n8_2 : Nat) (x9 : Int) (x10 : Int) (h : Heap) (R : Value → Heap → Prop) : Prop :=
  (0 : Int) ≤ 0 ∧ (0 : Int) ≤ IntKind.i64.wrap ((n4_1 : Int) - 1) ∧ IntKind.i64.wrap ((n4_1 : Int) - 1) ≤ (n4_2 : Int) ∧ F16_k4 I1 M1 m1 (cutAt n4_2 0 1 a4_0) (((IntKind.i64.wrap ((n4_1 : Int) - 1)).toNat) - 0) (n4_2 - 0) a8_0 n8_1 n8_2 x9 x10 h R
def F16_k3 (I1 : Option Addr → Nat → Nat → Int → Heap → Prop) (M1 : Option Addr → Nat → Nat → Int → Heap → Nat) (m1 : Nat) (a4_0 : Option Addr) (n4_1 : Nat) (n4_2 : Nat) (s6 : ByteArray) (a8_0 : Option Addr) (n8_1 : Nat) (n8_2 : Nat) (x9 : Int) (x10 : Int) (b14 : Bool) (h : Heap) (R : Value → Heap → Prop) : Prop :=
  br b14 (F16_k4 I1 M1 m1 a4_0 n4_1 n4_2 a8_0 n8_1 n8_2 x9 x10 h R) (br (seq s6 (⟨#[46, 46]⟩ : ByteArray)) (br (((n4_1 : Int) : Int) == 0) (R (Value.tuple #[Value.string (⟨#[]⟩ : ByteArray), Value.int .i64 12]) h) (F16_k5 I1 M1 m1 a4_0 n4_1 n4_2 a8_0 n8_1 n8_2 x9 x10 h R)) (HCalls Tryd.prog 28 #[Value.string s6] h fun r34 h1 => ∃ b34 : Bool, r34 = Value.bool b34 ∧ br b34 (1 * 1 ≤ 16777216 ∧ newK h1 (.cells #[Value.string s6] 9) fun b37 h2 => appK Tryd.prog 9 h2 a4_0 n4_1 n4_2 (Value.slice (some (at0 b37)) 1 1) fun a38 l38 c38 h3 => F16_k4 I1 M1 m1 a38 l38 c38 a8_0 n8_1 n8_2 x9 x10 h3 R) (R (Value.tuple #[Value.string (⟨#[]⟩ : ByteArray), Value.int .i64 12]) h1)))
def F16_k2 (I1 : Option Addr → Nat → Nat → Int → Heap → Prop) (M1 : Option Addr → Nat → Nat → Int → Heap → Nat) (m1 : Nat) (a4_0 : Option Addr) (n4_1 : Nat) (n4_2 : Nat) (a8_0 : Option Addr) (n8_1 : Nat) (n8_2 : Nat) (x9 : Int) (x10 : Int) (h : Heap) (R : Value → Heap → Prop) : Prop :=
  ∃ q12 : Addr, a8_0 = some q12 ∧ (0 : Int) ≤ x10 ∧ x10 < (n8_1 : Int) ∧ ∃ s13 : ByteArray, Vc.cell h (q12.add (x10.toNat * 1)) = some (Value.string s13) ∧ br (seq s13 (⟨#[]⟩ : ByteArray)) (F16_k3 I1 M1 m1 a4_0 n4_1 n4_2 s13 a8_0 n8_1 n8_2 x9 x10 true h R) (F16_k3 I1 M1 m1 a4_0 n4_1 n4_2 s13 a8_0 n8_1 n8_2 x9 x10 (seq s13 (⟨#[46]⟩ : ByteArray)) h R)
def F16_k7 (a4_0 : Option Addr) (n4_1 : Nat) (n4_2 : Nat) (h : Heap) (R : Value → Heap → Prop) : Prop :=
  HCalls Tryd.prog 29 #[Value.slice a4_0 n4_1 n4_2, Value.string (⟨#[47]⟩ : ByteArray)] h fun r44 h1 => ∃ s44 : ByteArray, r44 = Value.string s44 ∧ R (Value.tuple #[Value.string s44, Value.int .i64 0]) h1
def F16_k6 (a4_0 : Option Addr) (n4_1 : Nat) (n4_2 : Nat) (h : Heap) (R : Value → Heap → Prop) : Prop :=
  br (decide (((n4_1 : Int) : Int) > 8)) (R (Value.tuple #[Value.string (⟨#[]⟩ : ByteArray), Value.int .i64 3]) h) (F16_k7 a4_0 n4_1 n4_2 h R)
def F16_b1 (I1 : Option Addr → Nat → Nat → Int → Heap → Prop) (M1 : Option Addr → Nat → Nat → Int → Heap → Nat) (m1 : Nat) (s0 : ByteArray) (a4_0 : Option Addr) (n4_1 : Nat) (n4_2 : Nat) (a8_0 : Option Addr) (n8_1 : Nat) (n8_2 : Nat) (x9 : Int) (x10 : Int) (h : Heap) (R : Value → Heap → Prop) : Prop :=
  br (decide ((x10 : Int) < x9)) (F16_k2 I1 M1 m1 a4_0 n4_1 n4_2 a8_0 n8_1 n8_2 x9 x10 h R) (F16_k6 a4_0 n4_1 n4_2 h R)
def F16 (s0 : ByteArray) (h : Heap) (R : Value → Heap → Prop) : Prop :=
  HCalls Tryd.prog 27 #[Value.string s0, Value.string (⟨#[47]⟩ : ByteArray)] h fun r8 h1 => ∃ a8 : Option Addr, ∃ l8 : Nat, ∃ c8 : Nat, r8 = Value.slice a8 l8 c8 ∧ ∃ (I1 : Option Addr → Nat → Nat → Int → Heap → Prop) (M1 : Option Addr → Nat → Nat → Int → Heap → Nat), I1 none 0 0 0 h1 ∧ ∀ h2 (a4 : Option Addr) (l4 c4 : Nat) (x10 : Int), I1 a4 l4 c4 x10 h2 → F16_b1 I1 M1 (M1 a4 l4 c4 x10 h2) s0 a4 l4 c4 a8 l8 c8 (l8 : Int) x10 h2 R
def A16 : Ann := { loops := [(3, [(4, .slice), (10, .int .i64)])] }
theorem F16_ent (s0 : ByteArray) (h : Heap) (R : Value → Heap → Prop) (H : F16 s0 h R) : HEnt Tryd.prog 16 #[Value.string s0] h R :=
  hent A16 mixed Tryd.func16 rfl (by kernel_rfl) (by kernel_rfl) (Eq.mp (by kernel_rfl) H)

/-! ### 17 veneer/veneerref05.Clean -/
def F17_k4 (I1 : Option Addr → Nat → Nat → Int → Heap → Prop) (M1 : Option Addr → Nat → Nat → Int → Heap → Nat) (m1 : Nat) (a4_0 : Option Addr) (n4_1 : Nat) (n4_2 : Nat) (a5_0 : Option Addr) (n5_1 : Nat) (n5_2 : Nat) (x6 : Int) (h : Heap) (R : Value → Heap → Prop) : Prop :=
  ∀ x6_1 : Int, x6_1 = IntKind.i64.wrap (x6 + 1) → I1 a4_0 n4_1 n4_2 x6_1 h ∧ M1 a4_0 n4_1 n4_2 x6_1 h < m1
def F17_k6 (I1 : Option Addr → Nat → Nat → Int → Heap → Prop) (M1 : Option Addr → Nat → Nat → Int → Heap → Nat) (m1 : Nat) (a4_0 : Option Addr) (n4_1 : Nat) (n4_2 : Nat) (a5_0 : Option Addr) (n5_1 : Nat) (n5_2 : Nat) (x6 : Int) (h : Heap) (R : Value → Heap → Prop) : Prop :=
  0 * 1 ≤ 16777216 ∧ newK h (.cells #[] 9) fun b35 h1 => (0 : Int) ≤ 0 ∧ (0 : Int) ≤ IntKind.i64.wrap ((n4_1 : Int) - 1) ∧ IntKind.i64.wrap ((n4_1 : Int) - 1) ≤ (n4_2 : Int) ∧ appK Tryd.prog 9 h1 (some (at0 b35)) 0 0 (Value.slice (cutAt n4_2 0 1 a4_0) (((IntKind.i64.wrap ((n4_1 : Int) - 1)).toNat) - 0) (n4_2 - 0)) fun a41 l41 c41 h2 => F17_k4 I1 M1 m1 a41 l41 c41 a5_0 n5_1 n5_2 x6 h2 R
def F17_k8 (I1 : Option Addr → Nat → Nat → Int → Heap → Prop) (M1 : Option Addr → Nat → Nat → Int → Heap → Nat) (m1 : Nat) (a4_0 : Option Addr) (n4_1 : Nat) (n4_2 : Nat) (a5_0 : Option Addr) (n5_1 : Nat) (n5_2 : Nat) (x6 : Int) (h : Heap) (R : Value → Heap → Prop) : Prop :=
  ∃ q51 : Addr, a5_0 = some q51 ∧ (0 : Int) ≤ x6 ∧ x6 < (n5_1 : Int) ∧ ∃ s52 : ByteArray, Vc.cell h (q51.add (x6.toNat * 1)) = some (Value.string s52) ∧ 1 * 1 ≤ 16777216 ∧ newK h (.cells #[Value.string s52] 9) fun b53 h1 => appK Tryd.prog 9 h1 a4_0 n4_1 n4_2 (Value.slice (some (at0 b53)) 1 1) fun a54 l54 c54 h2 => F17_k4 I1 M1 m1 a54 l54 c54 a5_0 n5_1 n5_2 x6 h2 R
def F17_k7 (I1 : Option Addr → Nat → Nat → Int → Heap → Prop) (M1 : Option Addr → Nat → Nat → Int → Heap → Nat) (m1 : Nat) (a4_0 : Option Addr) (n4_1 : Nat) (n4_2 : Nat) (a5_0 : Option Addr) (n5_1 : Nat) (n5_2 : Nat) (x6 : Int) (h : Heap) (R : Value → Heap → Prop) : Prop :=
  ∃ q44 : Addr, a5_0 = some q44 ∧ (0 : Int) ≤ x6 ∧ x6 < (n5_1 : Int) ∧ ∃ s45 : ByteArray, Vc.cell h (q44.add (x6.toNat * 1)) = some (Value.string s45) ∧ HCalls Tryd.prog 31 #[Value.string s45] h fun r46 h1 => ∃ b46 : Bool, r46 = Value.bool b46 ∧ br (!b46) (R (Value.tuple #[Value.string (⟨#[]⟩ : ByteArray), Value.int .i64 12]) h1) (F17_k8 I1 M1 m1 a4_0 n4_1 n4_2 a5_0 n5_1 n5_2 x6 h1 R)
def F17_k5 (I1 : Option Addr → Nat → Nat → Int → Heap → Prop) (M1 : Option Addr → Nat → Nat → Int → Heap → Nat) (m1 : Nat) (a4_0 : Option Addr) (n4_1 : Nat) (n4_2 : Nat) (a5_0 : Option Addr) (n5_1 : Nat) (n5_2 : Nat) (x6 : Int) (h : Heap) (R : Value → Heap → Prop) : Prop :=
  ∃ q29 : Addr, a5_0 = some q29 ∧ (0 : Int) ≤ x6 ∧ x6 < (n5_1 : Int) ∧ ∃ s30 : ByteArray, Vc.cell h (q29.add (x6.toNat * 1)) = some (Value.string s30) ∧ br (seq s30 (⟨#[46, 46]⟩ : ByteArray)) (br (((n4_1 : Int) : Int) == 0) (R (Value.tuple #[Value.string (⟨#[]⟩ : ByteArray), Value.int .i64 12]) h) (F17_k6 I1 M1 m1 a4_0 n4_1 n4_2 a5_0 n5_1 n5_2 x6 h R)) (F17_k7 I1 M1 m1 a4_0 n4_1 n4_2 a5_0 n5_1 n5_2 x6 h R)
def F17_k3 (I1 : Option Addr → Nat → Nat → Int → Heap → Prop) (M1 : Option Addr → Nat → Nat → Int → Heap → Nat) (m1 : Nat) (a4_0 : Option Addr) (n4_1 : Nat) (n4_2 : Nat) (a5_0 : Option Addr) (n5_1 : Nat) (n5_2 : Nat) (x6 : Int) (b26 : Bool) (h : Heap) (R : Value → Heap → Prop) : Prop :=
  br b26 (F17_k4 I1 M1 m1 a4_0 n4_1 n4_2 a5_0 n5_1 n5_2 x6 h R) (F17_k5 I1 M1 m1 a4_0 n4_1 n4_2 a5_0 n5_1 n5_2 x6 h R)
def F17_k2 (I1 : Option Addr → Nat → Nat → Int → Heap → Prop) (M1 : Option Addr → Nat → Nat → Int → Heap → Nat) (m1 : Nat) (a4_0 : Option Addr) (n4_1 : Nat) (n4_2 : Nat) (a5_0 : Option Addr) (n5_1 : Nat) (n5_2 : Nat) (x6 : Int) (h : Heap) (R : Value → Heap → Prop) : Prop :=
  ∃ q17 : Addr, a5_0 = some q17 ∧ (0 : Int) ≤ x6 ∧ x6 < (n5_1 : Int) ∧ ∃ s18 : ByteArray, Vc.cell h (q17.add (x6.toNat * 1)) = some (Value.string s18) ∧ br (seq s18 (⟨#[]⟩ : ByteArray)) (F17_k3 I1 M1 m1 a4_0 n4_1 n4_2 a5_0 n5_1 n5_2 x6 true h R) (∃ q23 : Addr, a5_0 = some q23 ∧ (0 : Int) ≤ x6 ∧ x6 < (n5_1 : Int) ∧ ∃ s24 : ByteArray, Vc.cell h (q23.add (x6.toNat * 1)) = some (Value.string s24) ∧ F17_k3 I1 M1 m1 a4_0 n4_1 n4_2 a5_0 n5_1 n5_2 x6 (seq s24 (⟨#[46]⟩ : ByteArray)) h R)
def F17_k10 (a4_0 : Option Addr) (n4_1 : Nat) (n4_2 : Nat) (h : Heap) (R : Value → Heap → Prop) : Prop :=
  HCalls Tryd.prog 32 #[Value.slice a4_0 n4_1 n4_2] h fun r59 h1 => ∃ s59 : ByteArray, r59 = Value.string s59 ∧ R (Value.tuple #[Value.string s59, Value.int .i64 0]) h1
def F17_k9 (a4_0 : Option Addr) (n4_1 : Nat) (n4_2 : Nat) (h : Heap) (R : Value → Heap → Prop) : Prop :=
  br (decide (((n4_1 : Int) : Int) > 8)) (R (Value.tuple #[Value.string (⟨#[]⟩ : ByteArray), Value.int .i64 3]) h) (F17_k10 a4_0 n4_1 n4_2 h R)
def F17_b1 (I1 : Option Addr → Nat → Nat → Int → Heap → Prop) (M1 : Option Addr → Nat → Nat → Int → Heap → Nat) (m1 : Nat) (a4_0 : Option Addr) (n4_1 : Nat) (n4_2 : Nat) (a5_0 : Option Addr) (n5_1 : Nat) (n5_2 : Nat) (x6 : Int) (h : Heap) (R : Value → Heap → Prop) : Prop :=
  br (decide ((x6 : Int) < (n5_1 : Int))) (F17_k2 I1 M1 m1 a4_0 n4_1 n4_2 a5_0 n5_1 n5_2 x6 h R) (F17_k9 a4_0 n4_1 n4_2 h R)
def F17 (s0 : ByteArray) (h : Heap) (R : Value → Heap → Prop) : Prop :=
  HCalls Tryd.prog 30 #[Value.string s0] h fun r8 h1 => ∃ a8 : Option Addr, ∃ l8 : Nat, ∃ c8 : Nat, r8 = Value.slice a8 l8 c8 ∧ ∀ x6 : Int, x6 = 0 → ∃ (I1 : Option Addr → Nat → Nat → Int → Heap → Prop) (M1 : Option Addr → Nat → Nat → Int → Heap → Nat), I1 none 0 0 x6 h1 ∧ ∀ h2 (a4 : Option Addr) (l4 c4 : Nat) (x6_1 : Int), I1 a4 l4 c4 x6_1 h2 → F17_b1 I1 M1 (M1 a4 l4 c4 x6_1 h2) a4 l4 c4 a8 l8 c8 x6_1 h2 R
def A17 : Ann := { bind := [6], loops := [(4, [(4, .slice), (6, .int .i64)])] }
theorem F17_ent (s0 : ByteArray) (h : Heap) (R : Value → Heap → Prop) (H : F17 s0 h R) : HEnt Tryd.prog 17 #[Value.string s0] h R :=
  hent A17 mixed Tryd.func17 rfl (by kernel_rfl) (by kernel_rfl) (Eq.mp (by kernel_rfl) H)

/-! ### 18 veneer/trail.Join -/
def F18 (s0 : ByteArray) (s1 : ByteArray) (h : Heap) (R : Value → Heap → Prop) : Prop :=
  s0.size + (⟨#[47]⟩ : ByteArray).size ≤ 9223372036854775807 ∧ (s0 ++ (⟨#[47]⟩ : ByteArray)).size + s1.size ≤ 9223372036854775807 ∧ HCalls Tryd.prog 16 #[Value.string ((s0 ++ (⟨#[47]⟩ : ByteArray)) ++ s1)] h fun r10 h1 => ∃ s10_0 : ByteArray, ∃ x10_1 : Int, r10 = Value.tuple #[Value.string s10_0, Value.int .i64 x10_1] ∧ R (Value.tuple #[Value.string s10_0, Value.int .i64 x10_1]) h1
def A18 : Ann := {  }
theorem F18_ent (s0 : ByteArray) (s1 : ByteArray) (h : Heap) (R : Value → Heap → Prop) (H : F18 s0 s1 h R) : HEnt Tryd.prog 18 #[Value.string s0, Value.string s1] h R :=
  hent A18 mixed Tryd.func18 rfl (by kernel_rfl) (by kernel_rfl) (Eq.mp (by kernel_rfl) H)

/-! ### 19 veneer/trail.Parts -/
def F19_k2 (s0 : ByteArray) (h : Heap) (R : Value → Heap → Prop) : Prop :=
  HCalls Tryd.prog 27 #[Value.string s0, Value.string (⟨#[47]⟩ : ByteArray)] h fun r11 h1 => ∃ a11 : Option Addr, ∃ l11 : Nat, ∃ c11 : Nat, r11 = Value.slice a11 l11 c11 ∧ R (Value.slice a11 l11 c11) h1
def F19_k1 (s0 : ByteArray) (b9 : Bool) (h : Heap) (R : Value → Heap → Prop) : Prop :=
  br b9 (R (Value.slice none 0 0) h) (F19_k2 s0 h R)
def F19 (s0 : ByteArray) (h : Heap) (R : Value → Heap → Prop) : Prop :=
  br (seq s0 (⟨#[]⟩ : ByteArray)) (F19_k1 s0 true h R) (HCalls Tryd.prog 33 #[Value.string s0] h fun r7 h1 => ∃ b7 : Bool, r7 = Value.bool b7 ∧ F19_k1 s0 (!b7) h1 R)
def A19 : Ann := {  }
theorem F19_ent (s0 : ByteArray) (h : Heap) (R : Value → Heap → Prop) (H : F19 s0 h R) : HEnt Tryd.prog 19 #[Value.string s0] h R :=
  hent A19 mixed Tryd.func19 rfl (by kernel_rfl) (by kernel_rfl) (Eq.mp (by kernel_rfl) H)

/-! ### 22 veneer/veneerlaw05.same -/
def F22_k4 (I2 : Int → Heap → Prop) (M2 : Int → Heap → Nat) (m2 : Nat) (a0_0 : Option Addr) (n0_1 : Nat) (n0_2 : Nat) (a1_0 : Option Addr) (n1_1 : Nat) (n1_2 : Nat) (x12 : Int) (x13 : Int) (h : Heap) (R : Value → Heap → Prop) : Prop :=
  I2 (IntKind.i64.wrap (x13 + 1)) h ∧ M2 (IntKind.i64.wrap (x13 + 1)) h < m2
def F22_k3 (I2 : Int → Heap → Prop) (M2 : Int → Heap → Nat) (m2 : Nat) (a0_0 : Option Addr) (n0_1 : Nat) (n0_2 : Nat) (a1_0 : Option Addr) (n1_1 : Nat) (n1_2 : Nat) (x12 : Int) (x13 : Int) (h : Heap) (R : Value → Heap → Prop) : Prop :=
  ∃ q18 : Addr, a0_0 = some q18 ∧ (0 : Int) ≤ x13 ∧ x13 < (n0_1 : Int) ∧ ∃ s19 : ByteArray, Vc.cell h (q18.add (x13.toNat * 1)) = some (Value.string s19) ∧ ∃ q22 : Addr, a1_0 = some q22 ∧ (0 : Int) ≤ x13 ∧ x13 < (n1_1 : Int) ∧ ∃ s23 : ByteArray, Vc.cell h (q22.add (x13.toNat * 1)) = some (Value.string s23) ∧ ∀ h1, Cls false h h1 → br (!(seq s19 s23)) (R (Value.bool false) h1) (F22_k4 I2 M2 m2 a0_0 n0_1 n0_2 a1_0 n1_1 n1_2 x12 x13 h1 R)
def F22_k5 (h : Heap) (R : Value → Heap → Prop) : Prop :=
  R (Value.bool true) h
def F22_b2 (I2 : Int → Heap → Prop) (M2 : Int → Heap → Nat) (m2 : Nat) (a0_0 : Option Addr) (n0_1 : Nat) (n0_2 : Nat) (a1_0 : Option Addr) (n1_1 : Nat) (n1_2 : Nat) (x12 : Int) (x13 : Int) (h : Heap) (R : Value → Heap → Prop) : Prop :=
  br (decide ((x13 : Int) < x12)) (F22_k3 I2 M2 m2 a0_0 n0_1 n0_2 a1_0 n1_1 n1_2 x12 x13 h R) (F22_k5 h R)
def F22_k1 (a0_0 : Option Addr) (n0_1 : Nat) (n0_2 : Nat) (a1_0 : Option Addr) (n1_1 : Nat) (n1_2 : Nat) (h : Heap) (R : Value → Heap → Prop) : Prop :=
  ∃ (I2 : Int → Heap → Prop) (M2 : Int → Heap → Nat), I2 0 h ∧ ∀ h1 (x13 : Int), I2 x13 h1 → F22_b2 I2 M2 (M2 x13 h1) a0_0 n0_1 n0_2 a1_0 n1_1 n1_2 (n0_1 : Int) x13 h1 R
def F22 (a0 : Option Addr) (l0 : Nat) (c0 : Nat) (a1 : Option Addr) (l1 : Nat) (c1 : Nat) (h : Heap) (R : Value → Heap → Prop) : Prop :=
  br (((l0 : Int) : Int) != (l1 : Int)) (R (Value.bool false) h) (F22_k1 a0 l0 c0 a1 l1 c1 h R)
def A22 : Ann := { loops := [(4, [(13, .int .i64)])], draws := [(6, 0, 9)] }
theorem F22_ent (a0 : Option Addr) (l0 : Nat) (c0 : Nat) (a1 : Option Addr) (l1 : Nat) (c1 : Nat) (h : Heap) (R : Value → Heap → Prop) (H : F22 a0 l0 c0 a1 l1 c1 h R) : HEnt Tryd.prog 22 #[Value.slice a0 l0 c0, Value.slice a1 l1 c1] h R :=
  hent A22 mixed Tryd.func22 rfl (by kernel_rfl) (by kernel_rfl) (Eq.mp (by kernel_rfl) H)

/-! ### 23 veneer/trail.Up -/
def F23_k3 (h : Heap) (R : Value → Heap → Prop) : Prop :=
  R (Value.tuple #[Value.string (⟨#[]⟩ : ByteArray), Value.bool true]) h
def F23_k2 (s0 : ByteArray) (h : Heap) (R : Value → Heap → Prop) : Prop :=
  HCalls Tryd.prog 36 #[Value.string s0, Value.int .u8 47] h fun r13 h1 => ∃ x13 : Int, r13 = Value.int .i64 x13 ∧ br (decide ((x13 : Int) ≥ 0)) ((0 : Int) ≤ 0 ∧ (0 : Int) ≤ x13 ∧ x13 ≤ (s0.size : Int) ∧ R (Value.tuple #[Value.string (s0.extract 0 x13.toNat), Value.bool true]) h1) (F23_k3 h1 R)
def F23_k1 (s0 : ByteArray) (b11 : Bool) (h : Heap) (R : Value → Heap → Prop) : Prop :=
  br b11 (R (Value.tuple #[Value.string (⟨#[]⟩ : ByteArray), Value.bool false]) h) (F23_k2 s0 h R)
def F23 (s0 : ByteArray) (h : Heap) (R : Value → Heap → Prop) : Prop :=
  br (seq s0 (⟨#[]⟩ : ByteArray)) (F23_k1 s0 true h R) (HCalls Tryd.prog 33 #[Value.string s0] h fun r9 h1 => ∃ b9 : Bool, r9 = Value.bool b9 ∧ F23_k1 s0 (!b9) h1 R)
def A23 : Ann := {  }
theorem F23_ent (s0 : ByteArray) (h : Heap) (R : Value → Heap → Prop) (H : F23 s0 h R) : HEnt Tryd.prog 23 #[Value.string s0] h R :=
  hent A23 mixed Tryd.func23 rfl (by kernel_rfl) (by kernel_rfl) (Eq.mp (by kernel_rfl) H)

/-! ### 24 veneer/veneerref05.Up -/
def F24_k1 (a4_0 : Option Addr) (n4_1 : Nat) (n4_2 : Nat) (h : Heap) (R : Value → Heap → Prop) : Prop :=
  (0 : Int) ≤ 0 ∧ (0 : Int) ≤ IntKind.i64.wrap ((n4_1 : Int) - 1) ∧ IntKind.i64.wrap ((n4_1 : Int) - 1) ≤ (n4_2 : Int) ∧ HCalls Tryd.prog 32 #[Value.slice (cutAt n4_2 0 1 a4_0) (((IntKind.i64.wrap ((n4_1 : Int) - 1)).toNat) - 0) (n4_2 - 0)] h fun r15 h1 => ∃ s15 : ByteArray, r15 = Value.string s15 ∧ R (Value.tuple #[Value.string s15, Value.bool true]) h1
def F24 (s0 : ByteArray) (h : Heap) (R : Value → Heap → Prop) : Prop :=
  HCalls Tryd.prog 25 #[Value.string s0] h fun r6 h1 => ∃ a6 : Option Addr, ∃ l6 : Nat, ∃ c6 : Nat, r6 = Value.slice a6 l6 c6 ∧ br (((l6 : Int) : Int) == 0) (R (Value.tuple #[Value.string (⟨#[]⟩ : ByteArray), Value.bool false]) h1) (F24_k1 a6 l6 c6 h1 R)
def A24 : Ann := {  }
theorem F24_ent (s0 : ByteArray) (h : Heap) (R : Value → Heap → Prop) (H : F24 s0 h R) : HEnt Tryd.prog 24 #[Value.string s0] h R :=
  hent A24 mixed Tryd.func24 rfl (by kernel_rfl) (by kernel_rfl) (Eq.mp (by kernel_rfl) H)

/-! ### 25 veneer/veneerref05.Parts -/
def F25_k2 (s0 : ByteArray) (h : Heap) (R : Value → Heap → Prop) : Prop :=
  HCalls Tryd.prog 30 #[Value.string s0] h fun r11 h1 => ∃ a11 : Option Addr, ∃ l11 : Nat, ∃ c11 : Nat, r11 = Value.slice a11 l11 c11 ∧ R (Value.slice a11 l11 c11) h1
def F25_k1 (s0 : ByteArray) (b9 : Bool) (h : Heap) (R : Value → Heap → Prop) : Prop :=
  br b9 (R (Value.slice none 0 0) h) (F25_k2 s0 h R)
def F25 (s0 : ByteArray) (h : Heap) (R : Value → Heap → Prop) : Prop :=
  br (seq s0 (⟨#[]⟩ : ByteArray)) (F25_k1 s0 true h R) (HCalls Tryd.prog 34 #[Value.string s0] h fun r7 h1 => ∃ b7 : Bool, r7 = Value.bool b7 ∧ F25_k1 s0 (!b7) h1 R)
def A25 : Ann := {  }
theorem F25_ent (s0 : ByteArray) (h : Heap) (R : Value → Heap → Prop) (H : F25 s0 h R) : HEnt Tryd.prog 25 #[Value.string s0] h R :=
  hent A25 mixed Tryd.func25 rfl (by kernel_rfl) (by kernel_rfl) (Eq.mp (by kernel_rfl) H)

/-! ### 26 veneer/veneerref05.pieces -/
def F26_k1 (s0 : ByteArray) (h : Heap) (R : Value → Heap → Prop) : Prop :=
  HCalls Tryd.prog 30 #[Value.string s0] h fun r6 h1 => ∃ a6 : Option Addr, ∃ l6 : Nat, ∃ c6 : Nat, r6 = Value.slice a6 l6 c6 ∧ R (Value.slice a6 l6 c6) h1
def F26 (s0 : ByteArray) (h : Heap) (R : Value → Heap → Prop) : Prop :=
  br (seq s0 (⟨#[]⟩ : ByteArray)) (R (Value.slice none 0 0) h) (F26_k1 s0 h R)
def A26 : Ann := {  }
theorem F26_ent (s0 : ByteArray) (h : Heap) (R : Value → Heap → Prop) (H : F26 s0 h R) : HEnt Tryd.prog 26 #[Value.string s0] h R :=
  hent A26 mixed Tryd.func26 rfl (by kernel_rfl) (by kernel_rfl) (Eq.mp (by kernel_rfl) H)

/-! ### 28 veneer/trail.part -/
def F28_k6 (I3 : Int → Heap → Prop) (M3 : Int → Heap → Nat) (m3 : Nat) (s0 : ByteArray) (x21 : Int) (x22 : Int) (h : Heap) (R : Value → Heap → Prop) : Prop :=
  I3 (IntKind.i64.wrap (x22 + 1)) h ∧ M3 (IntKind.i64.wrap (x22 + 1)) h < m3
def F28_k5 (I3 : Int → Heap → Prop) (M3 : Int → Heap → Nat) (m3 : Nat) (s0 : ByteArray) (x21 : Int) (x22 : Int) (b54 : Bool) (h : Heap) (R : Value → Heap → Prop) : Prop :=
  br b54 (R (Value.bool false) h) (F28_k6 I3 M3 m3 s0 x21 x22 h R)
def F28_k4 (I3 : Int → Heap → Prop) (M3 : Int → Heap → Nat) (m3 : Nat) (s0 : ByteArray) (x21 : Int) (x22 : Int) (h : Heap) (R : Value → Heap → Prop) : Prop :=
  (0 : Int) ≤ x22 ∧ x22 < (s0.size : Int) ∧ br (decide ((bt s0 x22 : Int) ≥ 97)) (br (decide ((bt s0 x22 : Int) ≤ 122)) (F28_k5 I3 M3 m3 s0 x21 x22 false h R) (br (decide ((bt s0 x22 : Int) ≥ 48)) (br (decide ((bt s0 x22 : Int) ≤ 57)) (F28_k5 I3 M3 m3 s0 x21 x22 false h R) (br ((bt s0 x22 : Int) == 95) (F28_k5 I3 M3 m3 s0 x21 x22 false h R) (br ((bt s0 x22 : Int) == 45) (F28_k5 I3 M3 m3 s0 x21 x22 false h R) (F28_k5 I3 M3 m3 s0 x21 x22 (!((bt s0 x22 : Int) == 46)) h R)))) (br ((bt s0 x22 : Int) == 95) (F28_k5 I3 M3 m3 s0 x21 x22 false h R) (br ((bt s0 x22 : Int) == 45) (F28_k5 I3 M3 m3 s0 x21 x22 false h R) (F28_k5 I3 M3 m3 s0 x21 x22 (!((bt s0 x22 : Int) == 46)) h R))))) (br (decide ((bt s0 x22 : Int) ≥ 48)) (br (decide ((bt s0 x22 : Int) ≤ 57)) (F28_k5 I3 M3 m3 s0 x21 x22 false h R) (br ((bt s0 x22 : Int) == 95) (F28_k5 I3 M3 m3 s0 x21 x22 false h R) (br ((bt s0 x22 : Int) == 45) (F28_k5 I3 M3 m3 s0 x21 x22 false h R) (F28_k5 I3 M3 m3 s0 x21 x22 (!((bt s0 x22 : Int) == 46)) h R)))) (br ((bt s0 x22 : Int) == 95) (F28_k5 I3 M3 m3 s0 x21 x22 false h R) (br ((bt s0 x22 : Int) == 45) (F28_k5 I3 M3 m3 s0 x21 x22 false h R) (F28_k5 I3 M3 m3 s0 x21 x22 (!((bt s0 x22 : Int) == 46)) h R))))
def F28_k7 (h : Heap) (R : Value → Heap → Prop) : Prop :=
  R (Value.bool true) h
def F28_b3 (I3 : Int → Heap → Prop) (M3 : Int → Heap → Nat) (m3 : Nat) (s0 : ByteArray) (x21 : Int) (x22 : Int) (h : Heap) (R : Value → Heap → Prop) : Prop :=
  br (decide ((x22 : Int) < x21)) (F28_k4 I3 M3 m3 s0 x21 x22 h R) (F28_k7 h R)
def F28_k2 (s0 : ByteArray) (h : Heap) (R : Value → Heap → Prop) : Prop :=
  ∃ (I3 : Int → Heap → Prop) (M3 : Int → Heap → Nat), I3 0 h ∧ ∀ h1 (x22 : Int), I3 x22 h1 → F28_b3 I3 M3 (M3 x22 h1) s0 (s0.size : Int) x22 h1 R
def F28_k1 (s0 : ByteArray) (b19 : Bool) (h : Heap) (R : Value → Heap → Prop) : Prop :=
  br b19 (R (Value.bool false) h) (F28_k2 s0 h R)
def F28 (s0 : ByteArray) (h : Heap) (R : Value → Heap → Prop) : Prop :=
  br (seq s0 (⟨#[]⟩ : ByteArray)) (F28_k1 s0 true h R) (br (decide (((s0.size : Int) : Int) > 24)) (F28_k1 s0 true h R) (br (seq s0 (⟨#[46]⟩ : ByteArray)) (F28_k1 s0 true h R) (F28_k1 s0 (seq s0 (⟨#[46, 46]⟩ : ByteArray)) h R)))
def A28 : Ann := { loops := [(4, [(22, .int .i64)])] }
theorem F28_ent (s0 : ByteArray) (h : Heap) (R : Value → Heap → Prop) (H : F28 s0 h R) : HEnt Tryd.prog 28 #[Value.string s0] h R :=
  hent A28 mixed Tryd.func28 rfl (by kernel_rfl) (by kernel_rfl) (Eq.mp (by kernel_rfl) H)

/-! ### 30 veneer/veneerref05.Pieces -/
def F30_k3 (I1 : Option Addr → Nat → Nat → Int → Int → Heap → Prop) (M1 : Option Addr → Nat → Nat → Int → Int → Heap → Nat) (m1 : Nat) (s0 : ByteArray) (a3_0 : Option Addr) (n3_1 : Nat) (n3_2 : Nat) (x4 : Int) (x5 : Int) (h : Heap) (R : Value → Heap → Prop) : Prop :=
  ∀ x5_1 : Int, x5_1 = IntKind.i64.wrap (x5 + 1) → I1 a3_0 n3_1 n3_2 x4 x5_1 h ∧ M1 a3_0 n3_1 n3_2 x4 x5_1 h < m1
def F30_k2 (I1 : Option Addr → Nat → Nat → Int → Int → Heap → Prop) (M1 : Option Addr → Nat → Nat → Int → Int → Heap → Nat) (m1 : Nat) (s0 : ByteArray) (a3_0 : Option Addr) (n3_1 : Nat) (n3_2 : Nat) (x4 : Int) (x5 : Int) (h : Heap) (R : Value → Heap → Prop) : Prop :=
  (0 : Int) ≤ x5 ∧ x5 < (s0.size : Int) ∧ br ((bt s0 x5 : Int) == 47) ((0 : Int) ≤ x4 ∧ (x4 : Int) ≤ x5 ∧ x5 ≤ (s0.size : Int) ∧ 1 * 1 ≤ 16777216 ∧ newK h (.cells #[Value.string (s0.extract x4.toNat x5.toNat)] 9) fun b21 h1 => appK Tryd.prog 9 h1 a3_0 n3_1 n3_2 (Value.slice (some (at0 b21)) 1 1) fun a22 l22 c22 h2 => ∀ x4_1 : Int, x4_1 = IntKind.i64.wrap (x5 + 1) → F30_k3 I1 M1 m1 s0 a22 l22 c22 x4_1 x5 h2 R) (F30_k3 I1 M1 m1 s0 a3_0 n3_1 n3_2 x4 x5 h R)
def F30_k4 (s0 : ByteArray) (a3_0 : Option Addr) (n3_1 : Nat) (n3_2 : Nat) (x4 : Int) (h : Heap) (R : Value → Heap → Prop) : Prop :=
  (0 : Int) ≤ x4 ∧ (x4 : Int) ≤ (s0.size : Int) ∧ (s0.size : Int) ≤ (s0.size : Int) ∧ 1 * 1 ≤ 16777216 ∧ newK h (.cells #[Value.string (s0.extract x4.toNat (s0.size : Int).toNat)] 9) fun b29 h1 => appK Tryd.prog 9 h1 a3_0 n3_1 n3_2 (Value.slice (some (at0 b29)) 1 1) fun a30 l30 c30 h2 => R (Value.slice a30 l30 c30) h2
def F30_b1 (I1 : Option Addr → Nat → Nat → Int → Int → Heap → Prop) (M1 : Option Addr → Nat → Nat → Int → Int → Heap → Nat) (m1 : Nat) (s0 : ByteArray) (a2_0 : Option Addr) (n2_1 : Nat) (n2_2 : Nat) (a3_0 : Option Addr) (n3_1 : Nat) (n3_2 : Nat) (x4 : Int) (x5 : Int) (h : Heap) (R : Value → Heap → Prop) : Prop :=
  br (decide ((x5 : Int) < (s0.size : Int))) (F30_k2 I1 M1 m1 s0 a3_0 n3_1 n3_2 x4 x5 h R) (F30_k4 s0 a3_0 n3_1 n3_2 x4 h R)
def F30 (s0 : ByteArray) (h : Heap) (R : Value → Heap → Prop) : Prop :=
  ∀ x4 : Int, x4 = 0 → ∀ x5 : Int, x5 = 0 → ∃ (I1 : Option Addr → Nat → Nat → Int → Int → Heap → Prop) (M1 : Option Addr → Nat → Nat → Int → Int → Heap → Nat), I1 none 0 0 x4 x5 h ∧ ∀ h1 (a3 : Option Addr) (l3 c3 : Nat) (x4_1 : Int) (x5_1 : Int), I1 a3 l3 c3 x4_1 x5_1 h1 → F30_b1 I1 M1 (M1 a3 l3 c3 x4_1 x5_1 h1) s0 none 0 0 a3 l3 c3 x4_1 x5_1 h1 R
def A30 : Ann := { bind := [4, 5], loops := [(4, [(3, .slice), (4, .int .i64), (5, .int .i64)])] }
theorem F30_ent (s0 : ByteArray) (h : Heap) (R : Value → Heap → Prop) (H : F30 s0 h R) : HEnt Tryd.prog 30 #[Value.string s0] h R :=
  hent A30 mixed Tryd.func30 rfl (by kernel_rfl) (by kernel_rfl) (Eq.mp (by kernel_rfl) H)

/-! ### 31 veneer/veneerref05.Part -/
def F31_k5 (I1 : Int → Heap → Prop) (M1 : Int → Heap → Nat) (m1 : Nat) (I3 : Bool → Int → Heap → Prop) (M3 : Bool → Int → Heap → Nat) (m3 : Nat) (s0 : ByteArray) (x3 : Int) (b4 : Bool) (x5 : Int) (h : Heap) (R : Value → Heap → Prop) : Prop :=
  ∀ x5_1 : Int, x5_1 = IntKind.i64.wrap (x5 + 1) → I3 b4 x5_1 h ∧ M3 b4 x5_1 h < m3
def F31_k4 (I1 : Int → Heap → Prop) (M1 : Int → Heap → Nat) (m1 : Nat) (I3 : Bool → Int → Heap → Prop) (M3 : Bool → Int → Heap → Nat) (m3 : Nat) (s0 : ByteArray) (x3 : Int) (b4 : Bool) (x5 : Int) (h : Heap) (R : Value → Heap → Prop) : Prop :=
  br b4 (∀ h1, Cls false h h1 → F31_k5 I1 M1 m1 I3 M3 m3 s0 x3 true x5 h1 R) ((0 : Int) ≤ x5 ∧ x5 < ((⟨#[97, 98, 99, 100, 101, 102, 103, 104, 105, 106, 107, 108, 109, 110, 111, 112, 113, 114, 115, 116, 117, 118, 119, 120, 121, 122, 48, 49, 50, 51, 52, 53, 54, 55, 56, 57, 95, 45, 46]⟩ : ByteArray).size : Int) ∧ (0 : Int) ≤ x3 ∧ x3 < (s0.size : Int) ∧ ∀ h1, Cls false h h1 → F31_k5 I1 M1 m1 I3 M3 m3 s0 x3 ((bt (⟨#[97, 98, 99, 100, 101, 102, 103, 104, 105, 106, 107, 108, 109, 110, 111, 112, 113, 114, 115, 116, 117, 118, 119, 120, 121, 122, 48, 49, 50, 51, 52, 53, 54, 55, 56, 57, 95, 45, 46]⟩ : ByteArray) x5 : Int) == (bt s0 x3)) x5 h1 R)
def F31_k7 (I1 : Int → Heap → Prop) (M1 : Int → Heap → Nat) (m1 : Nat) (s0 : ByteArray) (x3 : Int) (h : Heap) (R : Value → Heap → Prop) : Prop :=
  ∀ x3_1 : Int, x3_1 = IntKind.i64.wrap (x3 + 1) → I1 x3_1 h ∧ M1 x3_1 h < m1
def F31_k6 (I1 : Int → Heap → Prop) (M1 : Int → Heap → Nat) (m1 : Nat) (s0 : ByteArray) (x3 : Int) (b4 : Bool) (h : Heap) (R : Value → Heap → Prop) : Prop :=
  br (!b4) (R (Value.bool false) h) (F31_k7 I1 M1 m1 s0 x3 h R)
def F31_b3 (I1 : Int → Heap → Prop) (M1 : Int → Heap → Nat) (m1 : Nat) (I3 : Bool → Int → Heap → Prop) (M3 : Bool → Int → Heap → Nat) (m3 : Nat) (s0 : ByteArray) (x3 : Int) (b4 : Bool) (x5 : Int) (h : Heap) (R : Value → Heap → Prop) : Prop :=
  br (decide ((x5 : Int) < 39)) (F31_k4 I1 M1 m1 I3 M3 m3 s0 x3 b4 x5 h R) (F31_k6 I1 M1 m1 s0 x3 b4 h R)
def F31_k2 (I1 : Int → Heap → Prop) (M1 : Int → Heap → Nat) (m1 : Nat) (s0 : ByteArray) (x3 : Int) (h : Heap) (R : Value → Heap → Prop) : Prop :=
  ∀ x5 : Int, x5 = 0 → ∃ (I3 : Bool → Int → Heap → Prop) (M3 : Bool → Int → Heap → Nat), I3 false x5 h ∧ ∀ h1 (b4 : Bool) (x5_1 : Int), I3 b4 x5_1 h1 → F31_b3 I1 M1 m1 I3 M3 (M3 b4 x5_1 h1) s0 x3 b4 x5_1 h1 R
def F31_k8 (s0 : ByteArray) (h : Heap) (R : Value → Heap → Prop) : Prop :=
  br (decide (((s0.size : Int) : Int) ≥ 1)) (br (decide (((s0.size : Int) : Int) ≤ 24)) (br (!(seq s0 (⟨#[46]⟩ : ByteArray))) (R (Value.bool (!(seq s0 (⟨#[46, 46]⟩ : ByteArray)))) h) (R (Value.bool false) h)) (R (Value.bool false) h)) (R (Value.bool false) h)
def F31_b1 (I1 : Int → Heap → Prop) (M1 : Int → Heap → Nat) (m1 : Nat) (s0 : ByteArray) (x3 : Int) (h : Heap) (R : Value → Heap → Prop) : Prop :=
  br (decide ((x3 : Int) < (s0.size : Int))) (F31_k2 I1 M1 m1 s0 x3 h R) (F31_k8 s0 h R)
def F31 (s0 : ByteArray) (h : Heap) (R : Value → Heap → Prop) : Prop :=
  ∀ x3 : Int, x3 = 0 → ∃ (I1 : Int → Heap → Prop) (M1 : Int → Heap → Nat), I1 x3 h ∧ ∀ h1 (x3_1 : Int), I1 x3_1 h1 → F31_b1 I1 M1 (M1 x3_1 h1) s0 x3_1 h1 R
def A31 : Ann := { bind := [3, 5], loops := [(2, [(3, .int .i64)]), (6, [(4, .bool), (5, .int .i64)])], draws := [(8, 0, 10)] }
theorem F31_ent (s0 : ByteArray) (h : Heap) (R : Value → Heap → Prop) (H : F31 s0 h R) : HEnt Tryd.prog 31 #[Value.string s0] h R :=
  hent A31 mixed Tryd.func31 rfl (by kernel_rfl) (by kernel_rfl) (Eq.mp (by kernel_rfl) H)

/-! ### 32 veneer/veneerref05.Text -/
def F32_k4 (I1 : ByteArray → Int → Heap → Prop) (M1 : ByteArray → Int → Heap → Nat) (m1 : Nat) (a0_0 : Option Addr) (n0_1 : Nat) (n0_2 : Nat) (s3 : ByteArray) (x4 : Int) (h : Heap) (R : Value → Heap → Prop) : Prop :=
  ∀ x4_1 : Int, x4_1 = IntKind.i64.wrap (x4 + 1) → I1 s3 x4_1 h ∧ M1 s3 x4_1 h < m1
def F32_k3 (I1 : ByteArray → Int → Heap → Prop) (M1 : ByteArray → Int → Heap → Nat) (m1 : Nat) (a0_0 : Option Addr) (n0_1 : Nat) (n0_2 : Nat) (s3 : ByteArray) (x4 : Int) (h : Heap) (R : Value → Heap → Prop) : Prop :=
  ∃ q18 : Addr, a0_0 = some q18 ∧ (0 : Int) ≤ x4 ∧ x4 < (n0_1 : Int) ∧ ∃ s19 : ByteArray, Vc.cell h (q18.add (x4.toNat * 1)) = some (Value.string s19) ∧ s3.size + s19.size ≤ 9223372036854775807 ∧ ∀ s3_1 : ByteArray, s3_1 = s3 ++ s19 → F32_k4 I1 M1 m1 a0_0 n0_1 n0_2 s3_1 x4 h R
def F32_k2 (I1 : ByteArray → Int → Heap → Prop) (M1 : ByteArray → Int → Heap → Nat) (m1 : Nat) (a0_0 : Option Addr) (n0_1 : Nat) (n0_2 : Nat) (s3 : ByteArray) (x4 : Int) (h : Heap) (R : Value → Heap → Prop) : Prop :=
  br (decide ((x4 : Int) > 0)) (s3.size + (⟨#[47]⟩ : ByteArray).size ≤ 9223372036854775807 ∧ ∀ s3_1 : ByteArray, s3_1 = s3 ++ (⟨#[47]⟩ : ByteArray) → F32_k3 I1 M1 m1 a0_0 n0_1 n0_2 s3_1 x4 h R) (F32_k3 I1 M1 m1 a0_0 n0_1 n0_2 s3 x4 h R)
def F32_k5 (s3 : ByteArray) (h : Heap) (R : Value → Heap → Prop) : Prop :=
  R (Value.string s3) h
def F32_b1 (I1 : ByteArray → Int → Heap → Prop) (M1 : ByteArray → Int → Heap → Nat) (m1 : Nat) (a0_0 : Option Addr) (n0_1 : Nat) (n0_2 : Nat) (s2 : ByteArray) (s3 : ByteArray) (x4 : Int) (h : Heap) (R : Value → Heap → Prop) : Prop :=
  br (decide ((x4 : Int) < (n0_1 : Int))) (F32_k2 I1 M1 m1 a0_0 n0_1 n0_2 s3 x4 h R) (F32_k5 s3 h R)
def F32 (a0 : Option Addr) (l0 : Nat) (c0 : Nat) (h : Heap) (R : Value → Heap → Prop) : Prop :=
  ∀ s3 : ByteArray, s3 = (⟨#[]⟩ : ByteArray) → ∀ x4 : Int, x4 = 0 → ∃ (I1 : ByteArray → Int → Heap → Prop) (M1 : ByteArray → Int → Heap → Nat), I1 s3 x4 h ∧ ∀ h1 (s3_1 : ByteArray) (x4_1 : Int), I1 s3_1 x4_1 h1 → F32_b1 I1 M1 (M1 s3_1 x4_1 h1) a0 l0 c0 (⟨#[]⟩ : ByteArray) s3_1 x4_1 h1 R
def A32 : Ann := { bind := [3, 4], loops := [(3, [(3, .str), (4, .int .i64)])] }
theorem F32_ent (a0 : Option Addr) (l0 : Nat) (c0 : Nat) (h : Heap) (R : Value → Heap → Prop) (H : F32 a0 l0 c0 h R) : HEnt Tryd.prog 32 #[Value.slice a0 l0 c0] h R :=
  hent A32 mixed Tryd.func32 rfl (by kernel_rfl) (by kernel_rfl) (Eq.mp (by kernel_rfl) H)

/-! ### 33 veneer/trail.is -/
def F33 (s0 : ByteArray) (h : Heap) (R : Value → Heap → Prop) : Prop :=
  HCalls Tryd.prog 16 #[Value.string s0] h fun r7 h1 => ∃ s7_0 : ByteArray, ∃ x7_1 : Int, r7 = Value.tuple #[Value.string s7_0, Value.int .i64 x7_1] ∧ br ((x7_1 : Int) == 0) (R (Value.bool (seq s7_0 s0)) h1) (R (Value.bool false) h1)
def A33 : Ann := {  }
theorem F33_ent (s0 : ByteArray) (h : Heap) (R : Value → Heap → Prop) (H : F33 s0 h R) : HEnt Tryd.prog 33 #[Value.string s0] h R :=
  hent A33 mixed Tryd.func33 rfl (by kernel_rfl) (by kernel_rfl) (Eq.mp (by kernel_rfl) H)

/-! ### 34 veneer/veneerref05.Is -/
def F34_k4 (I2 : Int → Heap → Prop) (M2 : Int → Heap → Nat) (m2 : Nat) (a3_0 : Option Addr) (n3_1 : Nat) (n3_2 : Nat) (x4 : Int) (h : Heap) (R : Value → Heap → Prop) : Prop :=
  ∀ x4_1 : Int, x4_1 = IntKind.i64.wrap (x4 + 1) → I2 x4_1 h ∧ M2 x4_1 h < m2
def F34_k3 (I2 : Int → Heap → Prop) (M2 : Int → Heap → Nat) (m2 : Nat) (a3_0 : Option Addr) (n3_1 : Nat) (n3_2 : Nat) (x4 : Int) (h : Heap) (R : Value → Heap → Prop) : Prop :=
  ∃ q17 : Addr, a3_0 = some q17 ∧ (0 : Int) ≤ x4 ∧ x4 < (n3_1 : Int) ∧ ∃ s18 : ByteArray, Vc.cell h (q17.add (x4.toNat * 1)) = some (Value.string s18) ∧ HCalls Tryd.prog 31 #[Value.string s18] h fun r19 h1 => ∃ b19 : Bool, r19 = Value.bool b19 ∧ br (!b19) (R (Value.bool false) h1) (F34_k4 I2 M2 m2 a3_0 n3_1 n3_2 x4 h1 R)
def F34_k5 (a3_0 : Option Addr) (n3_1 : Nat) (n3_2 : Nat) (h : Heap) (R : Value → Heap → Prop) : Prop :=
  R (Value.bool (decide (((n3_1 : Int) : Int) ≤ 8))) h
def F34_b2 (I2 : Int → Heap → Prop) (M2 : Int → Heap → Nat) (m2 : Nat) (a3_0 : Option Addr) (n3_1 : Nat) (n3_2 : Nat) (x4 : Int) (h : Heap) (R : Value → Heap → Prop) : Prop :=
  br (decide ((x4 : Int) < (n3_1 : Int))) (F34_k3 I2 M2 m2 a3_0 n3_1 n3_2 x4 h R) (F34_k5 a3_0 n3_1 n3_2 h R)
def F34_k1 (s0 : ByteArray) (h : Heap) (R : Value → Heap → Prop) : Prop :=
  HCalls Tryd.prog 30 #[Value.string s0] h fun r8 h1 => ∃ a8 : Option Addr, ∃ l8 : Nat, ∃ c8 : Nat, r8 = Value.slice a8 l8 c8 ∧ ∀ x4 : Int, x4 = 0 → ∃ (I2 : Int → Heap → Prop) (M2 : Int → Heap → Nat), I2 x4 h1 ∧ ∀ h2 (x4_1 : Int), I2 x4_1 h2 → F34_b2 I2 M2 (M2 x4_1 h2) a8 l8 c8 x4_1 h2 R
def F34 (s0 : ByteArray) (h : Heap) (R : Value → Heap → Prop) : Prop :=
  br (seq s0 (⟨#[]⟩ : ByteArray)) (R (Value.bool true) h) (F34_k1 s0 h R)
def A34 : Ann := { bind := [4], loops := [(5, [(4, .int .i64)])] }
theorem F34_ent (s0 : ByteArray) (h : Heap) (R : Value → Heap → Prop) (H : F34 s0 h R) : HEnt Tryd.prog 34 #[Value.string s0] h R :=
  hent A34 mixed Tryd.func34 rfl (by kernel_rfl) (by kernel_rfl) (Eq.mp (by kernel_rfl) H)

end Go.Proofs.YtpehbcfoddggoaaDoor
