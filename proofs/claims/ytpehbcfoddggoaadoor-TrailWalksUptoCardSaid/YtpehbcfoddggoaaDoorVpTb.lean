import Derived.Test.YtpehbcfoddggoaaDoorProg
import Derived.Test.YtpehbcfoddggoaaDoorVpT

set_option linter.unusedVariables false
set_option maxRecDepth 100000
namespace Go.Proofs.YtpehbcfoddggoaaDoor
open Go.Vc
/-! ### 5 veneer/veneerlaw05.TrailNear -/
def F5_k2 (I1 : Heap → Prop) (s0 : ByteArray) (s1 : ByteArray) (s2 : ByteArray) (b34 : Bool) (h : Heap) (R : Value → Heap → Prop) : Prop :=
  br b34 (HCalls Tryd.prog 15 #[] h fun r35 h1 => ∃ b35 : Bool, r35 = Value.bool b35 ∧ R (Value.bool b35) h1) (I1 h)
def F5_k5 (I4 : Heap → Prop) (s0 : ByteArray) (s2 : ByteArray) (b55 : Bool) (h : Heap) (R : Value → Heap → Prop) : Prop :=
  br b55 (R (Value.bool false) h) (I4 h)
def F5_k6 (s0 : ByteArray) (s2 : ByteArray) (h : Heap) (R : Value → Heap → Prop) : Prop :=
  HCalls Tryd.prog 13 #[Value.string s0, Value.string s2] h fun r58 h1 => ∃ b58 : Bool, r58 = Value.bool b58 ∧ br (!b58) (HCalls Tryd.prog 15 #[] h1 fun r71 h2 => ∃ b71 : Bool, r71 = Value.bool b71 ∧ R (Value.bool b71) h2) (br (seq s0 s2) (HCalls Tryd.prog 15 #[] h1 fun r71 h2 => ∃ b71 : Bool, r71 = Value.bool b71 ∧ R (Value.bool b71) h2) (HCalls Tryd.prog 11 #[Value.string s0, Value.string s2] h1 fun r68 h2 => ∃ b68 : Bool, r68 = Value.bool b68 ∧ br b68 (HCalls Tryd.prog 15 #[] h2 fun r71 h3 => ∃ b71 : Bool, r71 = Value.bool b71 ∧ R (Value.bool b71) h3) (R (Value.bool false) h2)))
def F5_k3 (s0 : ByteArray) (s1 : ByteArray) (s2 : ByteArray) (h : Heap) (R : Value → Heap → Prop) : Prop :=
  ∃ I4 : Heap → Prop, (HCalls Tryd.prog 13 #[Value.string s0, Value.string s2] h fun r38 h1 => ∃ b38 : Bool, r38 = Value.bool b38 ∧ br b38 (HCalls Tryd.prog 11 #[Value.string s1, Value.string s0] h1 fun r42 h2 => ∃ b42 : Bool, r42 = Value.bool b42 ∧ br (!b42) (HCalls Tryd.prog 11 #[Value.string s1, Value.string s2] h2 fun r48 h3 => ∃ b48 : Bool, r48 = Value.bool b48 ∧ br b48 (HCalls Tryd.prog 13 #[Value.string s0, Value.string s1] h3 fun r53 h4 => ∃ b53 : Bool, r53 = Value.bool b53 ∧ F5_k5 I4 s0 s2 (!b53) h4 R) (F5_k5 I4 s0 s2 false h3 R)) (F5_k5 I4 s0 s2 false h2 R)) (F5_k5 I4 s0 s2 false h1 R)) ∧ ∀ h1, I4 h1 → F5_k6 s0 s2 h1 R
def F5 (s0 : ByteArray) (s1 : ByteArray) (s2 : ByteArray) (h : Heap) (R : Value → Heap → Prop) : Prop :=
  HCalls Tryd.prog 16 #[Value.string s0] h fun r12 h1 => ∃ s12_0 : ByteArray, ∃ x12_1 : Int, r12 = Value.tuple #[Value.string s12_0, Value.int .i64 x12_1] ∧ HCalls Tryd.prog 16 #[Value.string s1] h1 fun r17 h2 => ∃ s17_0 : ByteArray, ∃ x17_1 : Int, r17 = Value.tuple #[Value.string s17_0, Value.int .i64 x17_1] ∧ HCalls Tryd.prog 16 #[Value.string s2] h2 fun r22 h3 => ∃ s22_0 : ByteArray, ∃ x22_1 : Int, r22 = Value.tuple #[Value.string s22_0, Value.int .i64 x22_1] ∧ ∃ I1 : Heap → Prop, (br ((x12_1 : Int) != 0) (F5_k2 I1 s12_0 s17_0 s22_0 true h3 R) (br ((x17_1 : Int) != 0) (F5_k2 I1 s12_0 s17_0 s22_0 true h3 R) (F5_k2 I1 s12_0 s17_0 s22_0 ((x22_1 : Int) != 0) h3 R))) ∧ ∀ h4, I1 h4 → F5_k3 s12_0 s17_0 s22_0 h4 R
def A5 : Ann := { cuts := [(6, []), (8, [])] }
theorem F5_ent (s0 : ByteArray) (s1 : ByteArray) (s2 : ByteArray) (h : Heap) (R : Value → Heap → Prop) (H : F5 s0 s1 s2 h R) : HEnt Tryd.prog 5 #[Value.string s0, Value.string s1, Value.string s2] h R :=
  hent A5 mixed Tryd.func5 rfl (by kernel_rfl) (by kernel_rfl) (Eq.mp (by kernel_rfl) H)

/-! ### 10 veneer/veneerlaw05.TrailUps -/
def F10_k2 (I1 : Heap → Prop) (s3 : ByteArray) (b24 : Bool) (h : Heap) (R : Value → Heap → Prop) : Prop :=
  br b24 (HCalls Tryd.prog 23 #[Value.string (⟨#[]⟩ : ByteArray)] h fun r26 h1 => ∃ s26_0 : ByteArray, ∃ b26_1 : Bool, r26 = Value.tuple #[Value.string s26_0, Value.bool b26_1] ∧ br (seq s26_0 (⟨#[]⟩ : ByteArray)) (br (!b26_1) (HCalls Tryd.prog 15 #[] h1 fun r36 h2 => ∃ b36 : Bool, r36 = Value.bool b36 ∧ R (Value.bool b36) h2) (R (Value.bool false) h1)) (R (Value.bool false) h1)) (I1 h)
def F10_k5 (I4 : Heap → Prop) (s3 : ByteArray) (s7 : ByteArray) (a9_0 : Option Addr) (n9_1 : Nat) (n9_2 : Nat) (b60 : Bool) (h : Heap) (R : Value → Heap → Prop) : Prop :=
  br b60 (R (Value.bool false) h) (I4 h)
def F10_k6 (s3 : ByteArray) (s7 : ByteArray) (a9_0 : Option Addr) (n9_1 : Nat) (n9_2 : Nat) (h : Heap) (R : Value → Heap → Prop) : Prop :=
  ∃ q67 : Addr, a9_0 = some q67 ∧ (0 : Int) ≤ IntKind.i64.wrap ((n9_1 : Int) - 1) ∧ IntKind.i64.wrap ((n9_1 : Int) - 1) < (n9_1 : Int) ∧ ∃ s68 : ByteArray, Vc.cell h (q67.add (((IntKind.i64.wrap ((n9_1 : Int) - 1)).toNat) * 1)) = some (Value.string s68) ∧ HCalls Tryd.prog 18 #[Value.string s7, Value.string s68] h fun r69 h1 => ∃ s69_0 : ByteArray, ∃ x69_1 : Int, r69 = Value.tuple #[Value.string s69_0, Value.int .i64 x69_1] ∧ HCalls Tryd.prog 18 #[Value.string s3, Value.string (⟨#[46, 46]⟩ : ByteArray)] h1 fun r74 h2 => ∃ s74_0 : ByteArray, ∃ x74_1 : Int, r74 = Value.tuple #[Value.string s74_0, Value.int .i64 x74_1] ∧ HCalls Tryd.prog 13 #[Value.string s7, Value.string s3] h2 fun r79 h3 => ∃ b79 : Bool, r79 = Value.bool b79 ∧ br b79 (HCalls Tryd.prog 13 #[Value.string s3, Value.string s7] h3 fun r83 h4 => ∃ b83 : Bool, r83 = Value.bool b83 ∧ br (!b83) (HCalls Tryd.prog 11 #[Value.string s7, Value.string s3] h4 fun r89 h5 => ∃ b89 : Bool, r89 = Value.bool b89 ∧ br b89 (br (seq s69_0 s3) (br ((x69_1 : Int) == 0) (br (seq s74_0 s7) (br ((x74_1 : Int) == 0) (HCalls Tryd.prog 15 #[] h5 fun r110 h6 => ∃ b110 : Bool, r110 = Value.bool b110 ∧ R (Value.bool b110) h6) (R (Value.bool false) h5)) (R (Value.bool false) h5)) (R (Value.bool false) h5)) (R (Value.bool false) h5)) (R (Value.bool false) h5)) (R (Value.bool false) h4)) (R (Value.bool false) h3)
def F10_k3 (s3 : ByteArray) (h : Heap) (R : Value → Heap → Prop) : Prop :=
  HCalls Tryd.prog 23 #[Value.string s3] h fun r40 h1 => ∃ s40_0 : ByteArray, ∃ b40_1 : Bool, r40 = Value.tuple #[Value.string s40_0, Value.bool b40_1] ∧ HCalls Tryd.prog 19 #[Value.string s3] h1 fun r44 h2 => ∃ a44 : Option Addr, ∃ l44 : Nat, ∃ c44 : Nat, r44 = Value.slice a44 l44 c44 ∧ ∃ I4 : Heap → Prop, (br (!b40_1) (F10_k5 I4 s3 s40_0 a44 l44 c44 true h2 R) (br (((l44 : Int) : Int) == 0) (F10_k5 I4 s3 s40_0 a44 l44 c44 true h2 R) (HCalls Tryd.prog 19 #[Value.string s40_0] h2 fun r54 h3 => ∃ a54 : Option Addr, ∃ l54 : Nat, ∃ c54 : Nat, r54 = Value.slice a54 l54 c54 ∧ F10_k5 I4 s3 s40_0 a44 l44 c44 (((l54 : Int) : Int) != (IntKind.i64.wrap ((l44 : Int) - 1))) h3 R))) ∧ ∀ h3, I4 h3 → F10_k6 s3 s40_0 a44 l44 c44 h3 R
def F10 (s0 : ByteArray) (h : Heap) (R : Value → Heap → Prop) : Prop :=
  HCalls Tryd.prog 16 #[Value.string s0] h fun r16 h1 => ∃ s16_0 : ByteArray, ∃ x16_1 : Int, r16 = Value.tuple #[Value.string s16_0, Value.int .i64 x16_1] ∧ ∃ I1 : Heap → Prop, (br ((x16_1 : Int) != 0) (F10_k2 I1 s16_0 true h1 R) (F10_k2 I1 s16_0 (seq s16_0 (⟨#[]⟩ : ByteArray)) h1 R)) ∧ ∀ h2, I1 h2 → F10_k3 s16_0 h2 R
def A10 : Ann := { cuts := [(5, []), (9, [])] }
theorem F10_ent (s0 : ByteArray) (h : Heap) (R : Value → Heap → Prop) (H : F10 s0 h R) : HEnt Tryd.prog 10 #[Value.string s0] h R :=
  hent A10 mixed Tryd.func10 rfl (by kernel_rfl) (by kernel_rfl) (Eq.mp (by kernel_rfl) H)

end Go.Proofs.YtpehbcfoddggoaaDoor
