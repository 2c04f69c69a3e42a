import Derived.Test.YtcfegbpoailbdaaDoorProg
import Derived.Test.YtcfegbpoailbdaaDoorVopA
import Derived.Test.YtcfegbpoailbdaaDoorVdpA

set_option linter.unusedVariables false
set_option maxRecDepth 100000
namespace Go.Proofs.YtcfegbpoailbdaaDoor.Dr
open Go.Vd
/-! ### 41 veneer/trail.Less -/
def F41_k5 (I3 : Int → Heap → Prop) (M3 : Int → Heap → Nat) (m3 : Nat) (s0 : ByteArray) (s1 : ByteArray) (x26 : Int) (x27 : Int) (h : Heap) (R : Value → Heap → Prop) : Prop :=
  I3 (IntKind.i64.wrap (x27 + 1)) h ∧ M3 (IntKind.i64.wrap (x27 + 1)) h < m3
def F41_k8 (I3 : Int → Heap → Prop) (M3 : Int → Heap → Nat) (m3 : Nat) (x7 : Int) (x8 : Int) (h : Heap) (R : Value → Heap → Prop) : Prop :=
  R (Value.bool (decide ((x7 : Int) < x8))) h
def F41_k7 (I3 : Int → Heap → Prop) (M3 : Int → Heap → Nat) (m3 : Nat) (x7 : Int) (x8 : Int) (b44 : Bool) (h : Heap) (R : Value → Heap → Prop) : Prop :=
  br b44 (R (Value.bool ((x7 : Int) == 47)) h) (F41_k8 I3 M3 m3 x7 x8 h R)
def F41_k6 (I3 : Int → Heap → Prop) (M3 : Int → Heap → Nat) (m3 : Nat) (x7 : Int) (x8 : Int) (h : Heap) (R : Value → Heap → Prop) : Prop :=
  br ((x7 : Int) == 47) (F41_k7 I3 M3 m3 x7 x8 true h R) (F41_k7 I3 M3 m3 x7 x8 ((x8 : Int) == 47) h R)
def F41_k4 (I3 : Int → Heap → Prop) (M3 : Int → Heap → Nat) (m3 : Nat) (s0 : ByteArray) (s1 : ByteArray) (x26 : Int) (x27 : Int) (h : Heap) (R : Value → Heap → Prop) : Prop :=
  (0 : Int) ≤ x27 ∧ x27 < (s0.size : Int) ∧ (0 : Int) ≤ x27 ∧ x27 < (s1.size : Int) ∧ ∀ h1, Cls false h h1 → br ((bt s0 x27 : Int) == (bt s1 x27)) (F41_k5 I3 M3 m3 s0 s1 x26 x27 h1 R) (F41_k6 I3 M3 m3 (bt s0 x27) (bt s1 x27) h1 R)
def F41_k9 (s0 : ByteArray) (s1 : ByteArray) (h : Heap) (R : Value → Heap → Prop) : Prop :=
  R (Value.bool (decide (((s0.size : Int) : Int) < (s1.size : Int)))) h
def F41_b3 (I3 : Int → Heap → Prop) (M3 : Int → Heap → Nat) (m3 : Nat) (s0 : ByteArray) (s1 : ByteArray) (x26 : Int) (x27 : Int) (h : Heap) (R : Value → Heap → Prop) : Prop :=
  br (decide ((x27 : Int) < x26)) (F41_k4 I3 M3 m3 s0 s1 x26 x27 h R) (F41_k9 s0 s1 h R)
def F41_k2 (s0 : ByteArray) (s1 : ByteArray) (h : Heap) (R : Value → Heap → Prop) : Prop :=
  ∃ (I3 : Int → Heap → Prop) (M3 : Int → Heap → Nat), I3 0 h ∧ ∀ h1 (x27 : Int), I3 x27 h1 → F41_b3 I3 M3 (M3 x27 h1) s0 s1 (minI (s0.size : Int) (s1.size : Int)) x27 h1 R
def F41_k1 (s0 : ByteArray) (s1 : ByteArray) (b14 : Bool) (h : Heap) (R : Value → Heap → Prop) : Prop :=
  br b14 (br (seq s0 (⟨#[]⟩ : ByteArray)) (R (Value.bool (!(seq s1 (⟨#[]⟩ : ByteArray)))) h) (R (Value.bool false) h)) (F41_k2 s0 s1 h R)
def F41 (s0 : ByteArray) (s1 : ByteArray) (h : Heap) (R : Value → Heap → Prop) : Prop :=
  br (seq s0 (⟨#[]⟩ : ByteArray)) (F41_k1 s0 s1 true h R) (F41_k1 s0 s1 (seq s1 (⟨#[]⟩ : ByteArray)) h R)
def A41 : Ann := { loops := [(5, [(27, .int .i64)])], draws := [(7, 0, 8)] }
theorem F41_ent (s0 : ByteArray) (s1 : ByteArray) (h : Heap) (R : Value → Heap → Prop) (H : F41 s0 s1 h R) : HEnt Tryd.prog 41 #[Value.string s0, Value.string s1] h R :=
  hent A41 mixed Tryd.func41 rfl (by kernel_rfl) (by kernel_rfl) (Eq.mp (by kernel_rfl) H)

/-! ### 47 veneer/overlay.sorted$1 -/
def F47_k1 (h : Heap) (R : Value → Heap → Prop) : Prop :=
  R (Value.int .i64 1) h
def F47 (s0_0 : ByteArray) (x0_1 : Int) (x0_2 : Int) (s0_3 : ByteArray) (s1_0 : ByteArray) (x1_1 : Int) (x1_2 : Int) (s1_3 : ByteArray) (h : Heap) (R : Value → Heap → Prop) : Prop :=
  newK h (.cells #[Value.string s0_0, Value.int .i64 x0_1, Value.int .i64 x0_2, Value.string s0_3] 38) fun b2 h1 => newK h1 (.cells #[Value.string s1_0, Value.int .i64 x1_1, Value.int .i64 x1_2, Value.string s1_3] 38) fun b3 h2 => ∃ s6 : ByteArray, Vd.cell h2 ((at0 b2).add 0) = some (Value.string s6) ∧ ∃ s8 : ByteArray, Vd.cell h2 ((at0 b3).add 0) = some (Value.string s8) ∧ HCalls Tryd.prog 41 #[Value.string s6, Value.string s8] h2 fun r9 h3 => ∃ b9 : Bool, r9 = Value.bool b9 ∧ br b9 (R (Value.int .i64 (-1)) h3) (F47_k1 h3 R)
def A47 : Ann := {  }
theorem F47_ent (s0_0 : ByteArray) (x0_1 : Int) (x0_2 : Int) (s0_3 : ByteArray) (s1_0 : ByteArray) (x1_1 : Int) (x1_2 : Int) (s1_3 : ByteArray) (h : Heap) (R : Value → Heap → Prop) (H : F47 s0_0 x0_1 x0_2 s0_3 s1_0 x1_1 x1_2 s1_3 h R) : HEnt Tryd.prog 47 #[Value.agg #[Value.string s0_0, Value.int .i64 x0_1, Value.int .i64 x0_2, Value.string s0_3], Value.agg #[Value.string s1_0, Value.int .i64 x1_1, Value.int .i64 x1_2, Value.string s1_3]] h R :=
  hent A47 mixed Tryd.func47 rfl (by kernel_rfl) (by kernel_rfl) (Eq.mp (by kernel_rfl) H)

end Go.Proofs.YtcfegbpoailbdaaDoor.Dr
