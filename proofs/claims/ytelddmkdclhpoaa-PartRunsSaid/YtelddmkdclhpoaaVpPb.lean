/- The verification conditions of Go functions, printed by wip/tools/vcprint.py. -/
import Derived.Test.YtelddmkdclhpoaaProg
import Derived.Test.YtelddmkdclhpoaaVpP
set_option linter.unusedVariables false
set_option maxRecDepth 100000
namespace Go.Proofs.Ytelddmkdclhpoaa
open Go.Vc
/-! ### 44 veneer/rootdb.Check$1 -/
def F44 (x0_0 : Int) (s0_1 : ByteArray) (s0_2 : ByteArray) (a0_3 : Option Addr) (l0_3 : Nat) (c0_3 : Nat) (qf0 : Addr) (h : Heap) (R : Value → Heap → Prop) : Prop :=
  newK h (.cells #[Value.int .i64 x0_0, Value.string s0_1, Value.string s0_2, Value.slice a0_3 l0_3 c0_3] 42) fun b2 h1 => ∃ s6 : ByteArray, Vc.cell h1 (((at0 b2).add 1).add 0) = some (Value.string s6) ∧ ∃ s9 : ByteArray, Vc.cell h1 ((qf0.add 1).add 0) = some (Value.string s9) ∧ R (Value.bool (seq s6 s9)) h1
def A44 : Ann := {  }
theorem F44_ent (x0_0 : Int) (s0_1 : ByteArray) (s0_2 : ByteArray) (a0_3 : Option Addr) (l0_3 : Nat) (c0_3 : Nat) (qf0 : Addr) (h : Heap) (R : Value → Heap → Prop) (H : F44 x0_0 s0_1 s0_2 a0_3 l0_3 c0_3 qf0 h R) : HEnt Try.prog 44 #[Value.agg #[Value.int .i64 x0_0, Value.string s0_1, Value.string s0_2, Value.slice a0_3 l0_3 c0_3], Value.pointer (some qf0)] h R :=
  hent A44 mixed Try.func44 rfl (by kernel_rfl) (by kernel_rfl) (Eq.mp (by kernel_rfl) H)

/-! ### 49 slices.IndexFunc[[]veneer/api.Pack,veneer/api.Pack] -/
def F49_k3 (I1 : Int → Heap → Prop) (M1 : Int → Heap → Nat) (m1 : Nat) (a0_0 : Option Addr) (n0_1 : Nat) (n0_2 : Nat) (q1 : Addr) (x7 : Int) (x8 : Int) (h : Heap) (R : Value → Heap → Prop) : Prop :=
  I1 (IntKind.i64.wrap (x8 + 1)) h ∧ M1 (IntKind.i64.wrap (x8 + 1)) h < m1
def F49_k2 (I1 : Int → Heap → Prop) (M1 : Int → Heap → Nat) (m1 : Nat) (a0_0 : Option Addr) (n0_1 : Nat) (n0_2 : Nat) (q1 : Addr) (x7 : Int) (x8 : Int) (h : Heap) (R : Value → Heap → Prop) : Prop :=
  ∃ q14 : Addr, a0_0 = some q14 ∧ (0 : Int) ≤ x8 ∧ x8 < (n0_1 : Int) ∧ ∃ x15_0 : Int, ∃ s15_1 : ByteArray, ∃ s15_2 : ByteArray, ∃ a15_3 : Option Addr, ∃ l15_3 : Nat, ∃ c15_3 : Nat, Vc.cell h ((q14.add (x8.toNat * 4)).add 0) = some (Value.int .i64 x15_0) ∧ Vc.cell h ((q14.add (x8.toNat * 4)).add 1) = some (Value.string s15_1) ∧ Vc.cell h ((q14.add (x8.toNat * 4)).add 2) = some (Value.string s15_2) ∧ Vc.cell h ((q14.add (x8.toNat * 4)).add 3) = some (Value.slice a15_3 l15_3 c15_3) ∧ 4 = 4 ∧ HCalls Try.prog 44 #[Value.agg #[Value.int .i64 x15_0, Value.string s15_1, Value.string s15_2, Value.slice a15_3 l15_3 c15_3], Value.pointer (some q1)] h fun r16 h1 => ∃ b16 : Bool, r16 = Value.bool b16 ∧ br b16 (R (Value.int .i64 x8) h1) (F49_k3 I1 M1 m1 a0_0 n0_1 n0_2 q1 x7 x8 h1 R)
def F49_k4 (h : Heap) (R : Value → Heap → Prop) : Prop :=
  R (Value.int .i64 (-1)) h
def F49_b1 (I1 : Int → Heap → Prop) (M1 : Int → Heap → Nat) (m1 : Nat) (a0_0 : Option Addr) (n0_1 : Nat) (n0_2 : Nat) (q1 : Addr) (x7 : Int) (x8 : Int) (h : Heap) (R : Value → Heap → Prop) : Prop :=
  br (decide ((x8 : Int) < x7)) (F49_k2 I1 M1 m1 a0_0 n0_1 n0_2 q1 x7 x8 h R) (F49_k4 h R)
def F49 (a0 : Option Addr) (l0 : Nat) (c0 : Nat) (qc1_0 : Addr) (h : Heap) (R : Value → Heap → Prop) : Prop :=
  ∃ (I1 : Int → Heap → Prop) (M1 : Int → Heap → Nat), I1 0 h ∧ ∀ h1 (x8 : Int), I1 x8 h1 → F49_b1 I1 M1 (M1 x8 h1) a0 l0 c0 qc1_0 (l0 : Int) x8 h1 R
def A49 : Ann := { loops := [(2, [(8, .int .i64)])] }
theorem F49_ent (a0 : Option Addr) (l0 : Nat) (c0 : Nat) (qc1_0 : Addr) (h : Heap) (R : Value → Heap → Prop) (H : F49 a0 l0 c0 qc1_0 h R) : HEnt Try.prog 49 #[Value.slice a0 l0 c0, Value.func (.func 44) #[] #[Value.pointer (some qc1_0)]] h R :=
  hent A49 mixed Try.func49 rfl (by kernel_rfl) (by kernel_rfl) (Eq.mp (by kernel_rfl) H)

end Go.Proofs.Ytelddmkdclhpoaa
