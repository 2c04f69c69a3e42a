import Derived.Test.YtnhnioodlciajaaProg
import Derived.Test.YtnhnioodlciajaaVcK

set_option linter.unusedVariables false
set_option maxRecDepth 100000
namespace Go.Proofs.Ytnhnioodlciajaa
open Go.Vc
theorem mixed : Try.prog.follows .mixedOrders = true := by kernel_rfl
/-! ### 20 veneer/wire.Check -/
def F20_k4 (q1 : Addr) (h : Heap) (R : Value → Heap → Prop) : Prop :=
  ∃ a52 : Option Addr, ∃ l52 : Nat, ∃ c52 : Nat, Vc.cell h (q1.add 5) = some (Value.slice a52 l52 c52) ∧ HCalls Try.prog 43 #[Value.slice a52 l52 c52] h fun r53 h1 => ∃ x53 : Int, r53 = Value.int .i64 x53 ∧ R (Value.int .i64 x53) h1
def F20_k3 (q1 : Addr) (b32 : Bool) (h : Heap) (R : Value → Heap → Prop) : Prop :=
  br b32 (R (Value.int .i64 5) h) (F20_k4 q1 h R)
def F20_k2 (q1 : Addr) (b12 : Bool) (h : Heap) (R : Value → Heap → Prop) : Prop :=
  br b12 (R (Value.int .i64 2) h) (∃ b34 : Bool, Vc.cell h (q1.add 4) = some (Value.bool b34) ∧ br b34 (∃ x37 : Int, Vc.cell h (q1.add 0) = some (Value.int .i64 x37) ∧ br ((x37 : Int) != 2) (F20_k3 q1 true h R) (∃ a42 : Option Addr, ∃ l42 : Nat, ∃ c42 : Nat, Vc.cell h (q1.add 5) = some (Value.slice a42 l42 c42) ∧ br (decide (((l42 : Int) : Int) > 0)) (∃ x47 : Int, Vc.cell h (q1.add 0) = some (Value.int .i64 x47) ∧ F20_k3 q1 ((x47 : Int) != 1) h R) (F20_k3 q1 false h R))) (∃ a42 : Option Addr, ∃ l42 : Nat, ∃ c42 : Nat, Vc.cell h (q1.add 5) = some (Value.slice a42 l42 c42) ∧ br (decide (((l42 : Int) : Int) > 0)) (∃ x47 : Int, Vc.cell h (q1.add 0) = some (Value.int .i64 x47) ∧ F20_k3 q1 ((x47 : Int) != 1) h R) (F20_k3 q1 false h R)))
def F20_k1 (q1 : Addr) (b3 : Bool) (h : Heap) (R : Value → Heap → Prop) : Prop :=
  br b3 (R (Value.int .i64 13) h) (∃ x14 : Int, Vc.cell h (q1.add 1) = some (Value.int .i64 x14) ∧ ∃ x16 : Int, Vc.cell h (q1.add 2) = some (Value.int .i64 x16) ∧ ∃ x19 : Int, Vc.cell h (q1.add 0) = some (Value.int .i64 x19) ∧ HCalls Try.prog 42 #[Value.agg #[Value.int .i64 x14, Value.int .i64 x16], Value.int .i64 x19] h fun r20 h1 => ∃ b20 : Bool, r20 = Value.bool b20 ∧ br (!b20) (F20_k2 q1 true h1 R) (∃ x24 : Int, Vc.cell h1 (q1.add 3) = some (Value.int .i64 x24) ∧ br (decide ((x24 : Int) < 1)) (F20_k2 q1 true h1 R) (∃ x29 : Int, Vc.cell h1 (q1.add 3) = some (Value.int .i64 x29) ∧ F20_k2 q1 (decide ((x29 : Int) > 1099511627776)) h1 R)))
def F20 (x0_0 : Int) (x0_1 : Int) (x0_2 : Int) (x0_3 : Int) (b0_4 : Bool) (a0_5 : Option Addr) (l0_5 : Nat) (c0_5 : Nat) (h : Heap) (R : Value → Heap → Prop) : Prop :=
  newK h (.cells #[Value.int .i64 x0_0, Value.int .i64 x0_1, Value.int .i64 x0_2, Value.int .i64 x0_3, Value.bool b0_4, Value.slice a0_5 l0_5 c0_5] 24) fun b1 h1 => ∃ x5 : Int, Vc.cell h1 ((at0 b1).add 0) = some (Value.int .i64 x5) ∧ br (decide ((x5 : Int) < 1)) (F20_k1 (at0 b1) true h1 R) (∃ x9 : Int, Vc.cell h1 ((at0 b1).add 0) = some (Value.int .i64 x9) ∧ F20_k1 (at0 b1) (decide ((x9 : Int) > 6)) h1 R)
def A20 : Ann := {  }
theorem F20_ent (x0_0 : Int) (x0_1 : Int) (x0_2 : Int) (x0_3 : Int) (b0_4 : Bool) (a0_5 : Option Addr) (l0_5 : Nat) (c0_5 : Nat) (h : Heap) (R : Value → Heap → Prop) (H : F20 x0_0 x0_1 x0_2 x0_3 b0_4 a0_5 l0_5 c0_5 h R) : HEnt Try.prog 20 #[Value.agg #[Value.int .i64 x0_0, Value.int .i64 x0_1, Value.int .i64 x0_2, Value.int .i64 x0_3, Value.bool b0_4, Value.slice a0_5 l0_5 c0_5]] h R :=
  hent A20 mixed Try.func20 rfl (by kernel_rfl) (by kernel_rfl) (Eq.mp (by kernel_rfl) H)

/-! ### 21 veneer/veneerref14.Check -/
def F21_k7 (q1 : Addr) (h : Heap) (R : Value → Heap → Prop) : Prop :=
  ∃ a81 : Option Addr, ∃ l81 : Nat, ∃ c81 : Nat, Vc.cell h (q1.add 5) = some (Value.slice a81 l81 c81) ∧ HCalls Try.prog 45 #[Value.slice a81 l81 c81] h fun r82 h1 => ∃ x82 : Int, r82 = Value.int .i64 x82 ∧ R (Value.int .i64 x82) h1
def F21_k6 (q1 : Addr) (b79 : Bool) (h : Heap) (R : Value → Heap → Prop) : Prop :=
  br b79 (R (Value.int .i64 5) h) (F21_k7 q1 h R)
def F21_k5 (q1 : Addr) (h : Heap) (R : Value → Heap → Prop) : Prop :=
  ∃ b63 : Bool, Vc.cell h (q1.add 4) = some (Value.bool b63) ∧ br b63 (∃ x66 : Int, Vc.cell h (q1.add 0) = some (Value.int .i64 x66) ∧ br ((x66 : Int) != 2) (F21_k6 q1 true h R) (∃ a71 : Option Addr, ∃ l71 : Nat, ∃ c71 : Nat, Vc.cell h (q1.add 5) = some (Value.slice a71 l71 c71) ∧ br (decide (((l71 : Int) : Int) > 0)) (∃ x76 : Int, Vc.cell h (q1.add 0) = some (Value.int .i64 x76) ∧ F21_k6 q1 ((x76 : Int) != 1) h R) (F21_k6 q1 false h R))) (∃ a71 : Option Addr, ∃ l71 : Nat, ∃ c71 : Nat, Vc.cell h (q1.add 5) = some (Value.slice a71 l71 c71) ∧ br (decide (((l71 : Int) : Int) > 0)) (∃ x76 : Int, Vc.cell h (q1.add 0) = some (Value.int .i64 x76) ∧ F21_k6 q1 ((x76 : Int) != 1) h R) (F21_k6 q1 false h R))
def F21_k4 (q1 : Addr) (b61 : Bool) (h : Heap) (R : Value → Heap → Prop) : Prop :=
  br b61 (R (Value.int .i64 2) h) (F21_k5 q1 h R)
def F21_k3 (q1 : Addr) (b3 : Bool) (h : Heap) (R : Value → Heap → Prop) : Prop :=
  br b3 (∃ x28 : Int, Vc.cell h (q1.add 1) = some (Value.int .i64 x28) ∧ br ((x28 : Int) != 0) (F21_k4 q1 true h R) (∃ x32 : Int, Vc.cell h (q1.add 2) = some (Value.int .i64 x32) ∧ HCalls Try.prog 44 #[Value.int .i64 x32] h fun r33 h1 => ∃ b33 : Bool, r33 = Value.bool b33 ∧ br (!b33) (F21_k4 q1 true h1 R) (br (!b3) (∃ x42 : Int, Vc.cell h1 (q1.add 2) = some (Value.int .i64 x42) ∧ br ((x42 : Int) != 0) (F21_k4 q1 true h1 R) (∃ x46 : Int, Vc.cell h1 (q1.add 1) = some (Value.int .i64 x46) ∧ HCalls Try.prog 44 #[Value.int .i64 x46] h1 fun r47 h2 => ∃ b47 : Bool, r47 = Value.bool b47 ∧ br (!b47) (F21_k4 q1 true h2 R) (∃ x54 : Int, Vc.cell h2 (q1.add 3) = some (Value.int .i64 x54) ∧ br (decide ((x54 : Int) < 1)) (F21_k4 q1 true h2 R) (∃ x59 : Int, Vc.cell h2 (q1.add 3) = some (Value.int .i64 x59) ∧ F21_k4 q1 (decide ((x59 : Int) > 1099511627776)) h2 R)))) (∃ x54 : Int, Vc.cell h1 (q1.add 3) = some (Value.int .i64 x54) ∧ br (decide ((x54 : Int) < 1)) (F21_k4 q1 true h1 R) (∃ x59 : Int, Vc.cell h1 (q1.add 3) = some (Value.int .i64 x59) ∧ F21_k4 q1 (decide ((x59 : Int) > 1099511627776)) h1 R))))) (br (!b3) (∃ x42 : Int, Vc.cell h (q1.add 2) = some (Value.int .i64 x42) ∧ br ((x42 : Int) != 0) (F21_k4 q1 true h R) (∃ x46 : Int, Vc.cell h (q1.add 1) = some (Value.int .i64 x46) ∧ HCalls Try.prog 44 #[Value.int .i64 x46] h fun r47 h1 => ∃ b47 : Bool, r47 = Value.bool b47 ∧ br (!b47) (F21_k4 q1 true h1 R) (∃ x54 : Int, Vc.cell h1 (q1.add 3) = some (Value.int .i64 x54) ∧ br (decide ((x54 : Int) < 1)) (F21_k4 q1 true h1 R) (∃ x59 : Int, Vc.cell h1 (q1.add 3) = some (Value.int .i64 x59) ∧ F21_k4 q1 (decide ((x59 : Int) > 1099511627776)) h1 R)))) (∃ x54 : Int, Vc.cell h (q1.add 3) = some (Value.int .i64 x54) ∧ br (decide ((x54 : Int) < 1)) (F21_k4 q1 true h R) (∃ x59 : Int, Vc.cell h (q1.add 3) = some (Value.int .i64 x59) ∧ F21_k4 q1 (decide ((x59 : Int) > 1099511627776)) h R)))
def F21_k2 (q1 : Addr) (h : Heap) (R : Value → Heap → Prop) : Prop :=
  ∃ x13 : Int, Vc.cell h (q1.add 0) = some (Value.int .i64 x13) ∧ br ((x13 : Int) == 1) (F21_k3 q1 true h R) (∃ x17 : Int, Vc.cell h (q1.add 0) = some (Value.int .i64 x17) ∧ br ((x17 : Int) == 3) (F21_k3 q1 true h R) (∃ x22 : Int, Vc.cell h (q1.add 0) = some (Value.int .i64 x22) ∧ F21_k3 q1 ((x22 : Int) == 4) h R))
def F21_k1 (q1 : Addr) (b11 : Bool) (h : Heap) (R : Value → Heap → Prop) : Prop :=
  br b11 (R (Value.int .i64 13) h) (F21_k2 q1 h R)
def F21 (x0_0 : Int) (x0_1 : Int) (x0_2 : Int) (x0_3 : Int) (b0_4 : Bool) (a0_5 : Option Addr) (l0_5 : Nat) (c0_5 : Nat) (h : Heap) (R : Value → Heap → Prop) : Prop :=
  newK h (.cells #[Value.int .i64 x0_0, Value.int .i64 x0_1, Value.int .i64 x0_2, Value.int .i64 x0_3, Value.bool b0_4, Value.slice a0_5 l0_5 c0_5] 24) fun b1 h1 => ∃ x5 : Int, Vc.cell h1 ((at0 b1).add 0) = some (Value.int .i64 x5) ∧ br (decide ((x5 : Int) < 1)) (F21_k1 (at0 b1) true h1 R) (∃ x9 : Int, Vc.cell h1 ((at0 b1).add 0) = some (Value.int .i64 x9) ∧ F21_k1 (at0 b1) (decide ((x9 : Int) > 6)) h1 R)
def A21 : Ann := {  }
theorem F21_ent (x0_0 : Int) (x0_1 : Int) (x0_2 : Int) (x0_3 : Int) (b0_4 : Bool) (a0_5 : Option Addr) (l0_5 : Nat) (c0_5 : Nat) (h : Heap) (R : Value → Heap → Prop) (H : F21 x0_0 x0_1 x0_2 x0_3 b0_4 a0_5 l0_5 c0_5 h R) : HEnt Try.prog 21 #[Value.agg #[Value.int .i64 x0_0, Value.int .i64 x0_1, Value.int .i64 x0_2, Value.int .i64 x0_3, Value.bool b0_4, Value.slice a0_5 l0_5 c0_5]] h R :=
  hent A21 mixed Try.func21 rfl (by kernel_rfl) (by kernel_rfl) (Eq.mp (by kernel_rfl) H)

/-! ### 23 veneer/veneerref14.Same -/
def F23 (x0_0 : Int) (x0_1 : Int) (x0_2 : Int) (x0_3 : Int) (b0_4 : Bool) (a0_5 : Option Addr) (l0_5 : Nat) (c0_5 : Nat) (x1_0 : Int) (x1_1 : Int) (x1_2 : Int) (x1_3 : Int) (b1_4 : Bool) (a1_5 : Option Addr) (l1_5 : Nat) (c1_5 : Nat) (h : Heap) (R : Value → Heap → Prop) : Prop :=
  newK h (.cells #[Value.int .i64 x0_0, Value.int .i64 x0_1, Value.int .i64 x0_2, Value.int .i64 x0_3, Value.bool b0_4, Value.slice a0_5 l0_5 c0_5] 24) fun b2 h1 => newK h1 (.cells #[Value.int .i64 x1_0, Value.int .i64 x1_1, Value.int .i64 x1_2, Value.int .i64 x1_3, Value.bool b1_4, Value.slice a1_5 l1_5 c1_5] 24) fun b3 h2 => ∃ x6 : Int, Vc.cell h2 ((at0 b2).add 0) = some (Value.int .i64 x6) ∧ ∃ x8 : Int, Vc.cell h2 ((at0 b3).add 0) = some (Value.int .i64 x8) ∧ br ((x6 : Int) == x8) (∃ x12 : Int, Vc.cell h2 ((at0 b2).add 1) = some (Value.int .i64 x12) ∧ ∃ x14 : Int, Vc.cell h2 ((at0 b3).add 1) = some (Value.int .i64 x14) ∧ br ((x12 : Int) == x14) (∃ x19 : Int, Vc.cell h2 ((at0 b2).add 2) = some (Value.int .i64 x19) ∧ ∃ x21 : Int, Vc.cell h2 ((at0 b3).add 2) = some (Value.int .i64 x21) ∧ br ((x19 : Int) == x21) (∃ x26 : Int, Vc.cell h2 ((at0 b2).add 3) = some (Value.int .i64 x26) ∧ ∃ x28 : Int, Vc.cell h2 ((at0 b3).add 3) = some (Value.int .i64 x28) ∧ br ((x26 : Int) == x28) (∃ b33 : Bool, Vc.cell h2 ((at0 b2).add 4) = some (Value.bool b33) ∧ ∃ b35 : Bool, Vc.cell h2 ((at0 b3).add 4) = some (Value.bool b35) ∧ br (b33 == b35) (∃ a40 : Option Addr, ∃ l40 : Nat, ∃ c40 : Nat, Vc.cell h2 ((at0 b2).add 5) = some (Value.slice a40 l40 c40) ∧ ∃ a42 : Option Addr, ∃ l42 : Nat, ∃ c42 : Nat, Vc.cell h2 ((at0 b3).add 5) = some (Value.slice a42 l42 c42) ∧ HCalls Try.prog 46 #[Value.slice a40 l40 c40, Value.slice a42 l42 c42] h2 fun r43 h3 => ∃ b43 : Bool, r43 = Value.bool b43 ∧ R (Value.bool b43) h3) (R (Value.bool false) h2)) (R (Value.bool false) h2)) (R (Value.bool false) h2)) (R (Value.bool false) h2)) (R (Value.bool false) h2)
def A23 : Ann := {  }
theorem F23_ent (x0_0 : Int) (x0_1 : Int) (x0_2 : Int) (x0_3 : Int) (b0_4 : Bool) (a0_5 : Option Addr) (l0_5 : Nat) (c0_5 : Nat) (x1_0 : Int) (x1_1 : Int) (x1_2 : Int) (x1_3 : Int) (b1_4 : Bool) (a1_5 : Option Addr) (l1_5 : Nat) (c1_5 : Nat) (h : Heap) (R : Value → Heap → Prop) (H : F23 x0_0 x0_1 x0_2 x0_3 b0_4 a0_5 l0_5 c0_5 x1_0 x1_1 x1_2 x1_3 b1_4 a1_5 l1_5 c1_5 h R) : HEnt Try.prog 23 #[Value.agg #[Value.int .i64 x0_0, Value.int .i64 x0_1, Value.int .i64 x0_2, Value.int .i64 x0_3, Value.bool b0_4, Value.slice a0_5 l0_5 c0_5], Value.agg #[Value.int .i64 x1_0, Value.int .i64 x1_1, Value.int .i64 x1_2, Value.int .i64 x1_3, Value.bool b1_4, Value.slice a1_5 l1_5 c1_5]] h R :=
  hent A23 mixed Try.func23 rfl (by kernel_rfl) (by kernel_rfl) (Eq.mp (by kernel_rfl) H)

/-! ### 42 (veneer/wire.ends).goes -/
def F42_k2 (q2 : Addr) (h : Heap) (R : Value → Heap → Prop) : Prop :=
  ∃ x22 : Int, Vc.cell h (q2.add 0) = some (Value.int .i64 x22) ∧ HCalls Try.prog 53 #[Value.int .i64 x22] h fun r23 h1 => ∃ b23 : Bool, r23 = Value.bool b23 ∧ br b23 (∃ x26 : Int, Vc.cell h1 (q2.add 1) = some (Value.int .i64 x26) ∧ R (Value.bool ((x26 : Int) == 0)) h1) (R (Value.bool false) h1)
def F42_k1 (q2 : Addr) (b14 : Bool) (h : Heap) (R : Value → Heap → Prop) : Prop :=
  br b14 (∃ x16 : Int, Vc.cell h (q2.add 1) = some (Value.int .i64 x16) ∧ ∃ x18 : Int, Vc.cell h (q2.add 0) = some (Value.int .i64 x18) ∧ storeK 1 h (q2.add 0) (Value.int .i64 x16) fun h1 => storeK 1 h1 (q2.add 1) (Value.int .i64 x18) fun h2 => F42_k2 q2 h2 R) (F42_k2 q2 h R)
def F42 (x0_0 : Int) (x0_1 : Int) (x1 : Int) (h : Heap) (R : Value → Heap → Prop) : Prop :=
  newK h (.cells #[Value.int .i64 x0_0, Value.int .i64 x0_1] 71) fun b2 h1 => br ((x1 : Int) == 1) (F42_k1 (at0 b2) true h1 R) (br ((x1 : Int) == 3) (F42_k1 (at0 b2) true h1 R) (F42_k1 (at0 b2) ((x1 : Int) == 4) h1 R))
def A42 : Ann := {  }
theorem F42_ent (x0_0 : Int) (x0_1 : Int) (x1 : Int) (h : Heap) (R : Value → Heap → Prop) (H : F42 x0_0 x0_1 x1 h R) : HEnt Try.prog 42 #[Value.agg #[Value.int .i64 x0_0, Value.int .i64 x0_1], Value.int .i64 x1] h R :=
  hent A42 mixed Try.func42 rfl (by kernel_rfl) (by kernel_rfl) (Eq.mp (by kernel_rfl) H)

/-! ### 43 veneer/rootdb.Check -/
def F43_k7 (I1 : Int → Int → Heap → Prop) (M1 : Int → Int → Heap → Nat) (m1 : Nat) (a0_0 : Option Addr) (n0_1 : Nat) (n0_2 : Nat) (x3 : Int) (a7_0 : Option Addr) (n7_1 : Nat) (n7_2 : Nat) (x8 : Int) (x9 : Int) (h : Heap) (R : Value → Heap → Prop) : Prop :=
  I1 x3 (IntKind.i64.wrap (x9 + 1)) h ∧ M1 x3 (IntKind.i64.wrap (x9 + 1)) h < m1
def F43_k6 (I1 : Int → Int → Heap → Prop) (M1 : Int → Int → Heap → Nat) (m1 : Nat) (a0_0 : Option Addr) (n0_1 : Nat) (n0_2 : Nat) (x3 : Int) (q5 : Addr) (a7_0 : Option Addr) (n7_1 : Nat) (n7_2 : Nat) (x8 : Int) (x9 : Int) (h : Heap) (R : Value → Heap → Prop) : Prop :=
  ∃ a36 : Option Addr, ∃ l36 : Nat, ∃ c36 : Nat, Vc.cell h ((q5.add 1).add 2) = some (Value.slice a36 l36 c36) ∧ ∀ x3_1 : Int, x3_1 = IntKind.i64.wrap (x3 + (l36 : Int)) → br (decide ((x3_1 : Int) > 16)) (R (Value.int .i64 3) h) (F43_k7 I1 M1 m1 a0_0 n0_1 n0_2 x3_1 a7_0 n7_1 n7_2 x8 x9 h R)
def F43_k5 (I1 : Int → Int → Heap → Prop) (M1 : Int → Int → Heap → Nat) (m1 : Nat) (a0_0 : Option Addr) (n0_1 : Nat) (n0_2 : Nat) (x3 : Int) (x4 : Int) (q5 : Addr) (a7_0 : Option Addr) (n7_1 : Nat) (n7_2 : Nat) (x8 : Int) (x9 : Int) (h : Heap) (R : Value → Heap → Prop) : Prop :=
  (0 : Int) ≤ 0 ∧ (0 : Int) ≤ x4 ∧ x4 ≤ (n0_2 : Int) ∧ HCalls Try.prog 55 #[Value.slice (cutAt n0_2 0 4 a0_0) (x4.toNat - 0) (n0_2 - 0), Value.func (.func 56) #[] #[Value.pointer (some q5)]] h fun r32 h1 => ∃ b32 : Bool, r32 = Value.bool b32 ∧ br b32 (R (Value.int .i64 8) h1) (F43_k6 I1 M1 m1 a0_0 n0_1 n0_2 x3 q5 a7_0 n7_1 n7_2 x8 x9 h1 R)
def F43_k4 (I1 : Int → Int → Heap → Prop) (M1 : Int → Int → Heap → Nat) (m1 : Nat) (a0_0 : Option Addr) (n0_1 : Nat) (n0_2 : Nat) (x3 : Int) (x4 : Int) (q5 : Addr) (a7_0 : Option Addr) (n7_1 : Nat) (n7_2 : Nat) (x8 : Int) (x9 : Int) (h : Heap) (R : Value → Heap → Prop) : Prop :=
  ∃ s23_0 : ByteArray, ∃ s23_1 : ByteArray, ∃ a23_2 : Option Addr, ∃ l23_2 : Nat, ∃ c23_2 : Nat, Vc.cell h ((q5.add 1).add 0) = some (Value.string s23_0) ∧ Vc.cell h ((q5.add 1).add 1) = some (Value.string s23_1) ∧ Vc.cell h ((q5.add 1).add 2) = some (Value.slice a23_2 l23_2 c23_2) ∧ 3 = 3 ∧ HCalls Try.prog 54 #[Value.agg #[Value.string s23_0, Value.string s23_1, Value.slice a23_2 l23_2 c23_2]] h fun r24 h1 => ∃ x24 : Int, r24 = Value.int .i64 x24 ∧ br ((x24 : Int) != 0) (R (Value.int .i64 x24) h1) (F43_k5 I1 M1 m1 a0_0 n0_1 n0_2 x3 x4 q5 a7_0 n7_1 n7_2 x8 x9 h1 R)
def F43_k3 (I1 : Int → Int → Heap → Prop) (M1 : Int → Int → Heap → Nat) (m1 : Nat) (a0_0 : Option Addr) (n0_1 : Nat) (n0_2 : Nat) (x3 : Int) (x4 : Int) (q5 : Addr) (a7_0 : Option Addr) (n7_1 : Nat) (n7_2 : Nat) (x8 : Int) (x9 : Int) (b21 : Bool) (h : Heap) (R : Value → Heap → Prop) : Prop :=
  br b21 (R (Value.int .i64 2) h) (F43_k4 I1 M1 m1 a0_0 n0_1 n0_2 x3 x4 q5 a7_0 n7_1 n7_2 x8 x9 h R)
def F43_k2 (I1 : Int → Int → Heap → Prop) (M1 : Int → Int → Heap → Nat) (m1 : Nat) (a0_0 : Option Addr) (n0_1 : Nat) (n0_2 : Nat) (x3 : Int) (a7_0 : Option Addr) (n7_1 : Nat) (n7_2 : Nat) (x8 : Int) (x9 : Int) (h : Heap) (R : Value → Heap → Prop) : Prop :=
  ∃ q12 : Addr, a7_0 = some q12 ∧ (0 : Int) ≤ x9 ∧ x9 < (n7_1 : Int) ∧ ∃ x13_0 : Int, ∃ s13_1 : ByteArray, ∃ s13_2 : ByteArray, ∃ a13_3 : Option Addr, ∃ l13_3 : Nat, ∃ c13_3 : Nat, Vc.cell h ((q12.add (x9.toNat * 4)).add 0) = some (Value.int .i64 x13_0) ∧ Vc.cell h ((q12.add (x9.toNat * 4)).add 1) = some (Value.string s13_1) ∧ Vc.cell h ((q12.add (x9.toNat * 4)).add 2) = some (Value.string s13_2) ∧ Vc.cell h ((q12.add (x9.toNat * 4)).add 3) = some (Value.slice a13_3 l13_3 c13_3) ∧ 4 = 4 ∧ newK h (.cells (zeroC Try.prog 68) 68) fun b5 h1 => storeK 4 h1 (at0 b5) (Value.agg #[Value.int .i64 x13_0, Value.string s13_1, Value.string s13_2, Value.slice a13_3 l13_3 c13_3]) fun h2 => ∃ x15 : Int, Vc.cell h2 ((at0 b5).add 0) = some (Value.int .i64 x15) ∧ br (decide ((x15 : Int) < 1)) (F43_k3 I1 M1 m1 a0_0 n0_1 n0_2 x3 x9 (at0 b5) a7_0 n7_1 n7_2 x8 x9 true h2 R) (∃ x19 : Int, Vc.cell h2 ((at0 b5).add 0) = some (Value.int .i64 x19) ∧ F43_k3 I1 M1 m1 a0_0 n0_1 n0_2 x3 x9 (at0 b5) a7_0 n7_1 n7_2 x8 x9 (decide ((x19 : Int) > 8)) h2 R)
def F43_k8 (h : Heap) (R : Value → Heap → Prop) : Prop :=
  R (Value.int .i64 0) h
def F43_b1 (I1 : Int → Int → Heap → Prop) (M1 : Int → Int → Heap → Nat) (m1 : Nat) (a0_0 : Option Addr) (n0_1 : Nat) (n0_2 : Nat) (x3 : Int) (a7_0 : Option Addr) (n7_1 : Nat) (n7_2 : Nat) (x8 : Int) (x9 : Int) (h : Heap) (R : Value → Heap → Prop) : Prop :=
  br (decide ((x9 : Int) < x8)) (F43_k2 I1 M1 m1 a0_0 n0_1 n0_2 x3 a7_0 n7_1 n7_2 x8 x9 h R) (F43_k8 h R)
def F43 (a0 : Option Addr) (l0 : Nat) (c0 : Nat) (h : Heap) (R : Value → Heap → Prop) : Prop :=
  ∀ x3 : Int, x3 = 0 → ∃ (I1 : Int → Int → Heap → Prop) (M1 : Int → Int → Heap → Nat), I1 x3 0 h ∧ ∀ h1 (x3_1 : Int) (x9 : Int), I1 x3_1 x9 h1 → F43_b1 I1 M1 (M1 x3_1 x9 h1) a0 l0 c0 x3_1 a0 l0 c0 (l0 : Int) x9 h1 R
def A43 : Ann := { bind := [3], loops := [(3, [(3, .int .i64), (9, .int .i64)])] }
theorem F43_ent (a0 : Option Addr) (l0 : Nat) (c0 : Nat) (h : Heap) (R : Value → Heap → Prop) (H : F43 a0 l0 c0 h R) : HEnt Try.prog 43 #[Value.slice a0 l0 c0] h R :=
  hent A43 mixed Try.func43 rfl (by kernel_rfl) (by kernel_rfl) (Eq.mp (by kernel_rfl) H)

/-! ### 44 veneer/veneerref14.Root -/
def F44 (x0 : Int) (h : Heap) (R : Value → Heap → Prop) : Prop :=
  br (decide ((x0 : Int) ≥ 1)) (R (Value.bool (decide ((x0 : Int) ≤ 6))) h) (R (Value.bool false) h)
def A44 : Ann := {  }
theorem F44_ent (x0 : Int) (h : Heap) (R : Value → Heap → Prop) (H : F44 x0 h R) : HEnt Try.prog 44 #[Value.int .i64 x0] h R :=
  hent A44 mixed Try.func44 rfl (by kernel_rfl) (by kernel_rfl) (Eq.mp (by kernel_rfl) H)

/-! ### 45 veneer/veneerref13.Check -/
def F45_k8 (I1 : Int → Int → Heap → Prop) (M1 : Int → Int → Heap → Nat) (m1 : Nat) (I6 : Int → Heap → Prop) (M6 : Int → Heap → Nat) (m6 : Nat) (a0_0 : Option Addr) (n0_1 : Nat) (n0_2 : Nat) (x3 : Int) (x4 : Int) (x6 : Int) (h : Heap) (R : Value → Heap → Prop) : Prop :=
  I6 (IntKind.i64.wrap (x6 + 1)) h ∧ M6 (IntKind.i64.wrap (x6 + 1)) h < m6
def F45_k7 (I1 : Int → Int → Heap → Prop) (M1 : Int → Int → Heap → Nat) (m1 : Nat) (I6 : Int → Heap → Prop) (M6 : Int → Heap → Nat) (m6 : Nat) (a0_0 : Option Addr) (n0_1 : Nat) (n0_2 : Nat) (x3 : Int) (x4 : Int) (x6 : Int) (h : Heap) (R : Value → Heap → Prop) : Prop :=
  ∃ q43 : Addr, a0_0 = some q43 ∧ (0 : Int) ≤ x6 ∧ x6 < (n0_1 : Int) ∧ ∃ s46 : ByteArray, Vc.cell h (((q43.add (x6.toNat * 4)).add 1).add 0) = some (Value.string s46) ∧ ∃ q49 : Addr, a0_0 = some q49 ∧ (0 : Int) ≤ x4 ∧ x4 < (n0_1 : Int) ∧ ∃ s52 : ByteArray, Vc.cell h (((q49.add (x4.toNat * 4)).add 1).add 0) = some (Value.string s52) ∧ ∀ h1, Cls false h h1 → br (seq s46 s52) (R (Value.int .i64 8) h1) (F45_k8 I1 M1 m1 I6 M6 m6 a0_0 n0_1 n0_2 x3 x4 x6 h1 R)
def F45_k10 (I1 : Int → Int → Heap → Prop) (M1 : Int → Int → Heap → Nat) (m1 : Nat) (a0_0 : Option Addr) (n0_1 : Nat) (n0_2 : Nat) (x3 : Int) (x4 : Int) (h : Heap) (R : Value → Heap → Prop) : Prop :=
  I1 x3 (IntKind.i64.wrap (x4 + 1)) h ∧ M1 x3 (IntKind.i64.wrap (x4 + 1)) h < m1
def F45_k9 (I1 : Int → Int → Heap → Prop) (M1 : Int → Int → Heap → Nat) (m1 : Nat) (a0_0 : Option Addr) (n0_1 : Nat) (n0_2 : Nat) (x3 : Int) (x4 : Int) (h : Heap) (R : Value → Heap → Prop) : Prop :=
  ∃ q57 : Addr, a0_0 = some q57 ∧ (0 : Int) ≤ x4 ∧ x4 < (n0_1 : Int) ∧ ∃ a60 : Option Addr, ∃ l60 : Nat, ∃ c60 : Nat, Vc.cell h (((q57.add (x4.toNat * 4)).add 1).add 2) = some (Value.slice a60 l60 c60) ∧ br (decide ((IntKind.i64.wrap (x3 + (l60 : Int)) : Int) > 16)) (R (Value.int .i64 3) h) (F45_k10 I1 M1 m1 a0_0 n0_1 n0_2 (IntKind.i64.wrap (x3 + (l60 : Int))) x4 h R)
def F45_b6 (I1 : Int → Int → Heap → Prop) (M1 : Int → Int → Heap → Nat) (m1 : Nat) (I6 : Int → Heap → Prop) (M6 : Int → Heap → Nat) (m6 : Nat) (a0_0 : Option Addr) (n0_1 : Nat) (n0_2 : Nat) (x3 : Int) (x4 : Int) (x6 : Int) (h : Heap) (R : Value → Heap → Prop) : Prop :=
  br (decide ((x6 : Int) < x4)) (F45_k7 I1 M1 m1 I6 M6 m6 a0_0 n0_1 n0_2 x3 x4 x6 h R) (F45_k9 I1 M1 m1 a0_0 n0_1 n0_2 x3 x4 h R)
def F45_k5 (I1 : Int → Int → Heap → Prop) (M1 : Int → Int → Heap → Nat) (m1 : Nat) (a0_0 : Option Addr) (n0_1 : Nat) (n0_2 : Nat) (x3 : Int) (x4 : Int) (h : Heap) (R : Value → Heap → Prop) : Prop :=
  ∃ (I6 : Int → Heap → Prop) (M6 : Int → Heap → Nat), I6 0 h ∧ ∀ h1 (x6 : Int), I6 x6 h1 → F45_b6 I1 M1 m1 I6 M6 (M6 x6 h1) a0_0 n0_1 n0_2 x3 x4 x6 h1 R
def F45_k4 (I1 : Int → Int → Heap → Prop) (M1 : Int → Int → Heap → Nat) (m1 : Nat) (a0_0 : Option Addr) (n0_1 : Nat) (n0_2 : Nat) (x3 : Int) (x4 : Int) (h : Heap) (R : Value → Heap → Prop) : Prop :=
  ∃ q29 : Addr, a0_0 = some q29 ∧ (0 : Int) ≤ x4 ∧ x4 < (n0_1 : Int) ∧ ∃ s31_0 : ByteArray, ∃ s31_1 : ByteArray, ∃ a31_2 : Option Addr, ∃ l31_2 : Nat, ∃ c31_2 : Nat, Vc.cell h (((q29.add (x4.toNat * 4)).add 1).add 0) = some (Value.string s31_0) ∧ Vc.cell h (((q29.add (x4.toNat * 4)).add 1).add 1) = some (Value.string s31_1) ∧ Vc.cell h (((q29.add (x4.toNat * 4)).add 1).add 2) = some (Value.slice a31_2 l31_2 c31_2) ∧ 3 = 3 ∧ HCalls Try.prog 57 #[Value.agg #[Value.string s31_0, Value.string s31_1, Value.slice a31_2 l31_2 c31_2]] h fun r32 h1 => ∃ x32 : Int, r32 = Value.int .i64 x32 ∧ br ((x32 : Int) != 0) (R (Value.int .i64 x32) h1) (F45_k5 I1 M1 m1 a0_0 n0_1 n0_2 x3 x4 h1 R)
def F45_k3 (I1 : Int → Int → Heap → Prop) (M1 : Int → Int → Heap → Nat) (m1 : Nat) (a0_0 : Option Addr) (n0_1 : Nat) (n0_2 : Nat) (x3 : Int) (x4 : Int) (b26 : Bool) (h : Heap) (R : Value → Heap → Prop) : Prop :=
  br b26 (R (Value.int .i64 2) h) (F45_k4 I1 M1 m1 a0_0 n0_1 n0_2 x3 x4 h R)
def F45_k2 (I1 : Int → Int → Heap → Prop) (M1 : Int → Int → Heap → Nat) (m1 : Nat) (a0_0 : Option Addr) (n0_1 : Nat) (n0_2 : Nat) (x3 : Int) (x4 : Int) (h : Heap) (R : Value → Heap → Prop) : Prop :=
  ∃ q15 : Addr, a0_0 = some q15 ∧ (0 : Int) ≤ x4 ∧ x4 < (n0_1 : Int) ∧ ∃ x17 : Int, Vc.cell h ((q15.add (x4.toNat * 4)).add 0) = some (Value.int .i64 x17) ∧ br (decide ((x17 : Int) < 1)) (F45_k3 I1 M1 m1 a0_0 n0_1 n0_2 x3 x4 true h R) (∃ q22 : Addr, a0_0 = some q22 ∧ (0 : Int) ≤ x4 ∧ x4 < (n0_1 : Int) ∧ ∃ x24 : Int, Vc.cell h ((q22.add (x4.toNat * 4)).add 0) = some (Value.int .i64 x24) ∧ F45_k3 I1 M1 m1 a0_0 n0_1 n0_2 x3 x4 (decide ((x24 : Int) > 8)) h R)
def F45_k11 (h : Heap) (R : Value → Heap → Prop) : Prop :=
  R (Value.int .i64 0) h
def F45_b1 (I1 : Int → Int → Heap → Prop) (M1 : Int → Int → Heap → Nat) (m1 : Nat) (a0_0 : Option Addr) (n0_1 : Nat) (n0_2 : Nat) (x3 : Int) (x4 : Int) (h : Heap) (R : Value → Heap → Prop) : Prop :=
  br (decide ((x4 : Int) < (n0_1 : Int))) (F45_k2 I1 M1 m1 a0_0 n0_1 n0_2 x3 x4 h R) (F45_k11 h R)
def F45 (a0 : Option Addr) (l0 : Nat) (c0 : Nat) (h : Heap) (R : Value → Heap → Prop) : Prop :=
  ∃ (I1 : Int → Int → Heap → Prop) (M1 : Int → Int → Heap → Nat), I1 0 0 h ∧ ∀ h1 (x3 : Int) (x4 : Int), I1 x3 x4 h1 → F45_b1 I1 M1 (M1 x3 x4 h1) a0 l0 c0 x3 x4 h1 R
def A45 : Ann := { loops := [(3, [(3, .int .i64), (4, .int .i64)]), (11, [(6, .int .i64)])], draws := [(13, 0, 13)] }
theorem F45_ent (a0 : Option Addr) (l0 : Nat) (c0 : Nat) (h : Heap) (R : Value → Heap → Prop) (H : F45 a0 l0 c0 h R) : HEnt Try.prog 45 #[Value.slice a0 l0 c0] h R :=
  hent A45 mixed Try.func45 rfl (by kernel_rfl) (by kernel_rfl) (Eq.mp (by kernel_rfl) H)

/-! ### 46 veneer/veneerref13.Same -/
def F46_k5 (I2 : Int → Heap → Prop) (M2 : Int → Heap → Nat) (m2 : Nat) (a0_0 : Option Addr) (n0_1 : Nat) (n0_2 : Nat) (a1_0 : Option Addr) (n1_1 : Nat) (n1_2 : Nat) (x5 : Int) (h : Heap) (R : Value → Heap → Prop) : Prop :=
  ∀ x5_1 : Int, x5_1 = IntKind.i64.wrap (x5 + 1) → I2 x5_1 h ∧ M2 x5_1 h < m2
def F46_k4 (I2 : Int → Heap → Prop) (M2 : Int → Heap → Nat) (m2 : Nat) (a0_0 : Option Addr) (n0_1 : Nat) (n0_2 : Nat) (a1_0 : Option Addr) (n1_1 : Nat) (n1_2 : Nat) (x5 : Int) (b41 : Bool) (h : Heap) (R : Value → Heap → Prop) : Prop :=
  br b41 (R (Value.bool false) h) (F46_k5 I2 M2 m2 a0_0 n0_1 n0_2 a1_0 n1_1 n1_2 x5 h R)
def F46_k3 (I2 : Int → Heap → Prop) (M2 : Int → Heap → Nat) (m2 : Nat) (a0_0 : Option Addr) (n0_1 : Nat) (n0_2 : Nat) (a1_0 : Option Addr) (n1_1 : Nat) (n1_2 : Nat) (x5 : Int) (h : Heap) (R : Value → Heap → Prop) : Prop :=
  ∃ q19 : Addr, a0_0 = some q19 ∧ (0 : Int) ≤ x5 ∧ x5 < (n0_1 : Int) ∧ ∃ x21 : Int, Vc.cell h ((q19.add (x5.toNat * 4)).add 0) = some (Value.int .i64 x21) ∧ ∃ q24 : Addr, a1_0 = some q24 ∧ (0 : Int) ≤ x5 ∧ x5 < (n1_1 : Int) ∧ ∃ x26 : Int, Vc.cell h ((q24.add (x5.toNat * 4)).add 0) = some (Value.int .i64 x26) ∧ br ((x21 : Int) != x26) (∀ h1, Cls true h h1 → F46_k4 I2 M2 m2 a0_0 n0_1 n0_2 a1_0 n1_1 n1_2 x5 true h1 R) (∃ q31 : Addr, a0_0 = some q31 ∧ (0 : Int) ≤ x5 ∧ x5 < (n0_1 : Int) ∧ ∃ s33_0 : ByteArray, ∃ s33_1 : ByteArray, ∃ a33_2 : Option Addr, ∃ l33_2 : Nat, ∃ c33_2 : Nat, Vc.cell h (((q31.add (x5.toNat * 4)).add 1).add 0) = some (Value.string s33_0) ∧ Vc.cell h (((q31.add (x5.toNat * 4)).add 1).add 1) = some (Value.string s33_1) ∧ Vc.cell h (((q31.add (x5.toNat * 4)).add 1).add 2) = some (Value.slice a33_2 l33_2 c33_2) ∧ 3 = 3 ∧ ∃ q36 : Addr, a1_0 = some q36 ∧ (0 : Int) ≤ x5 ∧ x5 < (n1_1 : Int) ∧ ∃ s38_0 : ByteArray, ∃ s38_1 : ByteArray, ∃ a38_2 : Option Addr, ∃ l38_2 : Nat, ∃ c38_2 : Nat, Vc.cell h (((q36.add (x5.toNat * 4)).add 1).add 0) = some (Value.string s38_0) ∧ Vc.cell h (((q36.add (x5.toNat * 4)).add 1).add 1) = some (Value.string s38_1) ∧ Vc.cell h (((q36.add (x5.toNat * 4)).add 1).add 2) = some (Value.slice a38_2 l38_2 c38_2) ∧ 3 = 3 ∧ ∃ b39 : Bool, (∀ h1, Cls true h h1 → HEnt Try.prog 58 #[Value.agg #[Value.string s33_0, Value.string s33_1, Value.slice a33_2 l33_2 c33_2], Value.agg #[Value.string s38_0, Value.string s38_1, Value.slice a38_2 l38_2 c38_2]] h1 fun v h2 => v = Value.bool b39 ∧ Cls true h1 h2) ∧ ∀ h1, Cls true h h1 → F46_k4 I2 M2 m2 a0_0 n0_1 n0_2 a1_0 n1_1 n1_2 x5 (!b39) h1 R)
def F46_k6 (h : Heap) (R : Value → Heap → Prop) : Prop :=
  R (Value.bool true) h
def F46_b2 (I2 : Int → Heap → Prop) (M2 : Int → Heap → Nat) (m2 : Nat) (a0_0 : Option Addr) (n0_1 : Nat) (n0_2 : Nat) (a1_0 : Option Addr) (n1_1 : Nat) (n1_2 : Nat) (x5 : Int) (h : Heap) (R : Value → Heap → Prop) : Prop :=
  br (decide ((x5 : Int) < (n0_1 : Int))) (F46_k3 I2 M2 m2 a0_0 n0_1 n0_2 a1_0 n1_1 n1_2 x5 h R) (F46_k6 h R)
def F46_k1 (a0_0 : Option Addr) (n0_1 : Nat) (n0_2 : Nat) (a1_0 : Option Addr) (n1_1 : Nat) (n1_2 : Nat) (h : Heap) (R : Value → Heap → Prop) : Prop :=
  ∀ x5 : Int, x5 = 0 → ∃ (I2 : Int → Heap → Prop) (M2 : Int → Heap → Nat), I2 x5 h ∧ ∀ h1 (x5_1 : Int), I2 x5_1 h1 → F46_b2 I2 M2 (M2 x5_1 h1) a0_0 n0_1 n0_2 a1_0 n1_1 n1_2 x5_1 h1 R
def F46 (a0 : Option Addr) (l0 : Nat) (c0 : Nat) (a1 : Option Addr) (l1 : Nat) (c1 : Nat) (h : Heap) (R : Value → Heap → Prop) : Prop :=
  br (((l0 : Int) : Int) != (l1 : Int)) (R (Value.bool false) h) (F46_k1 a0 l0 c0 a1 l1 c1 h R)
def A46 : Ann := { bind := [5], loops := [(4, [(5, .int .i64)])], draws := [(6, 1, 25)] }
theorem F46_ent (a0 : Option Addr) (l0 : Nat) (c0 : Nat) (a1 : Option Addr) (l1 : Nat) (c1 : Nat) (h : Heap) (R : Value → Heap → Prop) (H : F46 a0 l0 c0 a1 l1 c1 h R) : HEnt Try.prog 46 #[Value.slice a0 l0 c0, Value.slice a1 l1 c1] h R :=
  hent A46 mixed Try.func46 rfl (by kernel_rfl) (by kernel_rfl) (Eq.mp (by kernel_rfl) H)

/-! ### 53 veneer/wire.root -/
def F53 (x0 : Int) (h : Heap) (R : Value → Heap → Prop) : Prop :=
  br (decide ((x0 : Int) ≥ 1)) (R (Value.bool (decide ((x0 : Int) ≤ 6))) h) (R (Value.bool false) h)
def A53 : Ann := {  }
theorem F53_ent (x0 : Int) (h : Heap) (R : Value → Heap → Prop) (H : F53 x0 h R) : HEnt Try.prog 53 #[Value.int .i64 x0] h R :=
  hent A53 mixed Try.func53 rfl (by kernel_rfl) (by kernel_rfl) (Eq.mp (by kernel_rfl) H)

/-! ### 54 veneer/manifest.Check -/
def F54_k8 (I3 : Int → Heap → Prop) (M3 : Int → Heap → Nat) (m3 : Nat) (m3_1 : Option Nat) (a29_0 : Option Addr) (n29_1 : Nat) (n29_2 : Nat) (x30 : Int) (x31 : Int) (h : Heap) (R : Value → Heap → Prop) : Prop :=
  I3 (IntKind.i64.wrap (x31 + 1)) h ∧ M3 (IntKind.i64.wrap (x31 + 1)) h < m3
def F54_k7 (I3 : Int → Heap → Prop) (M3 : Int → Heap → Nat) (m3 : Nat) (m3_1 : Option Nat) (q5 : Addr) (a29_0 : Option Addr) (n29_1 : Nat) (n29_2 : Nat) (x30 : Int) (x31 : Int) (h : Heap) (R : Value → Heap → Prop) : Prop :=
  ∃ Rl : Heap → Heap → Prop, (∀ h, Rl h h) ∧ (∀ a b c, Rl a b → Rl b c → Rl a c) ∧ ∃ cs50 : Array Value, cs50.size = 32 ∧ (∀ w : World, Rl h w.heap → (loadVar 84 (q5.add 0)).run Try.prog w = .ok (Value.agg cs50) w) ∧ (semK Try.prog (Instr.lookup 95 (Value.map m3_1) (Value.agg cs50) false) h fun v51 h1 => ∃ x51 : Int, v51 = Value.int .i64 x51 ∧ Rl h h1 ∧ semK Try.prog (Instr.mapEntry 95 (Value.map m3_1) (Value.agg cs50)) h1 fun v53 h2 => ∃ x53 : Int, ∃ n53 : Int, v53 = Value.tuple #[Value.int .i64 x53, Value.int .i64 n53] ∧ Rl h1 h2 ∧ semU Try.prog (Instr.entryStore 95 (Value.map m3_1) (Value.int .i64 n53) (Value.int .i64 (IntKind.i64.wrap (x51 + 1)))) h2 fun h3 => Rl h2 h3 ∧ F54_k8 I3 M3 m3 m3_1 a29_0 n29_1 n29_2 x30 x31 h3 R) ∧ semK Try.prog (Instr.mapEntry 95 (Value.map m3_1) (Value.agg cs50)) h fun v53 h1 => ∃ x53 : Int, ∃ n53 : Int, v53 = Value.tuple #[Value.int .i64 x53, Value.int .i64 n53] ∧ Rl h h1 ∧ semK Try.prog (Instr.lookup 95 (Value.map m3_1) (Value.agg cs50) false) h1 fun v51 h2 => ∃ x51 : Int, v51 = Value.int .i64 x51 ∧ Rl h1 h2 ∧ semU Try.prog (Instr.entryStore 95 (Value.map m3_1) (Value.int .i64 n53) (Value.int .i64 (IntKind.i64.wrap (x51 + 1)))) h2 fun h3 => Rl h2 h3 ∧ F54_k8 I3 M3 m3 m3_1 a29_0 n29_1 n29_2 x30 x31 h3 R
def F54_k6 (I3 : Int → Heap → Prop) (M3 : Int → Heap → Nat) (m3 : Nat) (m3_1 : Option Nat) (q5 : Addr) (a29_0 : Option Addr) (n29_1 : Nat) (n29_2 : Nat) (x30 : Int) (x31 : Int) (h : Heap) (R : Value → Heap → Prop) : Prop :=
  ∃ cs45 : Array Value, cs45.size = 32 ∧ CellsAt h (q5.add 0) cs45.toList ∧ semK Try.prog (Instr.lookup 95 (Value.map m3_1) (Value.agg cs45) false) h fun v46 h1 => ∃ x46 : Int, v46 = Value.int .i64 x46 ∧ br (decide ((x46 : Int) > 0)) (R (Value.int .i64 8) h1) (F54_k7 I3 M3 m3 m3_1 q5 a29_0 n29_1 n29_2 x30 x31 h1 R)
def F54_k5 (I3 : Int → Heap → Prop) (M3 : Int → Heap → Nat) (m3 : Nat) (m3_1 : Option Nat) (q5 : Addr) (a29_0 : Option Addr) (n29_1 : Nat) (n29_2 : Nat) (x30 : Int) (x31 : Int) (b42 : Bool) (h : Heap) (R : Value → Heap → Prop) : Prop :=
  br b42 (R (Value.int .i64 2) h) (F54_k6 I3 M3 m3 m3_1 q5 a29_0 n29_1 n29_2 x30 x31 h R)
def F54_k4 (I3 : Int → Heap → Prop) (M3 : Int → Heap → Nat) (m3 : Nat) (m3_1 : Option Nat) (a29_0 : Option Addr) (n29_1 : Nat) (n29_2 : Nat) (x30 : Int) (x31 : Int) (h : Heap) (R : Value → Heap → Prop) : Prop :=
  ∃ q33 : Addr, a29_0 = some q33 ∧ (0 : Int) ≤ x31 ∧ x31 < (n29_1 : Int) ∧ ∃ cs34 : Array Value, cs34.size = 33 ∧ CellsAt h (q33.add (x31.toNat * 33)) cs34.toList ∧ newK h (.cells (zeroC Try.prog 86) 86) fun b5 h1 => storeK 33 h1 (at0 b5) (Value.agg cs34) fun h2 => ∃ x36 : Int, Vc.cell h2 ((at0 b5).add 32) = some (Value.int .i64 x36) ∧ br (decide ((x36 : Int) < 0)) (F54_k5 I3 M3 m3 m3_1 (at0 b5) a29_0 n29_1 n29_2 x30 x31 true h2 R) (∃ x40 : Int, Vc.cell h2 ((at0 b5).add 32) = some (Value.int .i64 x40) ∧ F54_k5 I3 M3 m3 m3_1 (at0 b5) a29_0 n29_1 n29_2 x30 x31 (decide ((x40 : Int) > 2147483647)) h2 R)
def F54_k9 (h : Heap) (R : Value → Heap → Prop) : Prop :=
  R (Value.int .i64 0) h
def F54_b3 (I3 : Int → Heap → Prop) (M3 : Int → Heap → Nat) (m3 : Nat) (m3_1 : Option Nat) (a29_0 : Option Addr) (n29_1 : Nat) (n29_2 : Nat) (x30 : Int) (x31 : Int) (h : Heap) (R : Value → Heap → Prop) : Prop :=
  br (decide ((x31 : Int) < x30)) (F54_k4 I3 M3 m3 m3_1 a29_0 n29_1 n29_2 x30 x31 h R) (F54_k9 h R)
def F54_k2 (q1 : Addr) (h : Heap) (R : Value → Heap → Prop) : Prop :=
  newK h (.map #[] 0) fun b27 h1 => ∃ a29 : Option Addr, ∃ l29 : Nat, ∃ c29 : Nat, Vc.cell h1 (q1.add 2) = some (Value.slice a29 l29 c29) ∧ ∃ (I3 : Int → Heap → Prop) (M3 : Int → Heap → Nat), I3 0 h1 ∧ ∀ h2 (x31 : Int), I3 x31 h2 → F54_b3 I3 M3 (M3 x31 h2) (some b27) a29 l29 c29 (l29 : Int) x31 h2 R
def F54_k1 (q1 : Addr) (b6 : Bool) (h : Heap) (R : Value → Heap → Prop) : Prop :=
  br b6 (R (Value.int .i64 2) h) (∃ a19 : Option Addr, ∃ l19 : Nat, ∃ c19 : Nat, Vc.cell h (q1.add 2) = some (Value.slice a19 l19 c19) ∧ br (((l19 : Int) : Int) == 0) (R (Value.int .i64 9) h) (∃ a24 : Option Addr, ∃ l24 : Nat, ∃ c24 : Nat, Vc.cell h (q1.add 2) = some (Value.slice a24 l24 c24) ∧ br (decide (((l24 : Int) : Int) > 8)) (R (Value.int .i64 3) h) (F54_k2 q1 h R)))
def F54 (s0_0 : ByteArray) (s0_1 : ByteArray) (a0_2 : Option Addr) (l0_2 : Nat) (c0_2 : Nat) (h : Heap) (R : Value → Heap → Prop) : Prop :=
  newK h (.cells #[Value.string s0_0, Value.string s0_1, Value.slice a0_2 l0_2 c0_2] 66) fun b1 h1 => ∃ s8 : ByteArray, Vc.cell h1 ((at0 b1).add 0) = some (Value.string s8) ∧ HCalls Try.prog 61 #[Value.string s8] h1 fun r9 h2 => ∃ b9 : Bool, r9 = Value.bool b9 ∧ br (!b9) (F54_k1 (at0 b1) true h2 R) (∃ s13 : ByteArray, Vc.cell h2 ((at0 b1).add 1) = some (Value.string s13) ∧ HCalls Try.prog 61 #[Value.string s13] h2 fun r14 h3 => ∃ b14 : Bool, r14 = Value.bool b14 ∧ F54_k1 (at0 b1) (!b14) h3 R)
def A54 : Ann := { loops := [(9, [(31, .int .i64)])], draws := [(15, 3, 0)], mixes := [(15, .quiet 0 (.quiet 1 (.quiet 2 (.two 3 (.quiet 4 (.one 5 (.quiet 6 (.one 7 (.done))))) 5 (.quiet 6 (.one 3 (.quiet 4 (.one 7 (.done)))))))))] }
theorem F54_ent (s0_0 : ByteArray) (s0_1 : ByteArray) (a0_2 : Option Addr) (l0_2 : Nat) (c0_2 : Nat) (h : Heap) (R : Value → Heap → Prop) (H : F54 s0_0 s0_1 a0_2 l0_2 c0_2 h R) : HEnt Try.prog 54 #[Value.agg #[Value.string s0_0, Value.string s0_1, Value.slice a0_2 l0_2 c0_2]] h R :=
  hent A54 mixed Try.func54 rfl (by kernel_rfl) (by kernel_rfl) (Eq.mp (by kernel_rfl) H)

/-! ### 55 slices.ContainsFunc[[]veneer/api.Pack,veneer/api.Pack] -/
def F55 (a0 : Option Addr) (l0 : Nat) (c0 : Nat) (qc1_0 : Addr) (h : Heap) (R : Value → Heap → Prop) : Prop :=
  HCalls Try.prog 62 #[Value.slice a0 l0 c0, Value.func (.func 56) #[] #[Value.pointer (some qc1_0)]] h fun r7 h1 => ∃ x7 : Int, r7 = Value.int .i64 x7 ∧ R (Value.bool (decide ((x7 : Int) ≥ 0))) h1
def A55 : Ann := {  }
theorem F55_ent (a0 : Option Addr) (l0 : Nat) (c0 : Nat) (qc1_0 : Addr) (h : Heap) (R : Value → Heap → Prop) (H : F55 a0 l0 c0 qc1_0 h R) : HEnt Try.prog 55 #[Value.slice a0 l0 c0, Value.func (.func 56) #[] #[Value.pointer (some qc1_0)]] h R :=
  hent A55 mixed Try.func55 rfl (by kernel_rfl) (by kernel_rfl) (Eq.mp (by kernel_rfl) H)

/-! ### 56 veneer/rootdb.Check$1 -/
def F56 (x0_0 : Int) (s0_1 : ByteArray) (s0_2 : ByteArray) (a0_3 : Option Addr) (l0_3 : Nat) (c0_3 : Nat) (qf0 : Addr) (h : Heap) (R : Value → Heap → Prop) : Prop :=
  newK h (.cells #[Value.int .i64 x0_0, Value.string s0_1, Value.string s0_2, Value.slice a0_3 l0_3 c0_3] 68) fun b2 h1 => ∃ s6 : ByteArray, Vc.cell h1 (((at0 b2).add 1).add 0) = some (Value.string s6) ∧ ∃ s9 : ByteArray, Vc.cell h1 ((qf0.add 1).add 0) = some (Value.string s9) ∧ R (Value.bool (seq s6 s9)) h1
def A56 : Ann := {  }
theorem F56_ent (x0_0 : Int) (s0_1 : ByteArray) (s0_2 : ByteArray) (a0_3 : Option Addr) (l0_3 : Nat) (c0_3 : Nat) (qf0 : Addr) (h : Heap) (R : Value → Heap → Prop) (H : F56 x0_0 s0_1 s0_2 a0_3 l0_3 c0_3 qf0 h R) : HEnt Try.prog 56 #[Value.agg #[Value.int .i64 x0_0, Value.string s0_1, Value.string s0_2, Value.slice a0_3 l0_3 c0_3], Value.pointer (some qf0)] h R :=
  hent A56 mixed Try.func56 rfl (by kernel_rfl) (by kernel_rfl) (Eq.mp (by kernel_rfl) H)

/-! ### 57 veneer/veneerref07.Check -/
def F57_k11 (I5 : Int → Heap → Prop) (M5 : Int → Heap → Nat) (m5 : Nat) (I9 : Int → Heap → Prop) (M9 : Int → Heap → Nat) (m9 : Nat) (q1 : Addr) (x3 : Int) (x4 : Int) (h : Heap) (R : Value → Heap → Prop) : Prop :=
  ∀ x4_1 : Int, x4_1 = IntKind.i64.wrap (x4 + 1) → I9 x4_1 h ∧ M9 x4_1 h < m9
def F57_k10 (I5 : Int → Heap → Prop) (M5 : Int → Heap → Nat) (m5 : Nat) (I9 : Int → Heap → Prop) (M9 : Int → Heap → Nat) (m9 : Nat) (q1 : Addr) (x3 : Int) (x4 : Int) (h : Heap) (R : Value → Heap → Prop) : Prop :=
  ∃ a52 : Option Addr, ∃ l52 : Nat, ∃ c52 : Nat, Vc.cell h (q1.add 2) = some (Value.slice a52 l52 c52) ∧ ∃ q54 : Addr, a52 = some q54 ∧ (0 : Int) ≤ x4 ∧ x4 < (l52 : Int) ∧ ∃ cs56 : Array Value, cs56.size = 32 ∧ CellsAt h ((q54.add (x4.toNat * 33)).add 0) cs56.toList ∧ ∃ a58 : Option Addr, ∃ l58 : Nat, ∃ c58 : Nat, Vc.cell h (q1.add 2) = some (Value.slice a58 l58 c58) ∧ ∃ q60 : Addr, a58 = some q60 ∧ (0 : Int) ≤ x3 ∧ x3 < (l58 : Int) ∧ ∃ cs62 : Array Value, cs62.size = 32 ∧ CellsAt h ((q60.add (x3.toNat * 33)).add 0) cs62.toList ∧ ∃ e63 : Bool, (∀ w : World, (Op.equal 84 (Value.agg cs56) (Value.agg cs62)).run Try.prog w = .ok e63 w) ∧ Try.prog.eqGuardType Try.prog.depth 84 = false ∧ ∀ h1, Cls false h h1 → br e63 (R (Value.int .i64 8) h1) (F57_k11 I5 M5 m5 I9 M9 m9 q1 x3 x4 h1 R)
def F57_k12 (I5 : Int → Heap → Prop) (M5 : Int → Heap → Nat) (m5 : Nat) (q1 : Addr) (x3 : Int) (h : Heap) (R : Value → Heap → Prop) : Prop :=
  ∀ x3_1 : Int, x3_1 = IntKind.i64.wrap (x3 + 1) → I5 x3_1 h ∧ M5 x3_1 h < m5
def F57_b9 (I5 : Int → Heap → Prop) (M5 : Int → Heap → Nat) (m5 : Nat) (I9 : Int → Heap → Prop) (M9 : Int → Heap → Nat) (m9 : Nat) (q1 : Addr) (x3 : Int) (x4 : Int) (h : Heap) (R : Value → Heap → Prop) : Prop :=
  br (decide ((x4 : Int) < x3)) (F57_k10 I5 M5 m5 I9 M9 m9 q1 x3 x4 h R) (F57_k12 I5 M5 m5 q1 x3 h R)
def F57_k8 (I5 : Int → Heap → Prop) (M5 : Int → Heap → Nat) (m5 : Nat) (q1 : Addr) (x3 : Int) (h : Heap) (R : Value → Heap → Prop) : Prop :=
  ∀ x4 : Int, x4 = 0 → ∃ (I9 : Int → Heap → Prop) (M9 : Int → Heap → Nat), I9 x4 h ∧ ∀ h1 (x4_1 : Int), I9 x4_1 h1 → F57_b9 I5 M5 m5 I9 M9 (M9 x4_1 h1) q1 x3 x4_1 h1 R
def F57_k7 (I5 : Int → Heap → Prop) (M5 : Int → Heap → Nat) (m5 : Nat) (q1 : Addr) (x3 : Int) (b45 : Bool) (h : Heap) (R : Value → Heap → Prop) : Prop :=
  br b45 (R (Value.int .i64 2) h) (F57_k8 I5 M5 m5 q1 x3 h R)
def F57_k6 (I5 : Int → Heap → Prop) (M5 : Int → Heap → Nat) (m5 : Nat) (q1 : Addr) (x3 : Int) (h : Heap) (R : Value → Heap → Prop) : Prop :=
  ∃ a31 : Option Addr, ∃ l31 : Nat, ∃ c31 : Nat, Vc.cell h (q1.add 2) = some (Value.slice a31 l31 c31) ∧ ∃ q33 : Addr, a31 = some q33 ∧ (0 : Int) ≤ x3 ∧ x3 < (l31 : Int) ∧ ∃ x35 : Int, Vc.cell h ((q33.add (x3.toNat * 33)).add 32) = some (Value.int .i64 x35) ∧ br (decide ((x35 : Int) < 0)) (F57_k7 I5 M5 m5 q1 x3 true h R) (∃ a39 : Option Addr, ∃ l39 : Nat, ∃ c39 : Nat, Vc.cell h (q1.add 2) = some (Value.slice a39 l39 c39) ∧ ∃ q41 : Addr, a39 = some q41 ∧ (0 : Int) ≤ x3 ∧ x3 < (l39 : Int) ∧ ∃ x43 : Int, Vc.cell h ((q41.add (x3.toNat * 33)).add 32) = some (Value.int .i64 x43) ∧ F57_k7 I5 M5 m5 q1 x3 (decide ((x43 : Int) > 2147483647)) h R)
def F57_k13 (h : Heap) (R : Value → Heap → Prop) : Prop :=
  R (Value.int .i64 0) h
def F57_b5 (I5 : Int → Heap → Prop) (M5 : Int → Heap → Nat) (m5 : Nat) (q1 : Addr) (x3 : Int) (h : Heap) (R : Value → Heap → Prop) : Prop :=
  ∃ a25 : Option Addr, ∃ l25 : Nat, ∃ c25 : Nat, Vc.cell h (q1.add 2) = some (Value.slice a25 l25 c25) ∧ br (decide ((x3 : Int) < (l25 : Int))) (F57_k6 I5 M5 m5 q1 x3 h R) (F57_k13 h R)
def F57_k4 (q1 : Addr) (h : Heap) (R : Value → Heap → Prop) : Prop :=
  ∀ x3 : Int, x3 = 0 → ∃ (I5 : Int → Heap → Prop) (M5 : Int → Heap → Nat), I5 x3 h ∧ ∀ h1 (x3_1 : Int), I5 x3_1 h1 → F57_b5 I5 M5 (M5 x3_1 h1) q1 x3_1 h1 R
def F57_k3 (q1 : Addr) (h : Heap) (R : Value → Heap → Prop) : Prop :=
  ∃ a20 : Option Addr, ∃ l20 : Nat, ∃ c20 : Nat, Vc.cell h (q1.add 2) = some (Value.slice a20 l20 c20) ∧ br (decide (((l20 : Int) : Int) > 8)) (R (Value.int .i64 3) h) (F57_k4 q1 h R)
def F57_k2 (q1 : Addr) (h : Heap) (R : Value → Heap → Prop) : Prop :=
  ∃ a16 : Option Addr, ∃ l16 : Nat, ∃ c16 : Nat, Vc.cell h (q1.add 2) = some (Value.slice a16 l16 c16) ∧ br (((l16 : Int) : Int) == 0) (R (Value.int .i64 9) h) (F57_k3 q1 h R)
def F57_k1 (q1 : Addr) (b14 : Bool) (h : Heap) (R : Value → Heap → Prop) : Prop :=
  br b14 (R (Value.int .i64 2) h) (F57_k2 q1 h R)
def F57 (s0_0 : ByteArray) (s0_1 : ByteArray) (a0_2 : Option Addr) (l0_2 : Nat) (c0_2 : Nat) (h : Heap) (R : Value → Heap → Prop) : Prop :=
  newK h (.cells #[Value.string s0_0, Value.string s0_1, Value.slice a0_2 l0_2 c0_2] 66) fun b1 h1 => ∃ s6 : ByteArray, Vc.cell h1 ((at0 b1).add 0) = some (Value.string s6) ∧ HCalls Try.prog 63 #[Value.string s6] h1 fun r7 h2 => ∃ b7 : Bool, r7 = Value.bool b7 ∧ br (!b7) (F57_k1 (at0 b1) true h2 R) (∃ s11 : ByteArray, Vc.cell h2 ((at0 b1).add 1) = some (Value.string s11) ∧ HCalls Try.prog 63 #[Value.string s11] h2 fun r12 h3 => ∃ b12 : Bool, r12 = Value.bool b12 ∧ F57_k1 (at0 b1) (!b12) h3 R)
def A57 : Ann := { bind := [3, 4], loops := [(8, [(3, .int .i64)]), (13, [(4, .int .i64)])], draws := [(15, 0, 13)] }
theorem F57_ent (s0_0 : ByteArray) (s0_1 : ByteArray) (a0_2 : Option Addr) (l0_2 : Nat) (c0_2 : Nat) (h : Heap) (R : Value → Heap → Prop) (H : F57 s0_0 s0_1 a0_2 l0_2 c0_2 h R) : HEnt Try.prog 57 #[Value.agg #[Value.string s0_0, Value.string s0_1, Value.slice a0_2 l0_2 c0_2]] h R :=
  hent A57 mixed Try.func57 rfl (by kernel_rfl) (by kernel_rfl) (Eq.mp (by kernel_rfl) H)

/-! ### 58 veneer/veneerref07.Same -/
def F58_k5 (I3 : Int → Heap → Prop) (M3 : Int → Heap → Nat) (m3 : Nat) (q2 : Addr) (q3 : Addr) (x5 : Int) (h : Heap) (R : Value → Heap → Prop) : Prop :=
  ∀ x5_1 : Int, x5_1 = IntKind.i64.wrap (x5 + 1) → I3 x5_1 h ∧ M3 x5_1 h < m3
def F58_k4 (I3 : Int → Heap → Prop) (M3 : Int → Heap → Nat) (m3 : Nat) (q2 : Addr) (q3 : Addr) (x5 : Int) (h : Heap) (R : Value → Heap → Prop) : Prop :=
  ∃ a35 : Option Addr, ∃ l35 : Nat, ∃ c35 : Nat, Vc.cell h (q2.add 2) = some (Value.slice a35 l35 c35) ∧ ∃ q37 : Addr, a35 = some q37 ∧ (0 : Int) ≤ x5 ∧ x5 < (l35 : Int) ∧ ∃ cs38 : Array Value, cs38.size = 33 ∧ CellsAt h (q37.add (x5.toNat * 33)) cs38.toList ∧ ∃ a40 : Option Addr, ∃ l40 : Nat, ∃ c40 : Nat, Vc.cell h (q3.add 2) = some (Value.slice a40 l40 c40) ∧ ∃ q42 : Addr, a40 = some q42 ∧ (0 : Int) ≤ x5 ∧ x5 < (l40 : Int) ∧ ∃ cs43 : Array Value, cs43.size = 33 ∧ CellsAt h (q42.add (x5.toNat * 33)) cs43.toList ∧ ∃ e44 : Bool, (∀ w : World, (Op.equal 86 (Value.agg cs38) (Value.agg cs43)).run Try.prog w = .ok e44 w) ∧ Try.prog.eqGuardType Try.prog.depth 86 = false ∧ ∀ h1, Cls false h h1 → br (!e44) (R (Value.bool false) h1) (F58_k5 I3 M3 m3 q2 q3 x5 h1 R)
def F58_k6 (h : Heap) (R : Value → Heap → Prop) : Prop :=
  R (Value.bool true) h
def F58_b3 (I3 : Int → Heap → Prop) (M3 : Int → Heap → Nat) (m3 : Nat) (q2 : Addr) (q3 : Addr) (x5 : Int) (h : Heap) (R : Value → Heap → Prop) : Prop :=
  ∃ a29 : Option Addr, ∃ l29 : Nat, ∃ c29 : Nat, Vc.cell h (q2.add 2) = some (Value.slice a29 l29 c29) ∧ br (decide ((x5 : Int) < (l29 : Int))) (F58_k4 I3 M3 m3 q2 q3 x5 h R) (F58_k6 h R)
def F58_k2 (q2 : Addr) (q3 : Addr) (h : Heap) (R : Value → Heap → Prop) : Prop :=
  ∀ x5 : Int, x5 = 0 → ∃ (I3 : Int → Heap → Prop) (M3 : Int → Heap → Nat), I3 x5 h ∧ ∀ h1 (x5_1 : Int), I3 x5_1 h1 → F58_b3 I3 M3 (M3 x5_1 h1) q2 q3 x5_1 h1 R
def F58_k1 (q2 : Addr) (q3 : Addr) (b26 : Bool) (h : Heap) (R : Value → Heap → Prop) : Prop :=
  br b26 (R (Value.bool false) h) (F58_k2 q2 q3 h R)
def F58 (s0_0 : ByteArray) (s0_1 : ByteArray) (a0_2 : Option Addr) (l0_2 : Nat) (c0_2 : Nat) (s1_0 : ByteArray) (s1_1 : ByteArray) (a1_2 : Option Addr) (l1_2 : Nat) (c1_2 : Nat) (h : Heap) (R : Value → Heap → Prop) : Prop :=
  newK h (.cells #[Value.string s0_0, Value.string s0_1, Value.slice a0_2 l0_2 c0_2] 66) fun b2 h1 => newK h1 (.cells #[Value.string s1_0, Value.string s1_1, Value.slice a1_2 l1_2 c1_2] 66) fun b3 h2 => ∃ s7 : ByteArray, Vc.cell h2 ((at0 b2).add 0) = some (Value.string s7) ∧ ∃ s9 : ByteArray, Vc.cell h2 ((at0 b3).add 0) = some (Value.string s9) ∧ br (!(seq s7 s9)) (F58_k1 (at0 b2) (at0 b3) true h2 R) (∃ s13 : ByteArray, Vc.cell h2 ((at0 b2).add 1) = some (Value.string s13) ∧ ∃ s15 : ByteArray, Vc.cell h2 ((at0 b3).add 1) = some (Value.string s15) ∧ br (!(seq s13 s15)) (F58_k1 (at0 b2) (at0 b3) true h2 R) (∃ a20 : Option Addr, ∃ l20 : Nat, ∃ c20 : Nat, Vc.cell h2 ((at0 b2).add 2) = some (Value.slice a20 l20 c20) ∧ ∃ a23 : Option Addr, ∃ l23 : Nat, ∃ c23 : Nat, Vc.cell h2 ((at0 b3).add 2) = some (Value.slice a23 l23 c23) ∧ F58_k1 (at0 b2) (at0 b3) (((l20 : Int) : Int) != (l23 : Int)) h2 R))
def A58 : Ann := { bind := [5], loops := [(4, [(5, .int .i64)])], draws := [(6, 0, 11)] }
theorem F58_ent (s0_0 : ByteArray) (s0_1 : ByteArray) (a0_2 : Option Addr) (l0_2 : Nat) (c0_2 : Nat) (s1_0 : ByteArray) (s1_1 : ByteArray) (a1_2 : Option Addr) (l1_2 : Nat) (c1_2 : Nat) (h : Heap) (R : Value → Heap → Prop) (H : F58 s0_0 s0_1 a0_2 l0_2 c0_2 s1_0 s1_1 a1_2 l1_2 c1_2 h R) : HEnt Try.prog 58 #[Value.agg #[Value.string s0_0, Value.string s0_1, Value.slice a0_2 l0_2 c0_2], Value.agg #[Value.string s1_0, Value.string s1_1, Value.slice a1_2 l1_2 c1_2]] h R :=
  hent A58 mixed Try.func58 rfl (by kernel_rfl) (by kernel_rfl) (Eq.mp (by kernel_rfl) H)

/-! ### 59 slices.Clone[[]veneer/api.Pack,veneer/api.Pack] -/
def F59_k1 (a0_0 : Option Addr) (n0_1 : Nat) (n0_2 : Nat) (h : Heap) (R : Value → Heap → Prop) : Prop :=
  0 * 4 ≤ 16777216 ∧ newK h (.cells #[] 68) fun b5 h1 => appK Try.prog 68 h1 (some (at0 b5)) 0 0 (Value.slice a0_0 n0_1 n0_2) fun a7 l7 c7 h2 => R (Value.slice a7 l7 c7) h2
def F59 (a0 : Option Addr) (l0 : Nat) (c0 : Nat) (h : Heap) (R : Value → Heap → Prop) : Prop :=
  br a0.isNone (R (Value.slice none 0 0) h) (F59_k1 a0 l0 c0 h R)
def A59 : Ann := {  }
theorem F59_ent (a0 : Option Addr) (l0 : Nat) (c0 : Nat) (h : Heap) (R : Value → Heap → Prop) (H : F59 a0 l0 c0 h R) : HEnt Try.prog 59 #[Value.slice a0 l0 c0] h R :=
  hent A59 mixed Try.func59 rfl (by kernel_rfl) (by kernel_rfl) (Eq.mp (by kernel_rfl) H)

/-! ### 60 slices.Clone[[]veneer/api.Ref,veneer/api.Ref] -/
def F60_k1 (a0_0 : Option Addr) (n0_1 : Nat) (n0_2 : Nat) (h : Heap) (R : Value → Heap → Prop) : Prop :=
  0 * 33 ≤ 16777216 ∧ newK h (.cells #[] 86) fun b5 h1 => appK Try.prog 86 h1 (some (at0 b5)) 0 0 (Value.slice a0_0 n0_1 n0_2) fun a7 l7 c7 h2 => R (Value.slice a7 l7 c7) h2
def F60 (a0 : Option Addr) (l0 : Nat) (c0 : Nat) (h : Heap) (R : Value → Heap → Prop) : Prop :=
  br a0.isNone (R (Value.slice none 0 0) h) (F60_k1 a0 l0 c0 h R)
def A60 : Ann := {  }
theorem F60_ent (a0 : Option Addr) (l0 : Nat) (c0 : Nat) (h : Heap) (R : Value → Heap → Prop) (H : F60 a0 l0 c0 h R) : HEnt Try.prog 60 #[Value.slice a0 l0 c0] h R :=
  hent A60 mixed Try.func60 rfl (by kernel_rfl) (by kernel_rfl) (Eq.mp (by kernel_rfl) H)

/-! ### 61 veneer/manifest.name -/
def F61_k4 (I1 : Int → Heap → Prop) (M1 : Int → Heap → Nat) (m1 : Nat) (s0 : ByteArray) (x6 : Int) (x7 : Int) (h : Heap) (R : Value → Heap → Prop) : Prop :=
  I1 (IntKind.i64.wrap (x7 + 1)) h ∧ M1 (IntKind.i64.wrap (x7 + 1)) h < m1
def F61_k3 (I1 : Int → Heap → Prop) (M1 : Int → Heap → Nat) (m1 : Nat) (s0 : ByteArray) (x6 : Int) (x7 : Int) (b35 : Bool) (h : Heap) (R : Value → Heap → Prop) : Prop :=
  br b35 (R (Value.bool false) h) (F61_k4 I1 M1 m1 s0 x6 x7 h R)
def F61_k2 (I1 : Int → Heap → Prop) (M1 : Int → Heap → Nat) (m1 : Nat) (s0 : ByteArray) (x6 : Int) (x7 : Int) (h : Heap) (R : Value → Heap → Prop) : Prop :=
  (0 : Int) ≤ x7 ∧ x7 < (s0.size : Int) ∧ br (decide ((bt s0 x7 : Int) ≥ 97)) (br (decide ((bt s0 x7 : Int) ≤ 122)) (F61_k3 I1 M1 m1 s0 x6 x7 false h R) (br (decide ((bt s0 x7 : Int) ≥ 48)) (br (decide ((bt s0 x7 : Int) ≤ 57)) (F61_k3 I1 M1 m1 s0 x6 x7 false h R) (br ((bt s0 x7 : Int) == 45) (F61_k3 I1 M1 m1 s0 x6 x7 false h R) (F61_k3 I1 M1 m1 s0 x6 x7 (!((bt s0 x7 : Int) == 46)) h R))) (br ((bt s0 x7 : Int) == 45) (F61_k3 I1 M1 m1 s0 x6 x7 false h R) (F61_k3 I1 M1 m1 s0 x6 x7 (!((bt s0 x7 : Int) == 46)) h R)))) (br (decide ((bt s0 x7 : Int) ≥ 48)) (br (decide ((bt s0 x7 : Int) ≤ 57)) (F61_k3 I1 M1 m1 s0 x6 x7 false h R) (br ((bt s0 x7 : Int) == 45) (F61_k3 I1 M1 m1 s0 x6 x7 false h R) (F61_k3 I1 M1 m1 s0 x6 x7 (!((bt s0 x7 : Int) == 46)) h R))) (br ((bt s0 x7 : Int) == 45) (F61_k3 I1 M1 m1 s0 x6 x7 false h R) (F61_k3 I1 M1 m1 s0 x6 x7 (!((bt s0 x7 : Int) == 46)) h R)))
def F61_k5 (s0 : ByteArray) (h : Heap) (R : Value → Heap → Prop) : Prop :=
  br (decide (((s0.size : Int) : Int) > 0)) (R (Value.bool (decide (((s0.size : Int) : Int) ≤ 16))) h) (R (Value.bool false) h)
def F61_b1 (I1 : Int → Heap → Prop) (M1 : Int → Heap → Nat) (m1 : Nat) (s0 : ByteArray) (x6 : Int) (x7 : Int) (h : Heap) (R : Value → Heap → Prop) : Prop :=
  br (decide ((x7 : Int) < x6)) (F61_k2 I1 M1 m1 s0 x6 x7 h R) (F61_k5 s0 h R)
def F61 (s0 : ByteArray) (h : Heap) (R : Value → Heap → Prop) : Prop :=
  ∃ (I1 : Int → Heap → Prop) (M1 : Int → Heap → Nat), I1 0 h ∧ ∀ h1 (x7 : Int), I1 x7 h1 → F61_b1 I1 M1 (M1 x7 h1) s0 (s0.size : Int) x7 h1 R
def A61 : Ann := { loops := [(2, [(7, .int .i64)])] }
theorem F61_ent (s0 : ByteArray) (h : Heap) (R : Value → Heap → Prop) (H : F61 s0 h R) : HEnt Try.prog 61 #[Value.string s0] h R :=
  hent A61 mixed Try.func61 rfl (by kernel_rfl) (by kernel_rfl) (Eq.mp (by kernel_rfl) H)

/-! ### 62 slices.IndexFunc[[]veneer/api.Pack,veneer/api.Pack] -/
def F62_k3 (I1 : Int → Heap → Prop) (M1 : Int → Heap → Nat) (m1 : Nat) (a0_0 : Option Addr) (n0_1 : Nat) (n0_2 : Nat) (q1 : Addr) (x7 : Int) (x8 : Int) (h : Heap) (R : Value → Heap → Prop) : Prop :=
  I1 (IntKind.i64.wrap (x8 + 1)) h ∧ M1 (IntKind.i64.wrap (x8 + 1)) h < m1
def F62_k2 (I1 : Int → Heap → Prop) (M1 : Int → Heap → Nat) (m1 : Nat) (a0_0 : Option Addr) (n0_1 : Nat) (n0_2 : Nat) (q1 : Addr) (x7 : Int) (x8 : Int) (h : Heap) (R : Value → Heap → Prop) : Prop :=
  ∃ q14 : Addr, a0_0 = some q14 ∧ (0 : Int) ≤ x8 ∧ x8 < (n0_1 : Int) ∧ ∃ x15_0 : Int, ∃ s15_1 : ByteArray, ∃ s15_2 : ByteArray, ∃ a15_3 : Option Addr, ∃ l15_3 : Nat, ∃ c15_3 : Nat, Vc.cell h ((q14.add (x8.toNat * 4)).add 0) = some (Value.int .i64 x15_0) ∧ Vc.cell h ((q14.add (x8.toNat * 4)).add 1) = some (Value.string s15_1) ∧ Vc.cell h ((q14.add (x8.toNat * 4)).add 2) = some (Value.string s15_2) ∧ Vc.cell h ((q14.add (x8.toNat * 4)).add 3) = some (Value.slice a15_3 l15_3 c15_3) ∧ 4 = 4 ∧ HCalls Try.prog 56 #[Value.agg #[Value.int .i64 x15_0, Value.string s15_1, Value.string s15_2, Value.slice a15_3 l15_3 c15_3], Value.pointer (some q1)] h fun r16 h1 => ∃ b16 : Bool, r16 = Value.bool b16 ∧ br b16 (R (Value.int .i64 x8) h1) (F62_k3 I1 M1 m1 a0_0 n0_1 n0_2 q1 x7 x8 h1 R)
def F62_k4 (h : Heap) (R : Value → Heap → Prop) : Prop :=
  R (Value.int .i64 (-1)) h
def F62_b1 (I1 : Int → Heap → Prop) (M1 : Int → Heap → Nat) (m1 : Nat) (a0_0 : Option Addr) (n0_1 : Nat) (n0_2 : Nat) (q1 : Addr) (x7 : Int) (x8 : Int) (h : Heap) (R : Value → Heap → Prop) : Prop :=
  br (decide ((x8 : Int) < x7)) (F62_k2 I1 M1 m1 a0_0 n0_1 n0_2 q1 x7 x8 h R) (F62_k4 h R)
def F62 (a0 : Option Addr) (l0 : Nat) (c0 : Nat) (qc1_0 : Addr) (h : Heap) (R : Value → Heap → Prop) : Prop :=
  ∃ (I1 : Int → Heap → Prop) (M1 : Int → Heap → Nat), I1 0 h ∧ ∀ h1 (x8 : Int), I1 x8 h1 → F62_b1 I1 M1 (M1 x8 h1) a0 l0 c0 qc1_0 (l0 : Int) x8 h1 R
def A62 : Ann := { loops := [(2, [(8, .int .i64)])] }
theorem F62_ent (a0 : Option Addr) (l0 : Nat) (c0 : Nat) (qc1_0 : Addr) (h : Heap) (R : Value → Heap → Prop) (H : F62 a0 l0 c0 qc1_0 h R) : HEnt Try.prog 62 #[Value.slice a0 l0 c0, Value.func (.func 56) #[] #[Value.pointer (some qc1_0)]] h R :=
  hent A62 mixed Try.func62 rfl (by kernel_rfl) (by kernel_rfl) (Eq.mp (by kernel_rfl) H)

/-! ### 63 veneer/veneerref07.Name -/
def F63_k6 (I1 : Int → Heap → Prop) (M1 : Int → Heap → Nat) (m1 : Nat) (s0 : ByteArray) (x3 : Int) (h : Heap) (R : Value → Heap → Prop) : Prop :=
  ∀ x3_1 : Int, x3_1 = IntKind.i64.wrap (x3 + 1) → I1 x3_1 h ∧ M1 x3_1 h < m1
def F63_k5 (I1 : Int → Heap → Prop) (M1 : Int → Heap → Nat) (m1 : Nat) (s0 : ByteArray) (x3 : Int) (b49 : Bool) (h : Heap) (R : Value → Heap → Prop) : Prop :=
  br b49 (R (Value.bool false) h) (F63_k6 I1 M1 m1 s0 x3 h R)
def F63_k4 (I1 : Int → Heap → Prop) (M1 : Int → Heap → Nat) (m1 : Nat) (s0 : ByteArray) (x3 : Int) (b4 : Bool) (b5 : Bool) (h : Heap) (R : Value → Heap → Prop) : Prop :=
  br (!b4) (br (!b5) ((0 : Int) ≤ x3 ∧ x3 < (s0.size : Int) ∧ br ((bt s0 x3 : Int) != 45) ((0 : Int) ≤ x3 ∧ x3 < (s0.size : Int) ∧ F63_k5 I1 M1 m1 s0 x3 ((bt s0 x3 : Int) != 46) h R) (F63_k5 I1 M1 m1 s0 x3 false h R)) (F63_k5 I1 M1 m1 s0 x3 false h R)) (F63_k5 I1 M1 m1 s0 x3 false h R)
def F63_k3 (I1 : Int → Heap → Prop) (M1 : Int → Heap → Nat) (m1 : Nat) (s0 : ByteArray) (x3 : Int) (b4 : Bool) (h : Heap) (R : Value → Heap → Prop) : Prop :=
  (0 : Int) ≤ x3 ∧ x3 < (s0.size : Int) ∧ br (decide ((bt s0 x3 : Int) ≥ 48)) ((0 : Int) ≤ x3 ∧ x3 < (s0.size : Int) ∧ F63_k4 I1 M1 m1 s0 x3 b4 (decide ((bt s0 x3 : Int) ≤ 57)) h R) (F63_k4 I1 M1 m1 s0 x3 b4 false h R)
def F63_k2 (I1 : Int → Heap → Prop) (M1 : Int → Heap → Nat) (m1 : Nat) (s0 : ByteArray) (x3 : Int) (h : Heap) (R : Value → Heap → Prop) : Prop :=
  (0 : Int) ≤ x3 ∧ x3 < (s0.size : Int) ∧ br (decide ((bt s0 x3 : Int) ≥ 97)) ((0 : Int) ≤ x3 ∧ x3 < (s0.size : Int) ∧ F63_k3 I1 M1 m1 s0 x3 (decide ((bt s0 x3 : Int) ≤ 122)) h R) (F63_k3 I1 M1 m1 s0 x3 false h R)
def F63_k7 (s0 : ByteArray) (h : Heap) (R : Value → Heap → Prop) : Prop :=
  br (decide (((s0.size : Int) : Int) ≥ 1)) (R (Value.bool (decide (((s0.size : Int) : Int) ≤ 16))) h) (R (Value.bool false) h)
def F63_b1 (I1 : Int → Heap → Prop) (M1 : Int → Heap → Nat) (m1 : Nat) (s0 : ByteArray) (x3 : Int) (h : Heap) (R : Value → Heap → Prop) : Prop :=
  br (decide ((x3 : Int) < (s0.size : Int))) (F63_k2 I1 M1 m1 s0 x3 h R) (F63_k7 s0 h R)
def F63 (s0 : ByteArray) (h : Heap) (R : Value → Heap → Prop) : Prop :=
  ∀ x3 : Int, x3 = 0 → ∃ (I1 : Int → Heap → Prop) (M1 : Int → Heap → Nat), I1 x3 h ∧ ∀ h1 (x3_1 : Int), I1 x3_1 h1 → F63_b1 I1 M1 (M1 x3_1 h1) s0 x3_1 h1 R
def A63 : Ann := { bind := [3], loops := [(2, [(3, .int .i64)])] }
theorem F63_ent (s0 : ByteArray) (h : Heap) (R : Value → Heap → Prop) (H : F63 s0 h R) : HEnt Try.prog 63 #[Value.string s0] h R :=
  hent A63 mixed Try.func63 rfl (by kernel_rfl) (by kernel_rfl) (Eq.mp (by kernel_rfl) H)

end Go.Proofs.Ytnhnioodlciajaa
