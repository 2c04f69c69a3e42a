import Derived.Test.YtnahhdkekchmfaaDoorProg
import Derived.Test.YtnahhdkekchmfaaDoorVlpA

set_option linter.unusedVariables false
set_option maxRecDepth 100000
namespace Go.Proofs.YtnahhdkekchmfaaDoor
open Go.Vc
/-! ### 24 veneer/layer.Id -/
def F24_k1 (q2 : Addr) (a4_0 : Option Addr) (n4_1 : Nat) (n4_2 : Nat) (h : Heap) (R : Value → Heap → Prop) : Prop :=
  HCalls Tryd.prog 40 #[Value.slice a4_0 n4_1 n4_2] h fun r16 h1 => ∃ cs16 : Array Value, cs16.size = 32 ∧ r16 = Value.agg cs16 ∧ storeK 32 h1 q2 (Value.agg cs16) fun h2 => ∃ csr0 : Array Value, csr0.size = 32 ∧ CellsAt h2 q2 csr0.toList ∧ R (Value.tuple #[Value.agg csr0, Value.int .i64 0]) h2
def F24 (a0 : Option Addr) (l0 : Nat) (c0 : Nat) (h : Heap) (R : Value → Heap → Prop) : Prop :=
  newK h (.cells (zeroC Tryd.prog 52) 52) fun b2 h1 => HCalls Tryd.prog 21 #[Value.slice a0 l0 c0] h1 fun r8 h2 => ∃ a8_0 : Option Addr, ∃ l8_0 : Nat, ∃ c8_0 : Nat, ∃ x8_1 : Int, r8 = Value.tuple #[Value.slice a8_0 l8_0 c8_0, Value.int .i64 x8_1] ∧ br ((x8_1 : Int) != 0) (storeK 32 h2 (at0 b2) (Value.agg (zeroC Tryd.prog 52)) fun h3 => ∃ csr0 : Array Value, csr0.size = 32 ∧ CellsAt h3 (at0 b2) csr0.toList ∧ R (Value.tuple #[Value.agg csr0, Value.int .i64 x8_1]) h3) (F24_k1 (at0 b2) a8_0 l8_0 c8_0 h2 R)
def A24 : Ann := {  }
theorem F24_ent (a0 : Option Addr) (l0 : Nat) (c0 : Nat) (h : Heap) (R : Value → Heap → Prop) (H : F24 a0 l0 c0 h R) : HEnt Tryd.prog 24 #[Value.slice a0 l0 c0] h R :=
  hent A24 mixed Tryd.func24 rfl (by kernel_rfl) (by kernel_rfl) (Eq.mp (by kernel_rfl) H)

end Go.Proofs.YtnahhdkekchmfaaDoor
