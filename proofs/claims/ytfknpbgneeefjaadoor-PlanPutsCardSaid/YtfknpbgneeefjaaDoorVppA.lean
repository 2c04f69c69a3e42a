import Derived.Test.YtfknpbgneeefjaaDoorProg
import Derived.Test.YtfknpbgneeefjaaDoorVcK

set_option linter.unusedVariables false
set_option maxRecDepth 100000
namespace Go.Proofs.YtfknpbgneeefjaaDoor
open Go.Vc
theorem mixed : Tryd.prog.follows .mixedOrders = true := by kernel_rfl
/-! ### 60 veneer/manifest.name -/
def F60_k4 (I1 : Int → Heap → Prop) (M1 : Int → Heap → Nat) (m1 : Nat) (s0 : ByteArray) (x6 : Int) (x7 : Int) (h : Heap) (R : Value → Heap → Prop) : Prop :=
  I1 (IntKind.i64.wrap (x7 + 1)) h ∧ M1 (IntKind.i64.wrap (x7 + 1)) h < m1
def F60_k3 (I1 : Int → Heap → Prop) (M1 : Int → Heap → Nat) (m1 : Nat) (s0 : ByteArray) (x6 : Int) (x7 : Int) (b35 : Bool) (h : Heap) (R : Value → Heap → Prop) : Prop :=
  br b35 (R (Value.bool false) h) (F60_k4 I1 M1 m1 s0 x6 x7 h R)
def F60_k2 (I1 : Int → Heap → Prop) (M1 : Int → Heap → Nat) (m1 : Nat) (s0 : ByteArray) (x6 : Int) (x7 : Int) (h : Heap) (R : Value → Heap → Prop) : Prop :=
  (0 : Int) ≤ x7 ∧ x7 < (s0.size : Int) ∧ br (decide ((bt s0 x7 : Int) ≥ 97)) (br (decide ((bt s0 x7 : Int) ≤ 122)) (F60_k3 I1 M1 m1 s0 x6 x7 false h R) (br (decide ((bt s0 x7 : Int) ≥ 48)) (br (decide ((bt s0 x7 : Int) ≤ 57)) (F60_k3 I1 M1 m1 s0 x6 x7 false h R) (br ((bt s0 x7 : Int) == 45) (F60_k3 I1 M1 m1 s0 x6 x7 false h R) (F60_k3 I1 M1 m1 s0 x6 x7 (!((bt s0 x7 : Int) == 46)) h R))) (br ((bt s0 x7 : Int) == 45) (F60_k3 I1 M1 m1 s0 x6 x7 false h R) (F60_k3 I1 M1 m1 s0 x6 x7 (!((bt s0 x7 : Int) == 46)) h R)))) (br (decide ((bt s0 x7 : Int) ≥ 48)) (br (decide ((bt s0 x7 : Int) ≤ 57)) (F60_k3 I1 M1 m1 s0 x6 x7 false h R) (br ((bt s0 x7 : Int) == 45) (F60_k3 I1 M1 m1 s0 x6 x7 false h R) (F60_k3 I1 M1 m1 s0 x6 x7 (!((bt s0 x7 : Int) == 46)) h R))) (br ((bt s0 x7 : Int) == 45) (F60_k3 I1 M1 m1 s0 x6 x7 false h R) (F60_k3 I1 M1 m1 s0 x6 x7 (!((bt s0 x7 : Int) == 46)) h R)))
def F60_k5 (s0 : ByteArray) (h : Heap) (R : Value → Heap → Prop) : Prop :=
  br (decide (((s0.size : Int) : Int) > 0)) (R (Value.bool (decide (((s0.size : Int) : Int) ≤ 16))) h) (R (Value.bool false) h)
def F60_b1 (I1 : Int → Heap → Prop) (M1 : Int → Heap → Nat) (m1 : Nat) (s0 : ByteArray) (x6 : Int) (x7 : Int) (h : Heap) (R : Value → Heap → Prop) : Prop :=
  br (decide ((x7 : Int) < x6)) (F60_k2 I1 M1 m1 s0 x6 x7 h R) (F60_k5 s0 h R)
def F60 (s0 : ByteArray) (h : Heap) (R : Value → Heap → Prop) : Prop :=
  ∃ (I1 : Int → Heap → Prop) (M1 : Int → Heap → Nat), I1 0 h ∧ ∀ h1 (x7 : Int), I1 x7 h1 → F60_b1 I1 M1 (M1 x7 h1) s0 (s0.size : Int) x7 h1 R
def A60 : Ann := { loops := [(2, [(7, .int .i64)])] }
theorem F60_ent (s0 : ByteArray) (h : Heap) (R : Value → Heap → Prop) (H : F60 s0 h R) : HEnt Tryd.prog 60 #[Value.string s0] h R :=
  hent A60 mixed Tryd.func60 rfl (by kernel_rfl) (by kernel_rfl) (Eq.mp (by kernel_rfl) H)

/-! ### 38 veneer/veneerref07.Name -/
def F38_k6 (I1 : Int → Heap → Prop) (M1 : Int → Heap → Nat) (m1 : Nat) (s0 : ByteArray) (x3 : Int) (h : Heap) (R : Value → Heap → Prop) : Prop :=
  ∀ x3_1 : Int, x3_1 = IntKind.i64.wrap (x3 + 1) → I1 x3_1 h ∧ M1 x3_1 h < m1
def F38_k5 (I1 : Int → Heap → Prop) (M1 : Int → Heap → Nat) (m1 : Nat) (s0 : ByteArray) (x3 : Int) (b49 : Bool) (h : Heap) (R : Value → Heap → Prop) : Prop :=
  br b49 (R (Value.bool false) h) (F38_k6 I1 M1 m1 s0 x3 h R)
def F38_k4 (I1 : Int → Heap → Prop) (M1 : Int → Heap → Nat) (m1 : Nat) (s0 : ByteArray) (x3 : Int) (b4 : Bool) (b5 : Bool) (h : Heap) (R : Value → Heap → Prop) : Prop :=
  br (!b4) (br (!b5) ((0 : Int) ≤ x3 ∧ x3 < (s0.size : Int) ∧ br ((bt s0 x3 : Int) != 45) ((0 : Int) ≤ x3 ∧ x3 < (s0.size : Int) ∧ F38_k5 I1 M1 m1 s0 x3 ((bt s0 x3 : Int) != 46) h R) (F38_k5 I1 M1 m1 s0 x3 false h R)) (F38_k5 I1 M1 m1 s0 x3 false h R)) (F38_k5 I1 M1 m1 s0 x3 false h R)
def F38_k3 (I1 : Int → Heap → Prop) (M1 : Int → Heap → Nat) (m1 : Nat) (s0 : ByteArray) (x3 : Int) (b4 : Bool) (h : Heap) (R : Value → Heap → Prop) : Prop :=
  (0 : Int) ≤ x3 ∧ x3 < (s0.size : Int) ∧ br (decide ((bt s0 x3 : Int) ≥ 48)) ((0 : Int) ≤ x3 ∧ x3 < (s0.size : Int) ∧ F38_k4 I1 M1 m1 s0 x3 b4 (decide ((bt s0 x3 : Int) ≤ 57)) h R) (F38_k4 I1 M1 m1 s0 x3 b4 false h R)
def F38_k2 (I1 : Int → Heap → Prop) (M1 : Int → Heap → Nat) (m1 : Nat) (s0 : ByteArray) (x3 : Int) (h : Heap) (R : Value → Heap → Prop) : Prop :=
  (0 : Int) ≤ x3 ∧ x3 < (s0.size : Int) ∧ br (decide ((bt s0 x3 : Int) ≥ 97)) ((0 : Int) ≤ x3 ∧ x3 < (s0.size : Int) ∧ F38_k3 I1 M1 m1 s0 x3 (decide ((bt s0 x3 : Int) ≤ 122)) h R) (F38_k3 I1 M1 m1 s0 x3 false h R)
def F38_k7 (s0 : ByteArray) (h : Heap) (R : Value → Heap → Prop) : Prop :=
  br (decide (((s0.size : Int) : Int) ≥ 1)) (R (Value.bool (decide (((s0.size : Int) : Int) ≤ 16))) h) (R (Value.bool false) h)
def F38_b1 (I1 : Int → Heap → Prop) (M1 : Int → Heap → Nat) (m1 : Nat) (s0 : ByteArray) (x3 : Int) (h : Heap) (R : Value → Heap → Prop) : Prop :=
  br (decide ((x3 : Int) < (s0.size : Int))) (F38_k2 I1 M1 m1 s0 x3 h R) (F38_k7 s0 h R)
def F38 (s0 : ByteArray) (h : Heap) (R : Value → Heap → Prop) : Prop :=
  ∀ x3 : Int, x3 = 0 → ∃ (I1 : Int → Heap → Prop) (M1 : Int → Heap → Nat), I1 x3 h ∧ ∀ h1 (x3_1 : Int), I1 x3_1 h1 → F38_b1 I1 M1 (M1 x3_1 h1) s0 x3_1 h1 R
def A38 : Ann := { bind := [3], loops := [(2, [(3, .int .i64)])] }
theorem F38_ent (s0 : ByteArray) (h : Heap) (R : Value → Heap → Prop) (H : F38 s0 h R) : HEnt Tryd.prog 38 #[Value.string s0] h R :=
  hent A38 mixed Tryd.func38 rfl (by kernel_rfl) (by kernel_rfl) (Eq.mp (by kernel_rfl) H)

/-! ### 37 veneer/manifest.Check -/
def F37_k8 (I3 : Int → Heap → Prop) (M3 : Int → Heap → Nat) (m3 : Nat) (m3_1 : Option Nat) (a29_0 : Option Addr) (n29_1 : Nat) (n29_2 : Nat) (x30 : Int) (x31 : Int) (h : Heap) (R : Value → Heap → Prop) : Prop :=
  I3 (IntKind.i64.wrap (x31 + 1)) h ∧ M3 (IntKind.i64.wrap (x31 + 1)) h < m3
def F37_k7 (I3 : Int → Heap → Prop) (M3 : Int → Heap → Nat) (m3 : Nat) (m3_1 : Option Nat) (q5 : Addr) (a29_0 : Option Addr) (n29_1 : Nat) (n29_2 : Nat) (x30 : Int) (x31 : Int) (h : Heap) (R : Value → Heap → Prop) : Prop :=
  ∃ Rl : Heap → Heap → Prop, (∀ h, Rl h h) ∧ (∀ a b c, Rl a b → Rl b c → Rl a c) ∧ ∃ cs50 : Array Value, cs50.size = 32 ∧ (∀ w : World, Rl h w.heap → (loadVar 73 (q5.add 0)).run Tryd.prog w = .ok (Value.agg cs50) w) ∧ (semK Tryd.prog (Instr.lookup 92 (Value.map m3_1) (Value.agg cs50) false) h fun v51 h1 => ∃ x51 : Int, v51 = Value.int .i64 x51 ∧ Rl h h1 ∧ semK Tryd.prog (Instr.mapEntry 92 (Value.map m3_1) (Value.agg cs50)) h1 fun v53 h2 => ∃ x53 : Int, ∃ n53 : Int, v53 = Value.tuple #[Value.int .i64 x53, Value.int .i64 n53] ∧ Rl h1 h2 ∧ semU Tryd.prog (Instr.entryStore 92 (Value.map m3_1) (Value.int .i64 n53) (Value.int .i64 (IntKind.i64.wrap (x51 + 1)))) h2 fun h3 => Rl h2 h3 ∧ F37_k8 I3 M3 m3 m3_1 a29_0 n29_1 n29_2 x30 x31 h3 R) ∧ semK Tryd.prog (Instr.mapEntry 92 (Value.map m3_1) (Value.agg cs50)) h fun v53 h1 => ∃ x53 : Int, ∃ n53 : Int, v53 = Value.tuple #[Value.int .i64 x53, Value.int .i64 n53] ∧ Rl h h1 ∧ semK Tryd.prog (Instr.lookup 92 (Value.map m3_1) (Value.agg cs50) false) h1 fun v51 h2 => ∃ x51 : Int, v51 = Value.int .i64 x51 ∧ Rl h1 h2 ∧ semU Tryd.prog (Instr.entryStore 92 (Value.map m3_1) (Value.int .i64 n53) (Value.int .i64 (IntKind.i64.wrap (x51 + 1)))) h2 fun h3 => Rl h2 h3 ∧ F37_k8 I3 M3 m3 m3_1 a29_0 n29_1 n29_2 x30 x31 h3 R
def F37_k6 (I3 : Int → Heap → Prop) (M3 : Int → Heap → Nat) (m3 : Nat) (m3_1 : Option Nat) (q5 : Addr) (a29_0 : Option Addr) (n29_1 : Nat) (n29_2 : Nat) (x30 : Int) (x31 : Int) (h : Heap) (R : Value → Heap → Prop) : Prop :=
  ∃ cs45 : Array Value, cs45.size = 32 ∧ CellsAt h (q5.add 0) cs45.toList ∧ semK Tryd.prog (Instr.lookup 92 (Value.map m3_1) (Value.agg cs45) false) h fun v46 h1 => ∃ x46 : Int, v46 = Value.int .i64 x46 ∧ br (decide ((x46 : Int) > 0)) (R (Value.int .i64 8) h1) (F37_k7 I3 M3 m3 m3_1 q5 a29_0 n29_1 n29_2 x30 x31 h1 R)
def F37_k5 (I3 : Int → Heap → Prop) (M3 : Int → Heap → Nat) (m3 : Nat) (m3_1 : Option Nat) (q5 : Addr) (a29_0 : Option Addr) (n29_1 : Nat) (n29_2 : Nat) (x30 : Int) (x31 : Int) (b42 : Bool) (h : Heap) (R : Value → Heap → Prop) : Prop :=
  br b42 (R (Value.int .i64 2) h) (F37_k6 I3 M3 m3 m3_1 q5 a29_0 n29_1 n29_2 x30 x31 h R)
def F37_k4 (I3 : Int → Heap → Prop) (M3 : Int → Heap → Nat) (m3 : Nat) (m3_1 : Option Nat) (a29_0 : Option Addr) (n29_1 : Nat) (n29_2 : Nat) (x30 : Int) (x31 : Int) (h : Heap) (R : Value → Heap → Prop) : Prop :=
  ∃ q33 : Addr, a29_0 = some q33 ∧ (0 : Int) ≤ x31 ∧ x31 < (n29_1 : Int) ∧ ∃ cs34 : Array Value, cs34.size = 33 ∧ CellsAt h (q33.add (x31.toNat * 33)) cs34.toList ∧ newK h (.cells (zeroC Tryd.prog 75) 75) fun b5 h1 => storeK 33 h1 (at0 b5) (Value.agg cs34) fun h2 => ∃ x36 : Int, Vc.cell h2 ((at0 b5).add 32) = some (Value.int .i64 x36) ∧ br (decide ((x36 : Int) < 0)) (F37_k5 I3 M3 m3 m3_1 (at0 b5) a29_0 n29_1 n29_2 x30 x31 true h2 R) (∃ x40 : Int, Vc.cell h2 ((at0 b5).add 32) = some (Value.int .i64 x40) ∧ F37_k5 I3 M3 m3 m3_1 (at0 b5) a29_0 n29_1 n29_2 x30 x31 (decide ((x40 : Int) > 2147483647)) h2 R)
def F37_k9 (h : Heap) (R : Value → Heap → Prop) : Prop :=
  R (Value.int .i64 0) h
def F37_b3 (I3 : Int → Heap → Prop) (M3 : Int → Heap → Nat) (m3 : Nat) (m3_1 : Option Nat) (a29_0 : Option Addr) (n29_1 : Nat) (n29_2 : Nat) (x30 : Int) (x31 : Int) (h : Heap) (R : Value → Heap → Prop) : Prop :=
  br (decide ((x31 : Int) < x30)) (F37_k4 I3 M3 m3 m3_1 a29_0 n29_1 n29_2 x30 x31 h R) (F37_k9 h R)
def F37_k2 (q1 : Addr) (h : Heap) (R : Value → Heap → Prop) : Prop :=
  newK h (.map #[] 0) fun b27 h1 => ∃ a29 : Option Addr, ∃ l29 : Nat, ∃ c29 : Nat, Vc.cell h1 (q1.add 2) = some (Value.slice a29 l29 c29) ∧ ∃ (I3 : Int → Heap → Prop) (M3 : Int → Heap → Nat), I3 0 h1 ∧ ∀ h2 (x31 : Int), I3 x31 h2 → F37_b3 I3 M3 (M3 x31 h2) (some b27) a29 l29 c29 (l29 : Int) x31 h2 R
def F37_k1 (q1 : Addr) (b6 : Bool) (h : Heap) (R : Value → Heap → Prop) : Prop :=
  br b6 (R (Value.int .i64 2) h) (∃ a19 : Option Addr, ∃ l19 : Nat, ∃ c19 : Nat, Vc.cell h (q1.add 2) = some (Value.slice a19 l19 c19) ∧ br (((l19 : Int) : Int) == 0) (R (Value.int .i64 9) h) (∃ a24 : Option Addr, ∃ l24 : Nat, ∃ c24 : Nat, Vc.cell h (q1.add 2) = some (Value.slice a24 l24 c24) ∧ br (decide (((l24 : Int) : Int) > 8)) (R (Value.int .i64 3) h) (F37_k2 q1 h R)))
def F37 (s0_0 : ByteArray) (s0_1 : ByteArray) (a0_2 : Option Addr) (l0_2 : Nat) (c0_2 : Nat) (h : Heap) (R : Value → Heap → Prop) : Prop :=
  newK h (.cells #[Value.string s0_0, Value.string s0_1, Value.slice a0_2 l0_2 c0_2] 59) fun b1 h1 => ∃ s8 : ByteArray, Vc.cell h1 ((at0 b1).add 0) = some (Value.string s8) ∧ HCalls Tryd.prog 60 #[Value.string s8] h1 fun r9 h2 => ∃ b9 : Bool, r9 = Value.bool b9 ∧ br (!b9) (F37_k1 (at0 b1) true h2 R) (∃ s13 : ByteArray, Vc.cell h2 ((at0 b1).add 1) = some (Value.string s13) ∧ HCalls Tryd.prog 60 #[Value.string s13] h2 fun r14 h3 => ∃ b14 : Bool, r14 = Value.bool b14 ∧ F37_k1 (at0 b1) (!b14) h3 R)
def A37 : Ann := { loops := [(9, [(31, .int .i64)])], draws := [(15, 3, 0)], mixes := [(15, .quiet 0 (.quiet 1 (.quiet 2 (.two 3 (.quiet 4 (.one 5 (.quiet 6 (.one 7 (.done))))) 5 (.quiet 6 (.one 3 (.quiet 4 (.one 7 (.done)))))))))] }
theorem F37_ent (s0_0 : ByteArray) (s0_1 : ByteArray) (a0_2 : Option Addr) (l0_2 : Nat) (c0_2 : Nat) (h : Heap) (R : Value → Heap → Prop) (H : F37 s0_0 s0_1 a0_2 l0_2 c0_2 h R) : HEnt Tryd.prog 37 #[Value.agg #[Value.string s0_0, Value.string s0_1, Value.slice a0_2 l0_2 c0_2]] h R :=
  hent A37 mixed Tryd.func37 rfl (by kernel_rfl) (by kernel_rfl) (Eq.mp (by kernel_rfl) H)

/-! ### 39 veneer/veneerref07.Check -/
def F39_k11 (I5 : Int → Heap → Prop) (M5 : Int → Heap → Nat) (m5 : Nat) (I9 : Int → Heap → Prop) (M9 : Int → Heap → Nat) (m9 : Nat) (q1 : Addr) (x3 : Int) (x4 : Int) (h : Heap) (R : Value → Heap → Prop) : Prop :=
  ∀ x4_1 : Int, x4_1 = IntKind.i64.wrap (x4 + 1) → I9 x4_1 h ∧ M9 x4_1 h < m9
def F39_k10 (I5 : Int → Heap → Prop) (M5 : Int → Heap → Nat) (m5 : Nat) (I9 : Int → Heap → Prop) (M9 : Int → Heap → Nat) (m9 : Nat) (q1 : Addr) (x3 : Int) (x4 : Int) (h : Heap) (R : Value → Heap → Prop) : Prop :=
  ∃ a52 : Option Addr, ∃ l52 : Nat, ∃ c52 : Nat, Vc.cell h (q1.add 2) = some (Value.slice a52 l52 c52) ∧ ∃ q54 : Addr, a52 = some q54 ∧ (0 : Int) ≤ x4 ∧ x4 < (l52 : Int) ∧ ∃ cs56 : Array Value, cs56.size = 32 ∧ CellsAt h ((q54.add (x4.toNat * 33)).add 0) cs56.toList ∧ ∃ a58 : Option Addr, ∃ l58 : Nat, ∃ c58 : Nat, Vc.cell h (q1.add 2) = some (Value.slice a58 l58 c58) ∧ ∃ q60 : Addr, a58 = some q60 ∧ (0 : Int) ≤ x3 ∧ x3 < (l58 : Int) ∧ ∃ cs62 : Array Value, cs62.size = 32 ∧ CellsAt h ((q60.add (x3.toNat * 33)).add 0) cs62.toList ∧ ∃ e63 : Bool, (∀ w : World, (Op.equal 73 (Value.agg cs56) (Value.agg cs62)).run Tryd.prog w = .ok e63 w) ∧ Tryd.prog.eqGuardType Tryd.prog.depth 73 = false ∧ ∀ h1, Cls false h h1 → br e63 (R (Value.int .i64 8) h1) (F39_k11 I5 M5 m5 I9 M9 m9 q1 x3 x4 h1 R)
def F39_k12 (I5 : Int → Heap → Prop) (M5 : Int → Heap → Nat) (m5 : Nat) (q1 : Addr) (x3 : Int) (h : Heap) (R : Value → Heap → Prop) : Prop :=
  ∀ x3_1 : Int, x3_1 = IntKind.i64.wrap (x3 + 1) → I5 x3_1 h ∧ M5 x3_1 h < m5
def F39_b9 (I5 : Int → Heap → Prop) (M5 : Int → Heap → Nat) (m5 : Nat) (I9 : Int → Heap → Prop) (M9 : Int → Heap → Nat) (m9 : Nat) (q1 : Addr) (x3 : Int) (x4 : Int) (h : Heap) (R : Value → Heap → Prop) : Prop :=
  br (decide ((x4 : Int) < x3)) (F39_k10 I5 M5 m5 I9 M9 m9 q1 x3 x4 h R) (F39_k12 I5 M5 m5 q1 x3 h R)
def F39_k8 (I5 : Int → Heap → Prop) (M5 : Int → Heap → Nat) (m5 : Nat) (q1 : Addr) (x3 : Int) (h : Heap) (R : Value → Heap → Prop) : Prop :=
  ∀ x4 : Int, x4 = 0 → ∃ (I9 : Int → Heap → Prop) (M9 : Int → Heap → Nat), I9 x4 h ∧ ∀ h1 (x4_1 : Int), I9 x4_1 h1 → F39_b9 I5 M5 m5 I9 M9 (M9 x4_1 h1) q1 x3 x4_1 h1 R
def F39_k7 (I5 : Int → Heap → Prop) (M5 : Int → Heap → Nat) (m5 : Nat) (q1 : Addr) (x3 : Int) (b45 : Bool) (h : Heap) (R : Value → Heap → Prop) : Prop :=
  br b45 (R (Value.int .i64 2) h) (F39_k8 I5 M5 m5 q1 x3 h R)
def F39_k6 (I5 : Int → Heap → Prop) (M5 : Int → Heap → Nat) (m5 : Nat) (q1 : Addr) (x3 : Int) (h : Heap) (R : Value → Heap → Prop) : Prop :=
  ∃ a31 : Option Addr, ∃ l31 : Nat, ∃ c31 : Nat, Vc.cell h (q1.add 2) = some (Value.slice a31 l31 c31) ∧ ∃ q33 : Addr, a31 = some q33 ∧ (0 : Int) ≤ x3 ∧ x3 < (l31 : Int) ∧ ∃ x35 : Int, Vc.cell h ((q33.add (x3.toNat * 33)).add 32) = some (Value.int .i64 x35) ∧ br (decide ((x35 : Int) < 0)) (F39_k7 I5 M5 m5 q1 x3 true h R) (∃ a39 : Option Addr, ∃ l39 : Nat, ∃ c39 : Nat, Vc.cell h (q1.add 2) = some (Value.slice a39 l39 c39) ∧ ∃ q41 : Addr, a39 = some q41 ∧ (0 : Int) ≤ x3 ∧ x3 < (l39 : Int) ∧ ∃ x43 : Int, Vc.cell h ((q41.add (x3.toNat * 33)).add 32) = some (Value.int .i64 x43) ∧ F39_k7 I5 M5 m5 q1 x3 (decide ((x43 : Int) > 2147483647)) h R)
def F39_k13 (h : Heap) (R : Value → Heap → Prop) : Prop :=
  R (Value.int .i64 0) h
def F39_b5 (I5 : Int → Heap → Prop) (M5 : Int → Heap → Nat) (m5 : Nat) (q1 : Addr) (x3 : Int) (h : Heap) (R : Value → Heap → Prop) : Prop :=
  ∃ a25 : Option Addr, ∃ l25 : Nat, ∃ c25 : Nat, Vc.cell h (q1.add 2) = some (Value.slice a25 l25 c25) ∧ br (decide ((x3 : Int) < (l25 : Int))) (F39_k6 I5 M5 m5 q1 x3 h R) (F39_k13 h R)
def F39_k4 (q1 : Addr) (h : Heap) (R : Value → Heap → Prop) : Prop :=
  ∀ x3 : Int, x3 = 0 → ∃ (I5 : Int → Heap → Prop) (M5 : Int → Heap → Nat), I5 x3 h ∧ ∀ h1 (x3_1 : Int), I5 x3_1 h1 → F39_b5 I5 M5 (M5 x3_1 h1) q1 x3_1 h1 R
def F39_k3 (q1 : Addr) (h : Heap) (R : Value → Heap → Prop) : Prop :=
  ∃ a20 : Option Addr, ∃ l20 : Nat, ∃ c20 : Nat, Vc.cell h (q1.add 2) = some (Value.slice a20 l20 c20) ∧ br (decide (((l20 : Int) : Int) > 8)) (R (Value.int .i64 3) h) (F39_k4 q1 h R)
def F39_k2 (q1 : Addr) (h : Heap) (R : Value → Heap → Prop) : Prop :=
  ∃ a16 : Option Addr, ∃ l16 : Nat, ∃ c16 : Nat, Vc.cell h (q1.add 2) = some (Value.slice a16 l16 c16) ∧ br (((l16 : Int) : Int) == 0) (R (Value.int .i64 9) h) (F39_k3 q1 h R)
def F39_k1 (q1 : Addr) (b14 : Bool) (h : Heap) (R : Value → Heap → Prop) : Prop :=
  br b14 (R (Value.int .i64 2) h) (F39_k2 q1 h R)
def F39 (s0_0 : ByteArray) (s0_1 : ByteArray) (a0_2 : Option Addr) (l0_2 : Nat) (c0_2 : Nat) (h : Heap) (R : Value → Heap → Prop) : Prop :=
  newK h (.cells #[Value.string s0_0, Value.string s0_1, Value.slice a0_2 l0_2 c0_2] 59) fun b1 h1 => ∃ s6 : ByteArray, Vc.cell h1 ((at0 b1).add 0) = some (Value.string s6) ∧ HCalls Tryd.prog 38 #[Value.string s6] h1 fun r7 h2 => ∃ b7 : Bool, r7 = Value.bool b7 ∧ br (!b7) (F39_k1 (at0 b1) true h2 R) (∃ s11 : ByteArray, Vc.cell h2 ((at0 b1).add 1) = some (Value.string s11) ∧ HCalls Tryd.prog 38 #[Value.string s11] h2 fun r12 h3 => ∃ b12 : Bool, r12 = Value.bool b12 ∧ F39_k1 (at0 b1) (!b12) h3 R)
def A39 : Ann := { bind := [3, 4], loops := [(8, [(3, .int .i64)]), (13, [(4, .int .i64)])], draws := [(15, 0, 13)] }
theorem F39_ent (s0_0 : ByteArray) (s0_1 : ByteArray) (a0_2 : Option Addr) (l0_2 : Nat) (c0_2 : Nat) (h : Heap) (R : Value → Heap → Prop) (H : F39 s0_0 s0_1 a0_2 l0_2 c0_2 h R) : HEnt Tryd.prog 39 #[Value.agg #[Value.string s0_0, Value.string s0_1, Value.slice a0_2 l0_2 c0_2]] h R :=
  hent A39 mixed Tryd.func39 rfl (by kernel_rfl) (by kernel_rfl) (Eq.mp (by kernel_rfl) H)

/-! ### 34 veneer/veneerref13.Check -/
def F34_k8 (I1 : Int → Int → Heap → Prop) (M1 : Int → Int → Heap → Nat) (m1 : Nat) (I6 : Int → Heap → Prop) (M6 : Int → Heap → Nat) (m6 : Nat) (a0_0 : Option Addr) (n0_1 : Nat) (n0_2 : Nat) (x3 : Int) (x4 : Int) (x6 : Int) (h : Heap) (R : Value → Heap → Prop) : Prop :=
  I6 (IntKind.i64.wrap (x6 + 1)) h ∧ M6 (IntKind.i64.wrap (x6 + 1)) h < m6
def F34_k7 (I1 : Int → Int → Heap → Prop) (M1 : Int → Int → Heap → Nat) (m1 : Nat) (I6 : Int → Heap → Prop) (M6 : Int → Heap → Nat) (m6 : Nat) (a0_0 : Option Addr) (n0_1 : Nat) (n0_2 : Nat) (x3 : Int) (x4 : Int) (x6 : Int) (h : Heap) (R : Value → Heap → Prop) : Prop :=
  ∃ q43 : Addr, a0_0 = some q43 ∧ (0 : Int) ≤ x6 ∧ x6 < (n0_1 : Int) ∧ ∃ s46 : ByteArray, Vc.cell h (((q43.add (x6.toNat * 4)).add 1).add 0) = some (Value.string s46) ∧ ∃ q49 : Addr, a0_0 = some q49 ∧ (0 : Int) ≤ x4 ∧ x4 < (n0_1 : Int) ∧ ∃ s52 : ByteArray, Vc.cell h (((q49.add (x4.toNat * 4)).add 1).add 0) = some (Value.string s52) ∧ ∀ h1, Cls false h h1 → br (seq s46 s52) (R (Value.int .i64 8) h1) (F34_k8 I1 M1 m1 I6 M6 m6 a0_0 n0_1 n0_2 x3 x4 x6 h1 R)
def F34_k10 (I1 : Int → Int → Heap → Prop) (M1 : Int → Int → Heap → Nat) (m1 : Nat) (a0_0 : Option Addr) (n0_1 : Nat) (n0_2 : Nat) (x3 : Int) (x4 : Int) (h : Heap) (R : Value → Heap → Prop) : Prop :=
  I1 x3 (IntKind.i64.wrap (x4 + 1)) h ∧ M1 x3 (IntKind.i64.wrap (x4 + 1)) h < m1
def F34_k9 (I1 : Int → Int → Heap → Prop) (M1 : Int → Int → Heap → Nat) (m1 : Nat) (a0_0 : Option Addr) (n0_1 : Nat) (n0_2 : Nat) (x3 : Int) (x4 : Int) (h : Heap) (R : Value → Heap → Prop) : Prop :=
  ∃ q57 : Addr, a0_0 = some q57 ∧ (0 : Int) ≤ x4 ∧ x4 < (n0_1 : Int) ∧ ∃ a60 : Option Addr, ∃ l60 : Nat, ∃ c60 : Nat, Vc.cell h (((q57.add (x4.toNat * 4)).add 1).add 2) = some (Value.slice a60 l60 c60) ∧ br (decide ((IntKind.i64.wrap (x3 + (l60 : Int)) : Int) > 16)) (R (Value.int .i64 3) h) (F34_k10 I1 M1 m1 a0_0 n0_1 n0_2 (IntKind.i64.wrap (x3 + (l60 : Int))) x4 h R)
def F34_b6 (I1 : Int → Int → Heap → Prop) (M1 : Int → Int → Heap → Nat) (m1 : Nat) (I6 : Int → Heap → Prop) (M6 : Int → Heap → Nat) (m6 : Nat) (a0_0 : Option Addr) (n0_1 : Nat) (n0_2 : Nat) (x3 : Int) (x4 : Int) (x6 : Int) (h : Heap) (R : Value → Heap → Prop) : Prop :=
  br (decide ((x6 : Int) < x4)) (F34_k7 I1 M1 m1 I6 M6 m6 a0_0 n0_1 n0_2 x3 x4 x6 h R) (F34_k9 I1 M1 m1 a0_0 n0_1 n0_2 x3 x4 h R)
def F34_k5 (I1 : Int → Int → Heap → Prop) (M1 : Int → Int → Heap → Nat) (m1 : Nat) (a0_0 : Option Addr) (n0_1 : Nat) (n0_2 : Nat) (x3 : Int) (x4 : Int) (h : Heap) (R : Value → Heap → Prop) : Prop :=
  ∃ (I6 : Int → Heap → Prop) (M6 : Int → Heap → Nat), I6 0 h ∧ ∀ h1 (x6 : Int), I6 x6 h1 → F34_b6 I1 M1 m1 I6 M6 (M6 x6 h1) a0_0 n0_1 n0_2 x3 x4 x6 h1 R
def F34_k4 (I1 : Int → Int → Heap → Prop) (M1 : Int → Int → Heap → Nat) (m1 : Nat) (a0_0 : Option Addr) (n0_1 : Nat) (n0_2 : Nat) (x3 : Int) (x4 : Int) (h : Heap) (R : Value → Heap → Prop) : Prop :=
  ∃ q29 : Addr, a0_0 = some q29 ∧ (0 : Int) ≤ x4 ∧ x4 < (n0_1 : Int) ∧ ∃ s31_0 : ByteArray, ∃ s31_1 : ByteArray, ∃ a31_2 : Option Addr, ∃ l31_2 : Nat, ∃ c31_2 : Nat, Vc.cell h (((q29.add (x4.toNat * 4)).add 1).add 0) = some (Value.string s31_0) ∧ Vc.cell h (((q29.add (x4.toNat * 4)).add 1).add 1) = some (Value.string s31_1) ∧ Vc.cell h (((q29.add (x4.toNat * 4)).add 1).add 2) = some (Value.slice a31_2 l31_2 c31_2) ∧ 3 = 3 ∧ HCalls Tryd.prog 39 #[Value.agg #[Value.string s31_0, Value.string s31_1, Value.slice a31_2 l31_2 c31_2]] h fun r32 h1 => ∃ x32 : Int, r32 = Value.int .i64 x32 ∧ br ((x32 : Int) != 0) (R (Value.int .i64 x32) h1) (F34_k5 I1 M1 m1 a0_0 n0_1 n0_2 x3 x4 h1 R)
def F34_k3 (I1 : Int → Int → Heap → Prop) (M1 : Int → Int → Heap → Nat) (m1 : Nat) (a0_0 : Option Addr) (n0_1 : Nat) (n0_2 : Nat) (x3 : Int) (x4 : Int) (b26 : Bool) (h : Heap) (R : Value → Heap → Prop) : Prop :=
  br b26 (R (Value.int .i64 2) h) (F34_k4 I1 M1 m1 a0_0 n0_1 n0_2 x3 x4 h R)
def F34_k2 (I1 : Int → Int → Heap → Prop) (M1 : Int → Int → Heap → Nat) (m1 : Nat) (a0_0 : Option Addr) (n0_1 : Nat) (n0_2 : Nat) (x3 : Int) (x4 : Int) (h : Heap) (R : Value → Heap → Prop) : Prop :=
  ∃ q15 : Addr, a0_0 = some q15 ∧ (0 : Int) ≤ x4 ∧ x4 < (n0_1 : Int) ∧ ∃ x17 : Int, Vc.cell h ((q15.add (x4.toNat * 4)).add 0) = some (Value.int .i64 x17) ∧ br (decide ((x17 : Int) < 1)) (F34_k3 I1 M1 m1 a0_0 n0_1 n0_2 x3 x4 true h R) (∃ q22 : Addr, a0_0 = some q22 ∧ (0 : Int) ≤ x4 ∧ x4 < (n0_1 : Int) ∧ ∃ x24 : Int, Vc.cell h ((q22.add (x4.toNat * 4)).add 0) = some (Value.int .i64 x24) ∧ F34_k3 I1 M1 m1 a0_0 n0_1 n0_2 x3 x4 (decide ((x24 : Int) > 8)) h R)
def F34_k11 (h : Heap) (R : Value → Heap → Prop) : Prop :=
  R (Value.int .i64 0) h
def F34_b1 (I1 : Int → Int → Heap → Prop) (M1 : Int → Int → Heap → Nat) (m1 : Nat) (a0_0 : Option Addr) (n0_1 : Nat) (n0_2 : Nat) (x3 : Int) (x4 : Int) (h : Heap) (R : Value → Heap → Prop) : Prop :=
  br (decide ((x4 : Int) < (n0_1 : Int))) (F34_k2 I1 M1 m1 a0_0 n0_1 n0_2 x3 x4 h R) (F34_k11 h R)
def F34 (a0 : Option Addr) (l0 : Nat) (c0 : Nat) (h : Heap) (R : Value → Heap → Prop) : Prop :=
  ∃ (I1 : Int → Int → Heap → Prop) (M1 : Int → Int → Heap → Nat), I1 0 0 h ∧ ∀ h1 (x3 : Int) (x4 : Int), I1 x3 x4 h1 → F34_b1 I1 M1 (M1 x3 x4 h1) a0 l0 c0 x3 x4 h1 R
def A34 : Ann := { loops := [(3, [(3, .int .i64), (4, .int .i64)]), (11, [(6, .int .i64)])], draws := [(13, 0, 13)] }
theorem F34_ent (a0 : Option Addr) (l0 : Nat) (c0 : Nat) (h : Heap) (R : Value → Heap → Prop) (H : F34 a0 l0 c0 h R) : HEnt Tryd.prog 34 #[Value.slice a0 l0 c0] h R :=
  hent A34 mixed Tryd.func34 rfl (by kernel_rfl) (by kernel_rfl) (Eq.mp (by kernel_rfl) H)

/-! ### 23 veneer/rootdb.Check -/
def F23_k7 (I1 : Int → Int → Heap → Prop) (M1 : Int → Int → Heap → Nat) (m1 : Nat) (a0_0 : Option Addr) (n0_1 : Nat) (n0_2 : Nat) (x3 : Int) (a7_0 : Option Addr) (n7_1 : Nat) (n7_2 : Nat) (x8 : Int) (x9 : Int) (h : Heap) (R : Value → Heap → Prop) : Prop :=
  I1 x3 (IntKind.i64.wrap (x9 + 1)) h ∧ M1 x3 (IntKind.i64.wrap (x9 + 1)) h < m1
def F23_k6 (I1 : Int → Int → Heap → Prop) (M1 : Int → Int → Heap → Nat) (m1 : Nat) (a0_0 : Option Addr) (n0_1 : Nat) (n0_2 : Nat) (x3 : Int) (q5 : Addr) (a7_0 : Option Addr) (n7_1 : Nat) (n7_2 : Nat) (x8 : Int) (x9 : Int) (h : Heap) (R : Value → Heap → Prop) : Prop :=
  ∃ a36 : Option Addr, ∃ l36 : Nat, ∃ c36 : Nat, Vc.cell h ((q5.add 1).add 2) = some (Value.slice a36 l36 c36) ∧ ∀ x3_1 : Int, x3_1 = IntKind.i64.wrap (x3 + (l36 : Int)) → br (decide ((x3_1 : Int) > 16)) (R (Value.int .i64 3) h) (F23_k7 I1 M1 m1 a0_0 n0_1 n0_2 x3_1 a7_0 n7_1 n7_2 x8 x9 h R)
def F23_k5 (I1 : Int → Int → Heap → Prop) (M1 : Int → Int → Heap → Nat) (m1 : Nat) (a0_0 : Option Addr) (n0_1 : Nat) (n0_2 : Nat) (x3 : Int) (x4 : Int) (q5 : Addr) (a7_0 : Option Addr) (n7_1 : Nat) (n7_2 : Nat) (x8 : Int) (x9 : Int) (h : Heap) (R : Value → Heap → Prop) : Prop :=
  (0 : Int) ≤ 0 ∧ (0 : Int) ≤ x4 ∧ x4 ≤ (n0_2 : Int) ∧ HCalls Tryd.prog 46 #[Value.slice (cutAt n0_2 0 4 a0_0) (x4.toNat - 0) (n0_2 - 0), Value.func (.func 47) #[] #[Value.pointer (some q5)]] h fun r32 h1 => ∃ b32 : Bool, r32 = Value.bool b32 ∧ br b32 (R (Value.int .i64 8) h1) (F23_k6 I1 M1 m1 a0_0 n0_1 n0_2 x3 q5 a7_0 n7_1 n7_2 x8 x9 h1 R)
def F23_k4 (I1 : Int → Int → Heap → Prop) (M1 : Int → Int → Heap → Nat) (m1 : Nat) (a0_0 : Option Addr) (n0_1 : Nat) (n0_2 : Nat) (x3 : Int) (x4 : Int) (q5 : Addr) (a7_0 : Option Addr) (n7_1 : Nat) (n7_2 : Nat) (x8 : Int) (x9 : Int) (h : Heap) (R : Value → Heap → Prop) : Prop :=
  ∃ s23_0 : ByteArray, ∃ s23_1 : ByteArray, ∃ a23_2 : Option Addr, ∃ l23_2 : Nat, ∃ c23_2 : Nat, Vc.cell h ((q5.add 1).add 0) = some (Value.string s23_0) ∧ Vc.cell h ((q5.add 1).add 1) = some (Value.string s23_1) ∧ Vc.cell h ((q5.add 1).add 2) = some (Value.slice a23_2 l23_2 c23_2) ∧ 3 = 3 ∧ HCalls Tryd.prog 37 #[Value.agg #[Value.string s23_0, Value.string s23_1, Value.slice a23_2 l23_2 c23_2]] h fun r24 h1 => ∃ x24 : Int, r24 = Value.int .i64 x24 ∧ br ((x24 : Int) != 0) (R (Value.int .i64 x24) h1) (F23_k5 I1 M1 m1 a0_0 n0_1 n0_2 x3 x4 q5 a7_0 n7_1 n7_2 x8 x9 h1 R)
def F23_k3 (I1 : Int → Int → Heap → Prop) (M1 : Int → Int → Heap → Nat) (m1 : Nat) (a0_0 : Option Addr) (n0_1 : Nat) (n0_2 : Nat) (x3 : Int) (x4 : Int) (q5 : Addr) (a7_0 : Option Addr) (n7_1 : Nat) (n7_2 : Nat) (x8 : Int) (x9 : Int) (b21 : Bool) (h : Heap) (R : Value → Heap → Prop) : Prop :=
  br b21 (R (Value.int .i64 2) h) (F23_k4 I1 M1 m1 a0_0 n0_1 n0_2 x3 x4 q5 a7_0 n7_1 n7_2 x8 x9 h R)
def F23_k2 (I1 : Int → Int → Heap → Prop) (M1 : Int → Int → Heap → Nat) (m1 : Nat) (a0_0 : Option Addr) (n0_1 : Nat) (n0_2 : Nat) (x3 : Int) (a7_0 : Option Addr) (n7_1 : Nat) (n7_2 : Nat) (x8 : Int) (x9 : Int) (h : Heap) (R : Value → Heap → Prop) : Prop :=
  ∃ q12 : Addr, a7_0 = some q12 ∧ (0 : Int) ≤ x9 ∧ x9 < (n7_1 : Int) ∧ ∃ x13_0 : Int, ∃ s13_1 : ByteArray, ∃ s13_2 : ByteArray, ∃ a13_3 : Option Addr, ∃ l13_3 : Nat, ∃ c13_3 : Nat, Vc.cell h ((q12.add (x9.toNat * 4)).add 0) = some (Value.int .i64 x13_0) ∧ Vc.cell h ((q12.add (x9.toNat * 4)).add 1) = some (Value.string s13_1) ∧ Vc.cell h ((q12.add (x9.toNat * 4)).add 2) = some (Value.string s13_2) ∧ Vc.cell h ((q12.add (x9.toNat * 4)).add 3) = some (Value.slice a13_3 l13_3 c13_3) ∧ 4 = 4 ∧ newK h (.cells (zeroC Tryd.prog 61) 61) fun b5 h1 => storeK 4 h1 (at0 b5) (Value.agg #[Value.int .i64 x13_0, Value.string s13_1, Value.string s13_2, Value.slice a13_3 l13_3 c13_3]) fun h2 => ∃ x15 : Int, Vc.cell h2 ((at0 b5).add 0) = some (Value.int .i64 x15) ∧ br (decide ((x15 : Int) < 1)) (F23_k3 I1 M1 m1 a0_0 n0_1 n0_2 x3 x9 (at0 b5) a7_0 n7_1 n7_2 x8 x9 true h2 R) (∃ x19 : Int, Vc.cell h2 ((at0 b5).add 0) = some (Value.int .i64 x19) ∧ F23_k3 I1 M1 m1 a0_0 n0_1 n0_2 x3 x9 (at0 b5) a7_0 n7_1 n7_2 x8 x9 (decide ((x19 : Int) > 8)) h2 R)
def F23_k8 (h : Heap) (R : Value → Heap → Prop) : Prop :=
  R (Value.int .i64 0) h
def F23_b1 (I1 : Int → Int → Heap → Prop) (M1 : Int → Int → Heap → Nat) (m1 : Nat) (a0_0 : Option Addr) (n0_1 : Nat) (n0_2 : Nat) (x3 : Int) (a7_0 : Option Addr) (n7_1 : Nat) (n7_2 : Nat) (x8 : Int) (x9 : Int) (h : Heap) (R : Value → Heap → Prop) : Prop :=
  br (decide ((x9 : Int) < x8)) (F23_k2 I1 M1 m1 a0_0 n0_1 n0_2 x3 a7_0 n7_1 n7_2 x8 x9 h R) (F23_k8 h R)
def F23 (a0 : Option Addr) (l0 : Nat) (c0 : Nat) (h : Heap) (R : Value → Heap → Prop) : Prop :=
  ∀ x3 : Int, x3 = 0 → ∃ (I1 : Int → Int → Heap → Prop) (M1 : Int → Int → Heap → Nat), I1 x3 0 h ∧ ∀ h1 (x3_1 : Int) (x9 : Int), I1 x3_1 x9 h1 → F23_b1 I1 M1 (M1 x3_1 x9 h1) a0 l0 c0 x3_1 a0 l0 c0 (l0 : Int) x9 h1 R
def A23 : Ann := { bind := [3], loops := [(3, [(3, .int .i64), (9, .int .i64)])] }
theorem F23_ent (a0 : Option Addr) (l0 : Nat) (c0 : Nat) (h : Heap) (R : Value → Heap → Prop) (H : F23 a0 l0 c0 h R) : HEnt Tryd.prog 23 #[Value.slice a0 l0 c0] h R :=
  hent A23 mixed Tryd.func23 rfl (by kernel_rfl) (by kernel_rfl) (Eq.mp (by kernel_rfl) H)

/-! ### 46 slices.ContainsFunc[[]veneer/api.Pack,veneer/api.Pack] -/
def F46 (a0 : Option Addr) (l0 : Nat) (c0 : Nat) (v1 : Value) (h : Heap) (R : Value → Heap → Prop) : Prop :=
  HCalls Tryd.prog 50 #[Value.slice a0 l0 c0, v1] h fun r7 h1 => ∃ x7 : Int, r7 = Value.int .i64 x7 ∧ R (Value.bool (decide ((x7 : Int) ≥ 0))) h1
def A46 : Ann := {  }
theorem F46_ent (a0 : Option Addr) (l0 : Nat) (c0 : Nat) (v1 : Value) (h : Heap) (R : Value → Heap → Prop) (H : F46 a0 l0 c0 v1 h R) : HEnt Tryd.prog 46 #[Value.slice a0 l0 c0, v1] h R :=
  hent A46 mixed Tryd.func46 rfl (by kernel_rfl) (by kernel_rfl) (Eq.mp (by kernel_rfl) H)

/-! ### 30 veneer/plan.twin -/
def F30_k2 (I1 : Int → Heap → Prop) (M1 : Int → Heap → Nat) (m1 : Nat) (a3_0 : Option Addr) (n3_1 : Nat) (n3_2 : Nat) (x8 : Int) (x9 : Int) (h : Heap) (R : Value → Heap → Prop) : Prop :=
  ∃ q16 : Addr, a3_0 = some q16 ∧ (0 : Int) ≤ x9 ∧ x9 < (n3_1 : Int) ∧ ∃ a19 : Option Addr, ∃ l19 : Nat, ∃ c19 : Nat, Vc.cell h (((q16.add (x9.toNat * 4)).add 1).add 2) = some (Value.slice a19 l19 c19) ∧ HCalls Tryd.prog 52 #[Value.slice a19 l19 c19] h fun r20 h1 => ∃ a20 : Option Addr, ∃ l20 : Nat, ∃ c20 : Nat, r20 = Value.slice a20 l20 c20 ∧ ∃ q21 : Addr, a3_0 = some q21 ∧ (0 : Int) ≤ x9 ∧ x9 < (n3_1 : Int) ∧ storeK 1 h1 (((q21.add (x9.toNat * 4)).add 1).add 2) (Value.slice a20 l20 c20) fun h2 => I1 (IntKind.i64.wrap (x9 + 1)) h2 ∧ M1 (IntKind.i64.wrap (x9 + 1)) h2 < m1
def F30_k3 (a3_0 : Option Addr) (n3_1 : Nat) (n3_2 : Nat) (h : Heap) (R : Value → Heap → Prop) : Prop :=
  R (Value.slice a3_0 n3_1 n3_2) h
def F30_b1 (I1 : Int → Heap → Prop) (M1 : Int → Heap → Nat) (m1 : Nat) (a2_0 : Option Addr) (n2_1 : Nat) (n2_2 : Nat) (a3_0 : Option Addr) (n3_1 : Nat) (n3_2 : Nat) (x8 : Int) (x9 : Int) (h : Heap) (R : Value → Heap → Prop) : Prop :=
  br (decide ((x9 : Int) < x8)) (F30_k2 I1 M1 m1 a3_0 n3_1 n3_2 x8 x9 h R) (F30_k3 a3_0 n3_1 n3_2 h R)
def F30 (a0 : Option Addr) (l0 : Nat) (c0 : Nat) (h : Heap) (R : Value → Heap → Prop) : Prop :=
  HCalls Tryd.prog 51 #[Value.slice a0 l0 c0] h fun r6 h1 => ∃ a6 : Option Addr, ∃ l6 : Nat, ∃ c6 : Nat, r6 = Value.slice a6 l6 c6 ∧ ∃ (I1 : Int → Heap → Prop) (M1 : Int → Heap → Nat), I1 0 h1 ∧ ∀ h2 (x9 : Int), I1 x9 h2 → F30_b1 I1 M1 (M1 x9 h2) none 0 0 a6 l6 c6 (l6 : Int) x9 h2 R
def A30 : Ann := { loops := [(3, [(9, .int .i64)])] }
theorem F30_ent (a0 : Option Addr) (l0 : Nat) (c0 : Nat) (h : Heap) (R : Value → Heap → Prop) (H : F30 a0 l0 c0 h R) : HEnt Tryd.prog 30 #[Value.slice a0 l0 c0] h R :=
  hent A30 mixed Tryd.func30 rfl (by kernel_rfl) (by kernel_rfl) (Eq.mp (by kernel_rfl) H)

/-! ### 13 veneer/veneerref13.Same -/
def F13_k5 (I2 : Int → Heap → Prop) (M2 : Int → Heap → Nat) (m2 : Nat) (a0_0 : Option Addr) (n0_1 : Nat) (n0_2 : Nat) (a1_0 : Option Addr) (n1_1 : Nat) (n1_2 : Nat) (x5 : Int) (h : Heap) (R : Value → Heap → Prop) : Prop :=
  ∀ x5_1 : Int, x5_1 = IntKind.i64.wrap (x5 + 1) → I2 x5_1 h ∧ M2 x5_1 h < m2
def F13_k4 (I2 : Int → Heap → Prop) (M2 : Int → Heap → Nat) (m2 : Nat) (a0_0 : Option Addr) (n0_1 : Nat) (n0_2 : Nat) (a1_0 : Option Addr) (n1_1 : Nat) (n1_2 : Nat) (x5 : Int) (b41 : Bool) (h : Heap) (R : Value → Heap → Prop) : Prop :=
  br b41 (R (Value.bool false) h) (F13_k5 I2 M2 m2 a0_0 n0_1 n0_2 a1_0 n1_1 n1_2 x5 h R)
def F13_k3 (I2 : Int → Heap → Prop) (M2 : Int → Heap → Nat) (m2 : Nat) (a0_0 : Option Addr) (n0_1 : Nat) (n0_2 : Nat) (a1_0 : Option Addr) (n1_1 : Nat) (n1_2 : Nat) (x5 : Int) (h : Heap) (R : Value → Heap → Prop) : Prop :=
  ∃ q19 : Addr, a0_0 = some q19 ∧ (0 : Int) ≤ x5 ∧ x5 < (n0_1 : Int) ∧ ∃ x21 : Int, Vc.cell h ((q19.add (x5.toNat * 4)).add 0) = some (Value.int .i64 x21) ∧ ∃ q24 : Addr, a1_0 = some q24 ∧ (0 : Int) ≤ x5 ∧ x5 < (n1_1 : Int) ∧ ∃ x26 : Int, Vc.cell h ((q24.add (x5.toNat * 4)).add 0) = some (Value.int .i64 x26) ∧ br ((x21 : Int) != x26) (∀ h1, Cls true h h1 → F13_k4 I2 M2 m2 a0_0 n0_1 n0_2 a1_0 n1_1 n1_2 x5 true h1 R) (∃ q31 : Addr, a0_0 = some q31 ∧ (0 : Int) ≤ x5 ∧ x5 < (n0_1 : Int) ∧ ∃ s33_0 : ByteArray, ∃ s33_1 : ByteArray, ∃ a33_2 : Option Addr, ∃ l33_2 : Nat, ∃ c33_2 : Nat, Vc.cell h (((q31.add (x5.toNat * 4)).add 1).add 0) = some (Value.string s33_0) ∧ Vc.cell h (((q31.add (x5.toNat * 4)).add 1).add 1) = some (Value.string s33_1) ∧ Vc.cell h (((q31.add (x5.toNat * 4)).add 1).add 2) = some (Value.slice a33_2 l33_2 c33_2) ∧ 3 = 3 ∧ ∃ q36 : Addr, a1_0 = some q36 ∧ (0 : Int) ≤ x5 ∧ x5 < (n1_1 : Int) ∧ ∃ s38_0 : ByteArray, ∃ s38_1 : ByteArray, ∃ a38_2 : Option Addr, ∃ l38_2 : Nat, ∃ c38_2 : Nat, Vc.cell h (((q36.add (x5.toNat * 4)).add 1).add 0) = some (Value.string s38_0) ∧ Vc.cell h (((q36.add (x5.toNat * 4)).add 1).add 1) = some (Value.string s38_1) ∧ Vc.cell h (((q36.add (x5.toNat * 4)).add 1).add 2) = some (Value.slice a38_2 l38_2 c38_2) ∧ 3 = 3 ∧ ∃ b39 : Bool, (∀ h1, Cls true h h1 → HEnt Tryd.prog 36 #[Value.agg #[Value.string s33_0, Value.string s33_1, Value.slice a33_2 l33_2 c33_2], Value.agg #[Value.string s38_0, Value.string s38_1, Value.slice a38_2 l38_2 c38_2]] h1 fun v h2 => v = Value.bool b39 ∧ Cls true h1 h2) ∧ ∀ h1, Cls true h h1 → F13_k4 I2 M2 m2 a0_0 n0_1 n0_2 a1_0 n1_1 n1_2 x5 (!b39) h1 R)
def F13_k6 (h : Heap) (R : Value → Heap → Prop) : Prop :=
  R (Value.bool true) h
def F13_b2 (I2 : Int → Heap → Prop) (M2 : Int → Heap → Nat) (m2 : Nat) (a0_0 : Option Addr) (n0_1 : Nat) (n0_2 : Nat) (a1_0 : Option Addr) (n1_1 : Nat) (n1_2 : Nat) (x5 : Int) (h : Heap) (R : Value → Heap → Prop) : Prop :=
  br (decide ((x5 : Int) < (n0_1 : Int))) (F13_k3 I2 M2 m2 a0_0 n0_1 n0_2 a1_0 n1_1 n1_2 x5 h R) (F13_k6 h R)
def F13_k1 (a0_0 : Option Addr) (n0_1 : Nat) (n0_2 : Nat) (a1_0 : Option Addr) (n1_1 : Nat) (n1_2 : Nat) (h : Heap) (R : Value → Heap → Prop) : Prop :=
  ∀ x5 : Int, x5 = 0 → ∃ (I2 : Int → Heap → Prop) (M2 : Int → Heap → Nat), I2 x5 h ∧ ∀ h1 (x5_1 : Int), I2 x5_1 h1 → F13_b2 I2 M2 (M2 x5_1 h1) a0_0 n0_1 n0_2 a1_0 n1_1 n1_2 x5_1 h1 R
def F13 (a0 : Option Addr) (l0 : Nat) (c0 : Nat) (a1 : Option Addr) (l1 : Nat) (c1 : Nat) (h : Heap) (R : Value → Heap → Prop) : Prop :=
  br (((l0 : Int) : Int) != (l1 : Int)) (R (Value.bool false) h) (F13_k1 a0 l0 c0 a1 l1 c1 h R)
def A13 : Ann := { bind := [5], loops := [(4, [(5, .int .i64)])], draws := [(6, 1, 25)] }
theorem F13_ent (a0 : Option Addr) (l0 : Nat) (c0 : Nat) (a1 : Option Addr) (l1 : Nat) (c1 : Nat) (h : Heap) (R : Value → Heap → Prop) (H : F13 a0 l0 c0 a1 l1 c1 h R) : HEnt Tryd.prog 13 #[Value.slice a0 l0 c0, Value.slice a1 l1 c1] h R :=
  hent A13 mixed Tryd.func13 rfl (by kernel_rfl) (by kernel_rfl) (Eq.mp (by kernel_rfl) H)

/-! ### 36 veneer/veneerref07.Same -/
def F36_k5 (I3 : Int → Heap → Prop) (M3 : Int → Heap → Nat) (m3 : Nat) (q2 : Addr) (q3 : Addr) (x5 : Int) (h : Heap) (R : Value → Heap → Prop) : Prop :=
  ∀ x5_1 : Int, x5_1 = IntKind.i64.wrap (x5 + 1) → I3 x5_1 h ∧ M3 x5_1 h < m3
def F36_k4 (I3 : Int → Heap → Prop) (M3 : Int → Heap → Nat) (m3 : Nat) (q2 : Addr) (q3 : Addr) (x5 : Int) (h : Heap) (R : Value → Heap → Prop) : Prop :=
  ∃ a35 : Option Addr, ∃ l35 : Nat, ∃ c35 : Nat, Vc.cell h (q2.add 2) = some (Value.slice a35 l35 c35) ∧ ∃ q37 : Addr, a35 = some q37 ∧ (0 : Int) ≤ x5 ∧ x5 < (l35 : Int) ∧ ∃ cs38 : Array Value, cs38.size = 33 ∧ CellsAt h (q37.add (x5.toNat * 33)) cs38.toList ∧ ∃ a40 : Option Addr, ∃ l40 : Nat, ∃ c40 : Nat, Vc.cell h (q3.add 2) = some (Value.slice a40 l40 c40) ∧ ∃ q42 : Addr, a40 = some q42 ∧ (0 : Int) ≤ x5 ∧ x5 < (l40 : Int) ∧ ∃ cs43 : Array Value, cs43.size = 33 ∧ CellsAt h (q42.add (x5.toNat * 33)) cs43.toList ∧ ∃ e44 : Bool, (∀ w : World, (Op.equal 75 (Value.agg cs38) (Value.agg cs43)).run Tryd.prog w = .ok e44 w) ∧ Tryd.prog.eqGuardType Tryd.prog.depth 75 = false ∧ ∀ h1, Cls false h h1 → br (!e44) (R (Value.bool false) h1) (F36_k5 I3 M3 m3 q2 q3 x5 h1 R)
def F36_k6 (h : Heap) (R : Value → Heap → Prop) : Prop :=
  R (Value.bool true) h
def F36_b3 (I3 : Int → Heap → Prop) (M3 : Int → Heap → Nat) (m3 : Nat) (q2 : Addr) (q3 : Addr) (x5 : Int) (h : Heap) (R : Value → Heap → Prop) : Prop :=
  ∃ a29 : Option Addr, ∃ l29 : Nat, ∃ c29 : Nat, Vc.cell h (q2.add 2) = some (Value.slice a29 l29 c29) ∧ br (decide ((x5 : Int) < (l29 : Int))) (F36_k4 I3 M3 m3 q2 q3 x5 h R) (F36_k6 h R)
def F36_k2 (q2 : Addr) (q3 : Addr) (h : Heap) (R : Value → Heap → Prop) : Prop :=
  ∀ x5 : Int, x5 = 0 → ∃ (I3 : Int → Heap → Prop) (M3 : Int → Heap → Nat), I3 x5 h ∧ ∀ h1 (x5_1 : Int), I3 x5_1 h1 → F36_b3 I3 M3 (M3 x5_1 h1) q2 q3 x5_1 h1 R
def F36_k1 (q2 : Addr) (q3 : Addr) (b26 : Bool) (h : Heap) (R : Value → Heap → Prop) : Prop :=
  br b26 (R (Value.bool false) h) (F36_k2 q2 q3 h R)
def F36 (s0_0 : ByteArray) (s0_1 : ByteArray) (a0_2 : Option Addr) (l0_2 : Nat) (c0_2 : Nat) (s1_0 : ByteArray) (s1_1 : ByteArray) (a1_2 : Option Addr) (l1_2 : Nat) (c1_2 : Nat) (h : Heap) (R : Value → Heap → Prop) : Prop :=
  newK h (.cells #[Value.string s0_0, Value.string s0_1, Value.slice a0_2 l0_2 c0_2] 59) fun b2 h1 => newK h1 (.cells #[Value.string s1_0, Value.string s1_1, Value.slice a1_2 l1_2 c1_2] 59) fun b3 h2 => ∃ s7 : ByteArray, Vc.cell h2 ((at0 b2).add 0) = some (Value.string s7) ∧ ∃ s9 : ByteArray, Vc.cell h2 ((at0 b3).add 0) = some (Value.string s9) ∧ br (!(seq s7 s9)) (F36_k1 (at0 b2) (at0 b3) true h2 R) (∃ s13 : ByteArray, Vc.cell h2 ((at0 b2).add 1) = some (Value.string s13) ∧ ∃ s15 : ByteArray, Vc.cell h2 ((at0 b3).add 1) = some (Value.string s15) ∧ br (!(seq s13 s15)) (F36_k1 (at0 b2) (at0 b3) true h2 R) (∃ a20 : Option Addr, ∃ l20 : Nat, ∃ c20 : Nat, Vc.cell h2 ((at0 b2).add 2) = some (Value.slice a20 l20 c20) ∧ ∃ a23 : Option Addr, ∃ l23 : Nat, ∃ c23 : Nat, Vc.cell h2 ((at0 b3).add 2) = some (Value.slice a23 l23 c23) ∧ F36_k1 (at0 b2) (at0 b3) (((l20 : Int) : Int) != (l23 : Int)) h2 R))
def A36 : Ann := { bind := [5], loops := [(4, [(5, .int .i64)])], draws := [(6, 0, 11)] }
theorem F36_ent (s0_0 : ByteArray) (s0_1 : ByteArray) (a0_2 : Option Addr) (l0_2 : Nat) (c0_2 : Nat) (s1_0 : ByteArray) (s1_1 : ByteArray) (a1_2 : Option Addr) (l1_2 : Nat) (c1_2 : Nat) (h : Heap) (R : Value → Heap → Prop) (H : F36 s0_0 s0_1 a0_2 l0_2 c0_2 s1_0 s1_1 a1_2 l1_2 c1_2 h R) : HEnt Tryd.prog 36 #[Value.agg #[Value.string s0_0, Value.string s0_1, Value.slice a0_2 l0_2 c0_2], Value.agg #[Value.string s1_0, Value.string s1_1, Value.slice a1_2 l1_2 c1_2]] h R :=
  hent A36 mixed Tryd.func36 rfl (by kernel_rfl) (by kernel_rfl) (Eq.mp (by kernel_rfl) H)

/-! ### 51 slices.Clone[[]veneer/api.Pack,veneer/api.Pack] -/
def F51_k1 (a0_0 : Option Addr) (n0_1 : Nat) (n0_2 : Nat) (h : Heap) (R : Value → Heap → Prop) : Prop :=
  0 * 4 ≤ 16777216 ∧ newK h (.cells #[] 61) fun b5 h1 => appK Tryd.prog 61 h1 (some (at0 b5)) 0 0 (Value.slice a0_0 n0_1 n0_2) fun a7 l7 c7 h2 => R (Value.slice a7 l7 c7) h2
def F51 (a0 : Option Addr) (l0 : Nat) (c0 : Nat) (h : Heap) (R : Value → Heap → Prop) : Prop :=
  br a0.isNone (R (Value.slice none 0 0) h) (F51_k1 a0 l0 c0 h R)
def A51 : Ann := {  }
theorem F51_ent (a0 : Option Addr) (l0 : Nat) (c0 : Nat) (h : Heap) (R : Value → Heap → Prop) (H : F51 a0 l0 c0 h R) : HEnt Tryd.prog 51 #[Value.slice a0 l0 c0] h R :=
  hent A51 mixed Tryd.func51 rfl (by kernel_rfl) (by kernel_rfl) (Eq.mp (by kernel_rfl) H)

/-! ### 52 slices.Clone[[]veneer/api.Ref,veneer/api.Ref] -/
def F52_k1 (a0_0 : Option Addr) (n0_1 : Nat) (n0_2 : Nat) (h : Heap) (R : Value → Heap → Prop) : Prop :=
  0 * 33 ≤ 16777216 ∧ newK h (.cells #[] 75) fun b5 h1 => appK Tryd.prog 75 h1 (some (at0 b5)) 0 0 (Value.slice a0_0 n0_1 n0_2) fun a7 l7 c7 h2 => R (Value.slice a7 l7 c7) h2
def F52 (a0 : Option Addr) (l0 : Nat) (c0 : Nat) (h : Heap) (R : Value → Heap → Prop) : Prop :=
  br a0.isNone (R (Value.slice none 0 0) h) (F52_k1 a0 l0 c0 h R)
def A52 : Ann := {  }
theorem F52_ent (a0 : Option Addr) (l0 : Nat) (c0 : Nat) (h : Heap) (R : Value → Heap → Prop) (H : F52 a0 l0 c0 h R) : HEnt Tryd.prog 52 #[Value.slice a0 l0 c0] h R :=
  hent A52 mixed Tryd.func52 rfl (by kernel_rfl) (by kernel_rfl) (Eq.mp (by kernel_rfl) H)

end Go.Proofs.YtfknpbgneeefjaaDoor
