import Derived.Test.YtpnbbgcaaogpdaaDoorProg
import Derived.Test.YtpnbbgcaaogpdaaDoorVcK

set_option linter.unusedVariables false
set_option maxRecDepth 100000
namespace Go.Proofs.YtpnbbgcaaogpdaaDoor
open Go.Vc
theorem mixed : Tryd.prog.follows .mixedOrders = true := by kernel_rfl
/-! ### 10 veneer/veneerlaw07.own -/
def F10 (s0_0 : ByteArray) (s0_1 : ByteArray) (a0_2 : Option Addr) (l0_2 : Nat) (c0_2 : Nat) (h : Heap) (R : Value → Heap → Prop) : Prop :=
  newK h (.cells #[Value.string s0_0, Value.string s0_1, Value.slice a0_2 l0_2 c0_2] 24) fun b1 h1 => newK h1 (.cells (zeroC Tryd.prog 24) 24) fun b2 h2 => ∃ Rl : Heap → Heap → Prop, (∀ h, Rl h h) ∧ (∀ a b c, Rl a b → Rl b c → Rl a c) ∧ ∃ a5 : Option Addr, ∃ l5 : Nat, ∃ c5 : Nat, (∀ w : World, Rl h2 w.heap → (loadVar 22 ((at0 b1).add 2)).run Tryd.prog w = .ok (Value.slice a5 l5 c5) w) ∧ ∃ a11 : Option Addr, ∃ l11 : Nat, ∃ c11 : Nat, (∀ w : World, Rl h2 w.heap → (loadVar 22 ((at0 b1).add 2)).run Tryd.prog w = .ok (Value.slice a11 l11 c11) w) ∧ (0 * 33 ≤ 16777216 ∧ newK h2 (.cells #[] 54) fun b3 h3 => Rl h2 h3 ∧ (appK Tryd.prog 54 h3 (some (at0 b3)) 0 0 (Value.slice a5 l5 c5) fun a6 l6 c6 h4 => Rl h3 h4 ∧ (#[Value.int .u8 0, Value.int .u8 0, Value.int .u8 0, Value.int .u8 0, Value.int .u8 0, Value.int .u8 0, Value.int .u8 0, Value.int .u8 0, Value.int .u8 0, Value.int .u8 0, Value.int .u8 0, Value.int .u8 0, Value.int .u8 0, Value.int .u8 0, Value.int .u8 0, Value.int .u8 0, Value.int .u8 0, Value.int .u8 0, Value.int .u8 0, Value.int .u8 0, Value.int .u8 0, Value.int .u8 0, Value.int .u8 0, Value.int .u8 0, Value.int .u8 0, Value.int .u8 0, Value.int .u8 0, Value.int .u8 0, Value.int .u8 0, Value.int .u8 0, Value.int .u8 0, Value.int .u8 0, Value.int .i64 (-7)]).size = 33 ∧ 1 * 33 ≤ 16777216 ∧ newK h4 (.cells #[Value.int .u8 0, Value.int .u8 0, Value.int .u8 0, Value.int .u8 0, Value.int .u8 0, Value.int .u8 0, Value.int .u8 0, Value.int .u8 0, Value.int .u8 0, Value.int .u8 0, Value.int .u8 0, Value.int .u8 0, Value.int .u8 0, Value.int .u8 0, Value.int .u8 0, Value.int .u8 0, Value.int .u8 0, Value.int .u8 0, Value.int .u8 0, Value.int .u8 0, Value.int .u8 0, Value.int .u8 0, Value.int .u8 0, Value.int .u8 0, Value.int .u8 0, Value.int .u8 0, Value.int .u8 0, Value.int .u8 0, Value.int .u8 0, Value.int .u8 0, Value.int .u8 0, Value.int .u8 0, Value.int .i64 (-7)] 54) fun b8 h5 => Rl h4 h5 ∧ appK Tryd.prog 54 h5 a6 l6 c6 (Value.slice (some (at0 b8)) 1 1) fun a9 l9 c9 h6 => Rl h5 h6 ∧ (0 : Int) ≤ 0 ∧ (0 : Int) ≤ (l11 : Int) ∧ (l11 : Int) ≤ (c9 : Int) ∧ storeK 1 h6 ((at0 b1).add 2) (Value.slice (cutAt c9 0 33 a9) (((l11 : Int).toNat) - 0) (c9 - 0)) fun h7 => True ∧ ∃ s15_0 : ByteArray, ∃ s15_1 : ByteArray, ∃ a15_2 : Option Addr, ∃ l15_2 : Nat, ∃ c15_2 : Nat, Vc.cell h7 ((at0 b1).add 0) = some (Value.string s15_0) ∧ Vc.cell h7 ((at0 b1).add 1) = some (Value.string s15_1) ∧ Vc.cell h7 ((at0 b1).add 2) = some (Value.slice a15_2 l15_2 c15_2) ∧ 3 = 3 ∧ storeK 3 h7 (at0 b2) (Value.agg #[Value.string s15_0, Value.string s15_1, Value.slice a15_2 l15_2 c15_2]) fun h8 => ∃ sr0_0 : ByteArray, ∃ sr0_1 : ByteArray, ∃ ar0_2 : Option Addr, ∃ lr0_2 : Nat, ∃ cr0_2 : Nat, Vc.cell h8 ((at0 b2).add 0) = some (Value.string sr0_0) ∧ Vc.cell h8 ((at0 b2).add 1) = some (Value.string sr0_1) ∧ Vc.cell h8 ((at0 b2).add 2) = some (Value.slice ar0_2 lr0_2 cr0_2) ∧ 3 = 3 ∧ R (Value.agg #[Value.string sr0_0, Value.string sr0_1, Value.slice ar0_2 lr0_2 cr0_2]) h8) ∧ (#[Value.int .u8 0, Value.int .u8 0, Value.int .u8 0, Value.int .u8 0, Value.int .u8 0, Value.int .u8 0, Value.int .u8 0, Value.int .u8 0, Value.int .u8 0, Value.int .u8 0, Value.int .u8 0, Value.int .u8 0, Value.int .u8 0, Value.int .u8 0, Value.int .u8 0, Value.int .u8 0, Value.int .u8 0, Value.int .u8 0, Value.int .u8 0, Value.int .u8 0, Value.int .u8 0, Value.int .u8 0, Value.int .u8 0, Value.int .u8 0, Value.int .u8 0, Value.int .u8 0, Value.int .u8 0, Value.int .u8 0, Value.int .u8 0, Value.int .u8 0, Value.int .u8 0, Value.int .u8 0, Value.int .i64 (-7)]).size = 33 ∧ 1 * 33 ≤ 16777216 ∧ newK h3 (.cells #[Value.int .u8 0, Value.int .u8 0, Value.int .u8 0, Value.int .u8 0, Value.int .u8 0, Value.int .u8 0, Value.int .u8 0, Value.int .u8 0, Value.int .u8 0, Value.int .u8 0, Value.int .u8 0, Value.int .u8 0, Value.int .u8 0, Value.int .u8 0, Value.int .u8 0, Value.int .u8 0, Value.int .u8 0, Value.int .u8 0, Value.int .u8 0, Value.int .u8 0, Value.int .u8 0, Value.int .u8 0, Value.int .u8 0, Value.int .u8 0, Value.int .u8 0, Value.int .u8 0, Value.int .u8 0, Value.int .u8 0, Value.int .u8 0, Value.int .u8 0, Value.int .u8 0, Value.int .u8 0, Value.int .i64 (-7)] 54) fun b8 h4 => Rl h3 h4 ∧ appK Tryd.prog 54 h4 (some (at0 b3)) 0 0 (Value.slice a5 l5 c5) fun a6 l6 c6 h5 => Rl h4 h5 ∧ appK Tryd.prog 54 h5 a6 l6 c6 (Value.slice (some (at0 b8)) 1 1) fun a9 l9 c9 h6 => Rl h5 h6 ∧ (0 : Int) ≤ 0 ∧ (0 : Int) ≤ (l11 : Int) ∧ (l11 : Int) ≤ (c9 : Int) ∧ storeK 1 h6 ((at0 b1).add 2) (Value.slice (cutAt c9 0 33 a9) (((l11 : Int).toNat) - 0) (c9 - 0)) fun h7 => True ∧ ∃ s15_0 : ByteArray, ∃ s15_1 : ByteArray, ∃ a15_2 : Option Addr, ∃ l15_2 : Nat, ∃ c15_2 : Nat, Vc.cell h7 ((at0 b1).add 0) = some (Value.string s15_0) ∧ Vc.cell h7 ((at0 b1).add 1) = some (Value.string s15_1) ∧ Vc.cell h7 ((at0 b1).add 2) = some (Value.slice a15_2 l15_2 c15_2) ∧ 3 = 3 ∧ storeK 3 h7 (at0 b2) (Value.agg #[Value.string s15_0, Value.string s15_1, Value.slice a15_2 l15_2 c15_2]) fun h8 => ∃ sr0_0 : ByteArray, ∃ sr0_1 : ByteArray, ∃ ar0_2 : Option Addr, ∃ lr0_2 : Nat, ∃ cr0_2 : Nat, Vc.cell h8 ((at0 b2).add 0) = some (Value.string sr0_0) ∧ Vc.cell h8 ((at0 b2).add 1) = some (Value.string sr0_1) ∧ Vc.cell h8 ((at0 b2).add 2) = some (Value.slice ar0_2 lr0_2 cr0_2) ∧ 3 = 3 ∧ R (Value.agg #[Value.string sr0_0, Value.string sr0_1, Value.slice ar0_2 lr0_2 cr0_2]) h8) ∧ (#[Value.int .u8 0, Value.int .u8 0, Value.int .u8 0, Value.int .u8 0, Value.int .u8 0, Value.int .u8 0, Value.int .u8 0, Value.int .u8 0, Value.int .u8 0, Value.int .u8 0, Value.int .u8 0, Value.int .u8 0, Value.int .u8 0, Value.int .u8 0, Value.int .u8 0, Value.int .u8 0, Value.int .u8 0, Value.int .u8 0, Value.int .u8 0, Value.int .u8 0, Value.int .u8 0, Value.int .u8 0, Value.int .u8 0, Value.int .u8 0, Value.int .u8 0, Value.int .u8 0, Value.int .u8 0, Value.int .u8 0, Value.int .u8 0, Value.int .u8 0, Value.int .u8 0, Value.int .u8 0, Value.int .i64 (-7)]).size = 33 ∧ 1 * 33 ≤ 16777216 ∧ newK h2 (.cells #[Value.int .u8 0, Value.int .u8 0, Value.int .u8 0, Value.int .u8 0, Value.int .u8 0, Value.int .u8 0, Value.int .u8 0, Value.int .u8 0, Value.int .u8 0, Value.int .u8 0, Value.int .u8 0, Value.int .u8 0, Value.int .u8 0, Value.int .u8 0, Value.int .u8 0, Value.int .u8 0, Value.int .u8 0, Value.int .u8 0, Value.int .u8 0, Value.int .u8 0, Value.int .u8 0, Value.int .u8 0, Value.int .u8 0, Value.int .u8 0, Value.int .u8 0, Value.int .u8 0, Value.int .u8 0, Value.int .u8 0, Value.int .u8 0, Value.int .u8 0, Value.int .u8 0, Value.int .u8 0, Value.int .i64 (-7)] 54) fun b8 h3 => Rl h2 h3 ∧ 0 * 33 ≤ 16777216 ∧ newK h3 (.cells #[] 54) fun b3 h4 => Rl h3 h4 ∧ appK Tryd.prog 54 h4 (some (at0 b3)) 0 0 (Value.slice a5 l5 c5) fun a6 l6 c6 h5 => Rl h4 h5 ∧ appK Tryd.prog 54 h5 a6 l6 c6 (Value.slice (some (at0 b8)) 1 1) fun a9 l9 c9 h6 => Rl h5 h6 ∧ (0 : Int) ≤ 0 ∧ (0 : Int) ≤ (l11 : Int) ∧ (l11 : Int) ≤ (c9 : Int) ∧ storeK 1 h6 ((at0 b1).add 2) (Value.slice (cutAt c9 0 33 a9) (((l11 : Int).toNat) - 0) (c9 - 0)) fun h7 => True ∧ ∃ s15_0 : ByteArray, ∃ s15_1 : ByteArray, ∃ a15_2 : Option Addr, ∃ l15_2 : Nat, ∃ c15_2 : Nat, Vc.cell h7 ((at0 b1).add 0) = some (Value.string s15_0) ∧ Vc.cell h7 ((at0 b1).add 1) = some (Value.string s15_1) ∧ Vc.cell h7 ((at0 b1).add 2) = some (Value.slice a15_2 l15_2 c15_2) ∧ 3 = 3 ∧ storeK 3 h7 (at0 b2) (Value.agg #[Value.string s15_0, Value.string s15_1, Value.slice a15_2 l15_2 c15_2]) fun h8 => ∃ sr0_0 : ByteArray, ∃ sr0_1 : ByteArray, ∃ ar0_2 : Option Addr, ∃ lr0_2 : Nat, ∃ cr0_2 : Nat, Vc.cell h8 ((at0 b2).add 0) = some (Value.string sr0_0) ∧ Vc.cell h8 ((at0 b2).add 1) = some (Value.string sr0_1) ∧ Vc.cell h8 ((at0 b2).add 2) = some (Value.slice ar0_2 lr0_2 cr0_2) ∧ 3 = 3 ∧ R (Value.agg #[Value.string sr0_0, Value.string sr0_1, Value.slice ar0_2 lr0_2 cr0_2]) h8
def A10 : Ann := { draws := [(1, 3, 0)], mixes := [(1, .quiet 1 (.quiet 2 (.quiet 4 (.quiet 7 (.quiet 8 (.quiet 9 (.two 0 (.two 3 (.one 5 (.one 6 (.quiet 10 (.quiet 11 (.last 12 (.done)))))) 5 (.one 3 (.one 6 (.quiet 10 (.quiet 11 (.last 12 (.done))))))) 5 (.one 0 (.one 3 (.one 6 (.quiet 10 (.quiet 11 (.last 12 (.done))))))))))))))] }
theorem F10_ent (s0_0 : ByteArray) (s0_1 : ByteArray) (a0_2 : Option Addr) (l0_2 : Nat) (c0_2 : Nat) (h : Heap) (R : Value → Heap → Prop) (H : F10 s0_0 s0_1 a0_2 l0_2 c0_2 h R) : HEnt Tryd.prog 10 #[Value.agg #[Value.string s0_0, Value.string s0_1, Value.slice a0_2 l0_2 c0_2]] h R :=
  hent A10 mixed Tryd.func10 rfl (by kernel_rfl) (by kernel_rfl) (Eq.mp (by kernel_rfl) H)

/-! ### 11 veneer/manifest.Check -/
def F11_k8 (I3 : Int → Heap → Prop) (M3 : Int → Heap → Nat) (m3 : Nat) (m3_1 : Option Nat) (a29_0 : Option Addr) (n29_1 : Nat) (n29_2 : Nat) (x30 : Int) (x31 : Int) (h : Heap) (R : Value → Heap → Prop) : Prop :=
  I3 (IntKind.i64.wrap (x31 + 1)) h ∧ M3 (IntKind.i64.wrap (x31 + 1)) h < m3
def F11_k7 (I3 : Int → Heap → Prop) (M3 : Int → Heap → Nat) (m3 : Nat) (m3_1 : Option Nat) (q5 : Addr) (a29_0 : Option Addr) (n29_1 : Nat) (n29_2 : Nat) (x30 : Int) (x31 : Int) (h : Heap) (R : Value → Heap → Prop) : Prop :=
  ∃ Rl : Heap → Heap → Prop, (∀ h, Rl h h) ∧ (∀ a b c, Rl a b → Rl b c → Rl a c) ∧ ∃ cs50 : Array Value, cs50.size = 32 ∧ (∀ w : World, Rl h w.heap → (loadVar 48 (q5.add 0)).run Tryd.prog w = .ok (Value.agg cs50) w) ∧ ∃ x51 : Int, (∀ w : World, Rl h w.heap → (Instr.lookup 56 (Value.map m3_1) (Value.agg cs50) false).run Tryd.prog w = .ok (Value.int .i64 x51) w) ∧ semK Tryd.prog (Instr.mapEntry 56 (Value.map m3_1) (Value.agg cs50)) h fun v53 h1 => ∃ x53 : Int, ∃ n53 : Int, v53 = Value.tuple #[Value.int .i64 x53, Value.int .i64 n53] ∧ Rl h h1 ∧ semU Tryd.prog (Instr.entryStore 56 (Value.map m3_1) (Value.int .i64 n53) (Value.int .i64 (IntKind.i64.wrap (x51 + 1)))) h1 fun h2 => True ∧ F11_k8 I3 M3 m3 m3_1 a29_0 n29_1 n29_2 x30 x31 h2 R
def F11_k6 (I3 : Int → Heap → Prop) (M3 : Int → Heap → Nat) (m3 : Nat) (m3_1 : Option Nat) (q5 : Addr) (a29_0 : Option Addr) (n29_1 : Nat) (n29_2 : Nat) (x30 : Int) (x31 : Int) (h : Heap) (R : Value → Heap → Prop) : Prop :=
  ∃ cs45 : Array Value, cs45.size = 32 ∧ CellsAt h (q5.add 0) cs45.toList ∧ semK Tryd.prog (Instr.lookup 56 (Value.map m3_1) (Value.agg cs45) false) h fun v46 h1 => ∃ x46 : Int, v46 = Value.int .i64 x46 ∧ br (decide ((x46 : Int) > 0)) (R (Value.int .i64 8) h1) (F11_k7 I3 M3 m3 m3_1 q5 a29_0 n29_1 n29_2 x30 x31 h1 R)
def F11_k5 (I3 : Int → Heap → Prop) (M3 : Int → Heap → Nat) (m3 : Nat) (m3_1 : Option Nat) (q5 : Addr) (a29_0 : Option Addr) (n29_1 : Nat) (n29_2 : Nat) (x30 : Int) (x31 : Int) (b42 : Bool) (h : Heap) (R : Value → Heap → Prop) : Prop :=
  br b42 (R (Value.int .i64 2) h) (F11_k6 I3 M3 m3 m3_1 q5 a29_0 n29_1 n29_2 x30 x31 h R)
def F11_k4 (I3 : Int → Heap → Prop) (M3 : Int → Heap → Nat) (m3 : Nat) (m3_1 : Option Nat) (a29_0 : Option Addr) (n29_1 : Nat) (n29_2 : Nat) (x30 : Int) (x31 : Int) (h : Heap) (R : Value → Heap → Prop) : Prop :=
  ∃ q33 : Addr, a29_0 = some q33 ∧ (0 : Int) ≤ x31 ∧ x31 < (n29_1 : Int) ∧ ∃ cs34 : Array Value, cs34.size = 33 ∧ CellsAt h (q33.add (x31.toNat * 33)) cs34.toList ∧ newK h (.cells (zeroC Tryd.prog 54) 54) fun b5 h1 => storeK 33 h1 (at0 b5) (Value.agg cs34) fun h2 => ∃ x36 : Int, Vc.cell h2 ((at0 b5).add 32) = some (Value.int .i64 x36) ∧ br (decide ((x36 : Int) < 0)) (F11_k5 I3 M3 m3 m3_1 (at0 b5) a29_0 n29_1 n29_2 x30 x31 true h2 R) (∃ x40 : Int, Vc.cell h2 ((at0 b5).add 32) = some (Value.int .i64 x40) ∧ F11_k5 I3 M3 m3 m3_1 (at0 b5) a29_0 n29_1 n29_2 x30 x31 (decide ((x40 : Int) > 2147483647)) h2 R)
def F11_k9 (h : Heap) (R : Value → Heap → Prop) : Prop :=
  R (Value.int .i64 0) h
def F11_b3 (I3 : Int → Heap → Prop) (M3 : Int → Heap → Nat) (m3 : Nat) (m3_1 : Option Nat) (a29_0 : Option Addr) (n29_1 : Nat) (n29_2 : Nat) (x30 : Int) (x31 : Int) (h : Heap) (R : Value → Heap → Prop) : Prop :=
  br (decide ((x31 : Int) < x30)) (F11_k4 I3 M3 m3 m3_1 a29_0 n29_1 n29_2 x30 x31 h R) (F11_k9 h R)
def F11_k2 (q1 : Addr) (h : Heap) (R : Value → Heap → Prop) : Prop :=
  newK h (.map #[] 0) fun b27 h1 => ∃ a29 : Option Addr, ∃ l29 : Nat, ∃ c29 : Nat, Vc.cell h1 (q1.add 2) = some (Value.slice a29 l29 c29) ∧ ∃ (I3 : Int → Heap → Prop) (M3 : Int → Heap → Nat), I3 0 h1 ∧ ∀ h2 (x31 : Int), I3 x31 h2 → F11_b3 I3 M3 (M3 x31 h2) (some b27) a29 l29 c29 (l29 : Int) x31 h2 R
def F11_k1 (q1 : Addr) (b6 : Bool) (h : Heap) (R : Value → Heap → Prop) : Prop :=
  br b6 (R (Value.int .i64 2) h) (∃ a19 : Option Addr, ∃ l19 : Nat, ∃ c19 : Nat, Vc.cell h (q1.add 2) = some (Value.slice a19 l19 c19) ∧ br (((l19 : Int) : Int) == 0) (R (Value.int .i64 9) h) (∃ a24 : Option Addr, ∃ l24 : Nat, ∃ c24 : Nat, Vc.cell h (q1.add 2) = some (Value.slice a24 l24 c24) ∧ br (decide (((l24 : Int) : Int) > 8)) (R (Value.int .i64 3) h) (F11_k2 q1 h R)))
def F11 (s0_0 : ByteArray) (s0_1 : ByteArray) (a0_2 : Option Addr) (l0_2 : Nat) (c0_2 : Nat) (h : Heap) (R : Value → Heap → Prop) : Prop :=
  newK h (.cells #[Value.string s0_0, Value.string s0_1, Value.slice a0_2 l0_2 c0_2] 24) fun b1 h1 => ∃ s8 : ByteArray, Vc.cell h1 ((at0 b1).add 0) = some (Value.string s8) ∧ HCalls Tryd.prog 26 #[Value.string s8] h1 fun r9 h2 => ∃ b9 : Bool, r9 = Value.bool b9 ∧ br (!b9) (F11_k1 (at0 b1) true h2 R) (∃ s13 : ByteArray, Vc.cell h2 ((at0 b1).add 1) = some (Value.string s13) ∧ HCalls Tryd.prog 26 #[Value.string s13] h2 fun r14 h3 => ∃ b14 : Bool, r14 = Value.bool b14 ∧ F11_k1 (at0 b1) (!b14) h3 R)
def A11 : Ann := { loops := [(9, [(31, .int .i64)])], draws := [(15, 3, 0)], mixes := [(15, .quiet 0 (.quiet 1 (.quiet 2 (.quiet 3 (.quiet 4 (.one 5 (.quiet 6 (.last 7 (.done)))))))))] }
theorem F11_ent (s0_0 : ByteArray) (s0_1 : ByteArray) (a0_2 : Option Addr) (l0_2 : Nat) (c0_2 : Nat) (h : Heap) (R : Value → Heap → Prop) (H : F11 s0_0 s0_1 a0_2 l0_2 c0_2 h R) : HEnt Tryd.prog 11 #[Value.agg #[Value.string s0_0, Value.string s0_1, Value.slice a0_2 l0_2 c0_2]] h R :=
  hent A11 mixed Tryd.func11 rfl (by kernel_rfl) (by kernel_rfl) (Eq.mp (by kernel_rfl) H)

/-! ### 12 veneer/veneerref07.Check -/
def F12_k11 (I5 : Int → Heap → Prop) (M5 : Int → Heap → Nat) (m5 : Nat) (I9 : Int → Heap → Prop) (M9 : Int → Heap → Nat) (m9 : Nat) (q1 : Addr) (x3 : Int) (x4 : Int) (h : Heap) (R : Value → Heap → Prop) : Prop :=
  ∀ x4_1 : Int, x4_1 = IntKind.i64.wrap (x4 + 1) → I9 x4_1 h ∧ M9 x4_1 h < m9
def F12_k10 (I5 : Int → Heap → Prop) (M5 : Int → Heap → Nat) (m5 : Nat) (I9 : Int → Heap → Prop) (M9 : Int → Heap → Nat) (m9 : Nat) (q1 : Addr) (x3 : Int) (x4 : Int) (h : Heap) (R : Value → Heap → Prop) : Prop :=
  ∃ a52 : Option Addr, ∃ l52 : Nat, ∃ c52 : Nat, Vc.cell h (q1.add 2) = some (Value.slice a52 l52 c52) ∧ ∃ q54 : Addr, a52 = some q54 ∧ (0 : Int) ≤ x4 ∧ x4 < (l52 : Int) ∧ ∃ cs56 : Array Value, cs56.size = 32 ∧ CellsAt h ((q54.add (x4.toNat * 33)).add 0) cs56.toList ∧ ∃ a58 : Option Addr, ∃ l58 : Nat, ∃ c58 : Nat, Vc.cell h (q1.add 2) = some (Value.slice a58 l58 c58) ∧ ∃ q60 : Addr, a58 = some q60 ∧ (0 : Int) ≤ x3 ∧ x3 < (l58 : Int) ∧ ∃ cs62 : Array Value, cs62.size = 32 ∧ CellsAt h ((q60.add (x3.toNat * 33)).add 0) cs62.toList ∧ ∃ e63 : Bool, (∀ w : World, (Op.equal 48 (Value.agg cs56) (Value.agg cs62)).run Tryd.prog w = .ok e63 w) ∧ Tryd.prog.eqGuardType Tryd.prog.depth 48 = false ∧ ∀ h1, Cls false h h1 → br e63 (R (Value.int .i64 8) h1) (F12_k11 I5 M5 m5 I9 M9 m9 q1 x3 x4 h1 R)
def F12_k12 (I5 : Int → Heap → Prop) (M5 : Int → Heap → Nat) (m5 : Nat) (q1 : Addr) (x3 : Int) (h : Heap) (R : Value → Heap → Prop) : Prop :=
  ∀ x3_1 : Int, x3_1 = IntKind.i64.wrap (x3 + 1) → I5 x3_1 h ∧ M5 x3_1 h < m5
def F12_b9 (I5 : Int → Heap → Prop) (M5 : Int → Heap → Nat) (m5 : Nat) (I9 : Int → Heap → Prop) (M9 : Int → Heap → Nat) (m9 : Nat) (q1 : Addr) (x3 : Int) (x4 : Int) (h : Heap) (R : Value → Heap → Prop) : Prop :=
  br (decide ((x4 : Int) < x3)) (F12_k10 I5 M5 m5 I9 M9 m9 q1 x3 x4 h R) (F12_k12 I5 M5 m5 q1 x3 h R)
def F12_k8 (I5 : Int → Heap → Prop) (M5 : Int → Heap → Nat) (m5 : Nat) (q1 : Addr) (x3 : Int) (h : Heap) (R : Value → Heap → Prop) : Prop :=
  ∀ x4 : Int, x4 = 0 → ∃ (I9 : Int → Heap → Prop) (M9 : Int → Heap → Nat), I9 x4 h ∧ ∀ h1 (x4_1 : Int), I9 x4_1 h1 → F12_b9 I5 M5 m5 I9 M9 (M9 x4_1 h1) q1 x3 x4_1 h1 R
def F12_k7 (I5 : Int → Heap → Prop) (M5 : Int → Heap → Nat) (m5 : Nat) (q1 : Addr) (x3 : Int) (b45 : Bool) (h : Heap) (R : Value → Heap → Prop) : Prop :=
  br b45 (R (Value.int .i64 2) h) (F12_k8 I5 M5 m5 q1 x3 h R)
def F12_k6 (I5 : Int → Heap → Prop) (M5 : Int → Heap → Nat) (m5 : Nat) (q1 : Addr) (x3 : Int) (h : Heap) (R : Value → Heap → Prop) : Prop :=
  ∃ a31 : Option Addr, ∃ l31 : Nat, ∃ c31 : Nat, Vc.cell h (q1.add 2) = some (Value.slice a31 l31 c31) ∧ ∃ q33 : Addr, a31 = some q33 ∧ (0 : Int) ≤ x3 ∧ x3 < (l31 : Int) ∧ ∃ x35 : Int, Vc.cell h ((q33.add (x3.toNat * 33)).add 32) = some (Value.int .i64 x35) ∧ br (decide ((x35 : Int) < 0)) (F12_k7 I5 M5 m5 q1 x3 true h R) (∃ a39 : Option Addr, ∃ l39 : Nat, ∃ c39 : Nat, Vc.cell h (q1.add 2) = some (Value.slice a39 l39 c39) ∧ ∃ q41 : Addr, a39 = some q41 ∧ (0 : Int) ≤ x3 ∧ x3 < (l39 : Int) ∧ ∃ x43 : Int, Vc.cell h ((q41.add (x3.toNat * 33)).add 32) = some (Value.int .i64 x43) ∧ F12_k7 I5 M5 m5 q1 x3 (decide ((x43 : Int) > 2147483647)) h R)
def F12_k13 (h : Heap) (R : Value → Heap → Prop) : Prop :=
  R (Value.int .i64 0) h
def F12_b5 (I5 : Int → Heap → Prop) (M5 : Int → Heap → Nat) (m5 : Nat) (q1 : Addr) (x3 : Int) (h : Heap) (R : Value → Heap → Prop) : Prop :=
  ∃ a25 : Option Addr, ∃ l25 : Nat, ∃ c25 : Nat, Vc.cell h (q1.add 2) = some (Value.slice a25 l25 c25) ∧ br (decide ((x3 : Int) < (l25 : Int))) (F12_k6 I5 M5 m5 q1 x3 h R) (F12_k13 h R)
def F12_k4 (q1 : Addr) (h : Heap) (R : Value → Heap → Prop) : Prop :=
  ∀ x3 : Int, x3 = 0 → ∃ (I5 : Int → Heap → Prop) (M5 : Int → Heap → Nat), I5 x3 h ∧ ∀ h1 (x3_1 : Int), I5 x3_1 h1 → F12_b5 I5 M5 (M5 x3_1 h1) q1 x3_1 h1 R
def F12_k3 (q1 : Addr) (h : Heap) (R : Value → Heap → Prop) : Prop :=
  ∃ a20 : Option Addr, ∃ l20 : Nat, ∃ c20 : Nat, Vc.cell h (q1.add 2) = some (Value.slice a20 l20 c20) ∧ br (decide (((l20 : Int) : Int) > 8)) (R (Value.int .i64 3) h) (F12_k4 q1 h R)
def F12_k2 (q1 : Addr) (h : Heap) (R : Value → Heap → Prop) : Prop :=
  ∃ a16 : Option Addr, ∃ l16 : Nat, ∃ c16 : Nat, Vc.cell h (q1.add 2) = some (Value.slice a16 l16 c16) ∧ br (((l16 : Int) : Int) == 0) (R (Value.int .i64 9) h) (F12_k3 q1 h R)
def F12_k1 (q1 : Addr) (b14 : Bool) (h : Heap) (R : Value → Heap → Prop) : Prop :=
  br b14 (R (Value.int .i64 2) h) (F12_k2 q1 h R)
def F12 (s0_0 : ByteArray) (s0_1 : ByteArray) (a0_2 : Option Addr) (l0_2 : Nat) (c0_2 : Nat) (h : Heap) (R : Value → Heap → Prop) : Prop :=
  newK h (.cells #[Value.string s0_0, Value.string s0_1, Value.slice a0_2 l0_2 c0_2] 24) fun b1 h1 => ∃ s6 : ByteArray, Vc.cell h1 ((at0 b1).add 0) = some (Value.string s6) ∧ HCalls Tryd.prog 27 #[Value.string s6] h1 fun r7 h2 => ∃ b7 : Bool, r7 = Value.bool b7 ∧ br (!b7) (F12_k1 (at0 b1) true h2 R) (∃ s11 : ByteArray, Vc.cell h2 ((at0 b1).add 1) = some (Value.string s11) ∧ HCalls Tryd.prog 27 #[Value.string s11] h2 fun r12 h3 => ∃ b12 : Bool, r12 = Value.bool b12 ∧ F12_k1 (at0 b1) (!b12) h3 R)
def A12 : Ann := { bind := [3, 4], loops := [(8, [(3, .int .i64)]), (13, [(4, .int .i64)])], draws := [(15, 0, 13)] }
theorem F12_ent (s0_0 : ByteArray) (s0_1 : ByteArray) (a0_2 : Option Addr) (l0_2 : Nat) (c0_2 : Nat) (h : Heap) (R : Value → Heap → Prop) (H : F12 s0_0 s0_1 a0_2 l0_2 c0_2 h R) : HEnt Tryd.prog 12 #[Value.agg #[Value.string s0_0, Value.string s0_1, Value.slice a0_2 l0_2 c0_2]] h R :=
  hent A12 mixed Tryd.func12 rfl (by kernel_rfl) (by kernel_rfl) (Eq.mp (by kernel_rfl) H)

/-! ### 13 veneer/manifest.Size -/
def F13_k3 (I2 : Int → Int → Heap → Prop) (M2 : Int → Int → Heap → Nat) (m2 : Nat) (x3 : Int) (a10_0 : Option Addr) (n10_1 : Nat) (n10_2 : Nat) (x11 : Int) (x12 : Int) (h : Heap) (R : Value → Heap → Prop) : Prop :=
  ∃ q14 : Addr, a10_0 = some q14 ∧ (0 : Int) ≤ x12 ∧ x12 < (n10_1 : Int) ∧ ∃ cs15 : Array Value, cs15.size = 33 ∧ CellsAt h (q14.add (x12.toNat * 33)) cs15.toList ∧ newK h (.cells (zeroC Tryd.prog 54) 54) fun b5 h1 => storeK 33 h1 (at0 b5) (Value.agg cs15) fun h2 => ∃ x18 : Int, Vc.cell h2 ((at0 b5).add 32) = some (Value.int .i64 x18) ∧ ∀ x3_1 : Int, x3_1 = IntKind.i64.wrap (x3 + x18) → I2 x3_1 (IntKind.i64.wrap (x12 + 1)) h2 ∧ M2 x3_1 (IntKind.i64.wrap (x12 + 1)) h2 < m2
def F13_k4 (x3 : Int) (h : Heap) (R : Value → Heap → Prop) : Prop :=
  R (Value.int .i64 x3) h
def F13_b2 (I2 : Int → Int → Heap → Prop) (M2 : Int → Int → Heap → Nat) (m2 : Nat) (x3 : Int) (a10_0 : Option Addr) (n10_1 : Nat) (n10_2 : Nat) (x11 : Int) (x12 : Int) (h : Heap) (R : Value → Heap → Prop) : Prop :=
  br (decide ((x12 : Int) < x11)) (F13_k3 I2 M2 m2 x3 a10_0 n10_1 n10_2 x11 x12 h R) (F13_k4 x3 h R)
def F13_k1 (q1 : Addr) (h : Heap) (R : Value → Heap → Prop) : Prop :=
  ∀ x3 : Int, x3 = 0 → ∃ a10 : Option Addr, ∃ l10 : Nat, ∃ c10 : Nat, Vc.cell h (q1.add 2) = some (Value.slice a10 l10 c10) ∧ ∃ (I2 : Int → Int → Heap → Prop) (M2 : Int → Int → Heap → Nat), I2 x3 0 h ∧ ∀ h1 (x3_1 : Int) (x12 : Int), I2 x3_1 x12 h1 → F13_b2 I2 M2 (M2 x3_1 x12 h1) x3_1 a10 l10 c10 (l10 : Int) x12 h1 R
def F13 (s0_0 : ByteArray) (s0_1 : ByteArray) (a0_2 : Option Addr) (l0_2 : Nat) (c0_2 : Nat) (h : Heap) (R : Value → Heap → Prop) : Prop :=
  newK h (.cells #[Value.string s0_0, Value.string s0_1, Value.slice a0_2 l0_2 c0_2] 24) fun b1 h1 => ∃ s6_0 : ByteArray, ∃ s6_1 : ByteArray, ∃ a6_2 : Option Addr, ∃ l6_2 : Nat, ∃ c6_2 : Nat, Vc.cell h1 ((at0 b1).add 0) = some (Value.string s6_0) ∧ Vc.cell h1 ((at0 b1).add 1) = some (Value.string s6_1) ∧ Vc.cell h1 ((at0 b1).add 2) = some (Value.slice a6_2 l6_2 c6_2) ∧ 3 = 3 ∧ HCalls Tryd.prog 11 #[Value.agg #[Value.string s6_0, Value.string s6_1, Value.slice a6_2 l6_2 c6_2]] h1 fun r7 h2 => ∃ x7 : Int, r7 = Value.int .i64 x7 ∧ br ((x7 : Int) != 0) (R (Value.int .i64 0) h2) (F13_k1 (at0 b1) h2 R)
def A13 : Ann := { bind := [3], loops := [(5, [(3, .int .i64), (12, .int .i64)])] }
theorem F13_ent (s0_0 : ByteArray) (s0_1 : ByteArray) (a0_2 : Option Addr) (l0_2 : Nat) (c0_2 : Nat) (h : Heap) (R : Value → Heap → Prop) (H : F13 s0_0 s0_1 a0_2 l0_2 c0_2 h R) : HEnt Tryd.prog 13 #[Value.agg #[Value.string s0_0, Value.string s0_1, Value.slice a0_2 l0_2 c0_2]] h R :=
  hent A13 mixed Tryd.func13 rfl (by kernel_rfl) (by kernel_rfl) (Eq.mp (by kernel_rfl) H)

/-! ### 14 veneer/veneerref07.Size -/
def F14_k3 (I1 : Int → Int → Heap → Prop) (M1 : Int → Int → Heap → Nat) (m1 : Nat) (q1 : Addr) (x3 : Int) (x4 : Int) (h : Heap) (R : Value → Heap → Prop) : Prop :=
  ∃ a19 : Option Addr, ∃ l19 : Nat, ∃ c19 : Nat, Vc.cell h (q1.add 2) = some (Value.slice a19 l19 c19) ∧ ∃ q21 : Addr, a19 = some q21 ∧ (0 : Int) ≤ x4 ∧ x4 < (l19 : Int) ∧ ∃ x23 : Int, Vc.cell h ((q21.add (x4.toNat * 33)).add 32) = some (Value.int .i64 x23) ∧ ∀ x3_1 : Int, x3_1 = IntKind.i64.wrap (x3 + x23) → ∀ x4_1 : Int, x4_1 = IntKind.i64.wrap (x4 + 1) → I1 x3_1 x4_1 h ∧ M1 x3_1 x4_1 h < m1
def F14_k4 (x3 : Int) (h : Heap) (R : Value → Heap → Prop) : Prop :=
  R (Value.int .i64 x3) h
def F14_k2 (I1 : Int → Int → Heap → Prop) (M1 : Int → Int → Heap → Nat) (m1 : Nat) (q1 : Addr) (x3 : Int) (x4 : Int) (b14 : Bool) (h : Heap) (R : Value → Heap → Prop) : Prop :=
  br b14 (F14_k3 I1 M1 m1 q1 x3 x4 h R) (F14_k4 x3 h R)
def F14_b1 (I1 : Int → Int → Heap → Prop) (M1 : Int → Int → Heap → Nat) (m1 : Nat) (q1 : Addr) (x2 : Int) (x3 : Int) (x4 : Int) (h : Heap) (R : Value → Heap → Prop) : Prop :=
  ∃ a7 : Option Addr, ∃ l7 : Nat, ∃ c7 : Nat, Vc.cell h (q1.add 2) = some (Value.slice a7 l7 c7) ∧ br (decide ((x4 : Int) < (l7 : Int))) (∃ s11_0 : ByteArray, ∃ s11_1 : ByteArray, ∃ a11_2 : Option Addr, ∃ l11_2 : Nat, ∃ c11_2 : Nat, Vc.cell h (q1.add 0) = some (Value.string s11_0) ∧ Vc.cell h (q1.add 1) = some (Value.string s11_1) ∧ Vc.cell h (q1.add 2) = some (Value.slice a11_2 l11_2 c11_2) ∧ 3 = 3 ∧ HCalls Tryd.prog 12 #[Value.agg #[Value.string s11_0, Value.string s11_1, Value.slice a11_2 l11_2 c11_2]] h fun r12 h1 => ∃ x12 : Int, r12 = Value.int .i64 x12 ∧ F14_k2 I1 M1 m1 q1 x3 x4 ((x12 : Int) == 0) h1 R) (F14_k2 I1 M1 m1 q1 x3 x4 false h R)
def F14 (s0_0 : ByteArray) (s0_1 : ByteArray) (a0_2 : Option Addr) (l0_2 : Nat) (c0_2 : Nat) (h : Heap) (R : Value → Heap → Prop) : Prop :=
  newK h (.cells #[Value.string s0_0, Value.string s0_1, Value.slice a0_2 l0_2 c0_2] 24) fun b1 h1 => ∀ x3 : Int, x3 = 0 → ∀ x4 : Int, x4 = 0 → ∃ (I1 : Int → Int → Heap → Prop) (M1 : Int → Int → Heap → Nat), I1 x3 x4 h1 ∧ ∀ h2 (x3_1 : Int) (x4_1 : Int), I1 x3_1 x4_1 h2 → F14_b1 I1 M1 (M1 x3_1 x4_1 h2) (at0 b1) 0 x3_1 x4_1 h2 R
def A14 : Ann := { bind := [3, 4], loops := [(3, [(3, .int .i64), (4, .int .i64)])] }
theorem F14_ent (s0_0 : ByteArray) (s0_1 : ByteArray) (a0_2 : Option Addr) (l0_2 : Nat) (c0_2 : Nat) (h : Heap) (R : Value → Heap → Prop) (H : F14 s0_0 s0_1 a0_2 l0_2 c0_2 h R) : HEnt Tryd.prog 14 #[Value.agg #[Value.string s0_0, Value.string s0_1, Value.slice a0_2 l0_2 c0_2]] h R :=
  hent A14 mixed Tryd.func14 rfl (by kernel_rfl) (by kernel_rfl) (Eq.mp (by kernel_rfl) H)

/-! ### 15 veneer/veneerref07.Same -/
def F15_k5 (I3 : Int → Heap → Prop) (M3 : Int → Heap → Nat) (m3 : Nat) (q2 : Addr) (q3 : Addr) (x5 : Int) (h : Heap) (R : Value → Heap → Prop) : Prop :=
  ∀ x5_1 : Int, x5_1 = IntKind.i64.wrap (x5 + 1) → I3 x5_1 h ∧ M3 x5_1 h < m3
def F15_k4 (I3 : Int → Heap → Prop) (M3 : Int → Heap → Nat) (m3 : Nat) (q2 : Addr) (q3 : Addr) (x5 : Int) (h : Heap) (R : Value → Heap → Prop) : Prop :=
  ∃ a35 : Option Addr, ∃ l35 : Nat, ∃ c35 : Nat, Vc.cell h (q2.add 2) = some (Value.slice a35 l35 c35) ∧ ∃ q37 : Addr, a35 = some q37 ∧ (0 : Int) ≤ x5 ∧ x5 < (l35 : Int) ∧ ∃ cs38 : Array Value, cs38.size = 33 ∧ CellsAt h (q37.add (x5.toNat * 33)) cs38.toList ∧ ∃ a40 : Option Addr, ∃ l40 : Nat, ∃ c40 : Nat, Vc.cell h (q3.add 2) = some (Value.slice a40 l40 c40) ∧ ∃ q42 : Addr, a40 = some q42 ∧ (0 : Int) ≤ x5 ∧ x5 < (l40 : Int) ∧ ∃ cs43 : Array Value, cs43.size = 33 ∧ CellsAt h (q42.add (x5.toNat * 33)) cs43.toList ∧ ∃ e44 : Bool, (∀ w : World, (Op.equal 54 (Value.agg cs38) (Value.agg cs43)).run Tryd.prog w = .ok e44 w) ∧ Tryd.prog.eqGuardType Tryd.prog.depth 54 = false ∧ ∀ h1, Cls false h h1 → br (!e44) (R (Value.bool false) h1) (F15_k5 I3 M3 m3 q2 q3 x5 h1 R)
def F15_k6 (h : Heap) (R : Value → Heap → Prop) : Prop :=
  R (Value.bool true) h
def F15_b3 (I3 : Int → Heap → Prop) (M3 : Int → Heap → Nat) (m3 : Nat) (q2 : Addr) (q3 : Addr) (x5 : Int) (h : Heap) (R : Value → Heap → Prop) : Prop :=
  ∃ a29 : Option Addr, ∃ l29 : Nat, ∃ c29 : Nat, Vc.cell h (q2.add 2) = some (Value.slice a29 l29 c29) ∧ br (decide ((x5 : Int) < (l29 : Int))) (F15_k4 I3 M3 m3 q2 q3 x5 h R) (F15_k6 h R)
def F15_k2 (q2 : Addr) (q3 : Addr) (h : Heap) (R : Value → Heap → Prop) : Prop :=
  ∀ x5 : Int, x5 = 0 → ∃ (I3 : Int → Heap → Prop) (M3 : Int → Heap → Nat), I3 x5 h ∧ ∀ h1 (x5_1 : Int), I3 x5_1 h1 → F15_b3 I3 M3 (M3 x5_1 h1) q2 q3 x5_1 h1 R
def F15_k1 (q2 : Addr) (q3 : Addr) (b26 : Bool) (h : Heap) (R : Value → Heap → Prop) : Prop :=
  br b26 (R (Value.bool false) h) (F15_k2 q2 q3 h R)
def F15 (s0_0 : ByteArray) (s0_1 : ByteArray) (a0_2 : Option Addr) (l0_2 : Nat) (c0_2 : Nat) (s1_0 : ByteArray) (s1_1 : ByteArray) (a1_2 : Option Addr) (l1_2 : Nat) (c1_2 : Nat) (h : Heap) (R : Value → Heap → Prop) : Prop :=
  newK h (.cells #[Value.string s0_0, Value.string s0_1, Value.slice a0_2 l0_2 c0_2] 24) fun b2 h1 => newK h1 (.cells #[Value.string s1_0, Value.string s1_1, Value.slice a1_2 l1_2 c1_2] 24) fun b3 h2 => ∃ s7 : ByteArray, Vc.cell h2 ((at0 b2).add 0) = some (Value.string s7) ∧ ∃ s9 : ByteArray, Vc.cell h2 ((at0 b3).add 0) = some (Value.string s9) ∧ br (!(seq s7 s9)) (F15_k1 (at0 b2) (at0 b3) true h2 R) (∃ s13 : ByteArray, Vc.cell h2 ((at0 b2).add 1) = some (Value.string s13) ∧ ∃ s15 : ByteArray, Vc.cell h2 ((at0 b3).add 1) = some (Value.string s15) ∧ br (!(seq s13 s15)) (F15_k1 (at0 b2) (at0 b3) true h2 R) (∃ a20 : Option Addr, ∃ l20 : Nat, ∃ c20 : Nat, Vc.cell h2 ((at0 b2).add 2) = some (Value.slice a20 l20 c20) ∧ ∃ a23 : Option Addr, ∃ l23 : Nat, ∃ c23 : Nat, Vc.cell h2 ((at0 b3).add 2) = some (Value.slice a23 l23 c23) ∧ F15_k1 (at0 b2) (at0 b3) (((l20 : Int) : Int) != (l23 : Int)) h2 R))
def A15 : Ann := { bind := [5], loops := [(4, [(5, .int .i64)])], draws := [(6, 0, 11)] }
theorem F15_ent (s0_0 : ByteArray) (s0_1 : ByteArray) (a0_2 : Option Addr) (l0_2 : Nat) (c0_2 : Nat) (s1_0 : ByteArray) (s1_1 : ByteArray) (a1_2 : Option Addr) (l1_2 : Nat) (c1_2 : Nat) (h : Heap) (R : Value → Heap → Prop) (H : F15 s0_0 s0_1 a0_2 l0_2 c0_2 s1_0 s1_1 a1_2 l1_2 c1_2 h R) : HEnt Tryd.prog 15 #[Value.agg #[Value.string s0_0, Value.string s0_1, Value.slice a0_2 l0_2 c0_2], Value.agg #[Value.string s1_0, Value.string s1_1, Value.slice a1_2 l1_2 c1_2]] h R :=
  hent A15 mixed Tryd.func15 rfl (by kernel_rfl) (by kernel_rfl) (Eq.mp (by kernel_rfl) H)

/-! ### 16 veneer/veneerlaw07.works -/
def F16 (h : Heap) (R : Value → Heap → Prop) : Prop :=
  (#[Value.int .u8 0, Value.int .u8 0, Value.int .u8 0, Value.int .u8 0, Value.int .u8 0, Value.int .u8 0, Value.int .u8 0, Value.int .u8 0, Value.int .u8 0, Value.int .u8 0, Value.int .u8 0, Value.int .u8 0, Value.int .u8 0, Value.int .u8 0, Value.int .u8 0, Value.int .u8 0, Value.int .u8 0, Value.int .u8 0, Value.int .u8 0, Value.int .u8 0, Value.int .u8 0, Value.int .u8 0, Value.int .u8 0, Value.int .u8 0, Value.int .u8 0, Value.int .u8 0, Value.int .u8 0, Value.int .u8 0, Value.int .u8 0, Value.int .u8 0, Value.int .u8 0, Value.int .u8 0, Value.int .i64 300]).size = 33 ∧ 1 * 33 ≤ 16777216 ∧ newK h (.cells #[Value.int .u8 0, Value.int .u8 0, Value.int .u8 0, Value.int .u8 0, Value.int .u8 0, Value.int .u8 0, Value.int .u8 0, Value.int .u8 0, Value.int .u8 0, Value.int .u8 0, Value.int .u8 0, Value.int .u8 0, Value.int .u8 0, Value.int .u8 0, Value.int .u8 0, Value.int .u8 0, Value.int .u8 0, Value.int .u8 0, Value.int .u8 0, Value.int .u8 0, Value.int .u8 0, Value.int .u8 0, Value.int .u8 0, Value.int .u8 0, Value.int .u8 0, Value.int .u8 0, Value.int .u8 0, Value.int .u8 0, Value.int .u8 0, Value.int .u8 0, Value.int .u8 0, Value.int .u8 0, Value.int .i64 300] 54) fun b5 h1 => newK h1 (.cells (zeroC Tryd.prog 24) 24) fun b1 h2 => storeK 3 h2 (at0 b1) (Value.agg #[Value.string (⟨#[97]⟩ : ByteArray), Value.string (⟨#[49]⟩ : ByteArray), Value.slice (some (at0 b5)) 1 1]) fun h3 => ∃ s8_0 : ByteArray, ∃ s8_1 : ByteArray, ∃ a8_2 : Option Addr, ∃ l8_2 : Nat, ∃ c8_2 : Nat, Vc.cell h3 ((at0 b1).add 0) = some (Value.string s8_0) ∧ Vc.cell h3 ((at0 b1).add 1) = some (Value.string s8_1) ∧ Vc.cell h3 ((at0 b1).add 2) = some (Value.slice a8_2 l8_2 c8_2) ∧ 3 = 3 ∧ HCalls Tryd.prog 21 #[Value.agg #[Value.string s8_0, Value.string s8_1, Value.slice a8_2 l8_2 c8_2]] h3 fun r9 h4 => ∃ a9_0 : Option Addr, ∃ l9_0 : Nat, ∃ c9_0 : Nat, ∃ x9_1 : Int, r9 = Value.tuple #[Value.slice a9_0 l9_0 c9_0, Value.int .i64 x9_1] ∧ br (((l9_0 : Int) : Int) == 42) ((0 : Int) ≤ 0 ∧ (0 : Int) ≤ 8 ∧ 8 ≤ (c9_0 : Int) ∧ ∃ s18 : ByteArray, s18.size = 8 - 0 ∧ (∀ ad, cutAt c9_0 0 1 a9_0 = some ad → CellsAt h4 ad (bytesV s18)) ∧ (cutAt c9_0 0 1 a9_0 = none → 8 - 0 = 0) ∧ br (seq s18 (⟨#[86, 77, 1, 1, 97, 1, 49, 1]⟩ : ByteArray)) (br ((x9_1 : Int) == 0) (∃ s26_0 : ByteArray, ∃ s26_1 : ByteArray, ∃ a26_2 : Option Addr, ∃ l26_2 : Nat, ∃ c26_2 : Nat, Vc.cell h4 ((at0 b1).add 0) = some (Value.string s26_0) ∧ Vc.cell h4 ((at0 b1).add 1) = some (Value.string s26_1) ∧ Vc.cell h4 ((at0 b1).add 2) = some (Value.slice a26_2 l26_2 c26_2) ∧ 3 = 3 ∧ HCalls Tryd.prog 13 #[Value.agg #[Value.string s26_0, Value.string s26_1, Value.slice a26_2 l26_2 c26_2]] h4 fun r27 h5 => ∃ x27 : Int, r27 = Value.int .i64 x27 ∧ br ((x27 : Int) == 300) (HCalls Tryd.prog 17 #[Value.string (⟨#[49, 46, 57]⟩ : ByteArray), Value.string (⟨#[49, 46, 49, 48]⟩ : ByteArray)] h5 fun r31 h6 => ∃ x31 : Int, r31 = Value.int .i64 x31 ∧ R (Value.bool ((x31 : Int) == (-1))) h6) (R (Value.bool false) h5)) (R (Value.bool false) h4)) (R (Value.bool false) h4)) (R (Value.bool false) h4)
def A16 : Ann := {  }
theorem F16_ent (h : Heap) (R : Value → Heap → Prop) (H : F16 h R) : HEnt Tryd.prog 16 #[] h R :=
  hent A16 mixed Tryd.func16 rfl (by kernel_rfl) (by kernel_rfl) (Eq.mp (by kernel_rfl) H)

/-! ### 19 veneer/veneerlaw07.digitsOf -/
def F19_k1 (x0 : Int) (h : Heap) (R : Value → Heap → Prop) : Prop :=
  (10 : Int) ≠ 0 ∧ HCalls Tryd.prog 19 #[Value.int .i64 (IntKind.i64.wrap (x0.tdiv 10))] h fun r11 h1 => ∃ s11 : ByteArray, r11 = Value.string s11 ∧ (10 : Int) ≠ 0 ∧ HCalls Tryd.prog 19 #[Value.int .i64 (x0.tmod 10)] h1 fun r14 h2 => ∃ s14 : ByteArray, r14 = Value.string s14 ∧ s11.size + s14.size ≤ 9223372036854775807 ∧ R (Value.string (s11 ++ s14)) h2
def F19 (x0 : Int) (h : Heap) (R : Value → Heap → Prop) : Prop :=
  br (decide ((x0 : Int) < 10)) ((0 : Int) ≤ x0 ∧ (x0 : Int) ≤ IntKind.i64.wrap (x0 + 1) ∧ IntKind.i64.wrap (x0 + 1) ≤ ((⟨#[48, 49, 50, 51, 52, 53, 54, 55, 56, 57]⟩ : ByteArray).size : Int) ∧ R (Value.string ((⟨#[48, 49, 50, 51, 52, 53, 54, 55, 56, 57]⟩ : ByteArray).extract x0.toNat (IntKind.i64.wrap (x0 + 1)).toNat)) h) (F19_k1 x0 h R)
def A19 : Ann := {  }
theorem F19_ent (x0 : Int) (h : Heap) (R : Value → Heap → Prop) (H : F19 x0 h R) : HEnt Tryd.prog 19 #[Value.int .i64 x0] h R :=
  hent A19 mixed Tryd.func19 rfl (by kernel_rfl) (by kernel_rfl) (Eq.mp (by kernel_rfl) H)

/-! ### 26 veneer/manifest.name -/
def F26_k4 (I1 : Int → Heap → Prop) (M1 : Int → Heap → Nat) (m1 : Nat) (s0 : ByteArray) (x6 : Int) (x7 : Int) (h : Heap) (R : Value → Heap → Prop) : Prop :=
  I1 (IntKind.i64.wrap (x7 + 1)) h ∧ M1 (IntKind.i64.wrap (x7 + 1)) h < m1
def F26_k3 (I1 : Int → Heap → Prop) (M1 : Int → Heap → Nat) (m1 : Nat) (s0 : ByteArray) (x6 : Int) (x7 : Int) (b35 : Bool) (h : Heap) (R : Value → Heap → Prop) : Prop :=
  br b35 (R (Value.bool false) h) (F26_k4 I1 M1 m1 s0 x6 x7 h R)
def F26_k2 (I1 : Int → Heap → Prop) (M1 : Int → Heap → Nat) (m1 : Nat) (s0 : ByteArray) (x6 : Int) (x7 : Int) (h : Heap) (R : Value → Heap → Prop) : Prop :=
  (0 : Int) ≤ x7 ∧ x7 < (s0.size : Int) ∧ br (decide ((bt s0 x7 : Int) ≥ 97)) (br (decide ((bt s0 x7 : Int) ≤ 122)) (F26_k3 I1 M1 m1 s0 x6 x7 false h R) (br (decide ((bt s0 x7 : Int) ≥ 48)) (br (decide ((bt s0 x7 : Int) ≤ 57)) (F26_k3 I1 M1 m1 s0 x6 x7 false h R) (br ((bt s0 x7 : Int) == 45) (F26_k3 I1 M1 m1 s0 x6 x7 false h R) (F26_k3 I1 M1 m1 s0 x6 x7 (!((bt s0 x7 : Int) == 46)) h R))) (br ((bt s0 x7 : Int) == 45) (F26_k3 I1 M1 m1 s0 x6 x7 false h R) (F26_k3 I1 M1 m1 s0 x6 x7 (!((bt s0 x7 : Int) == 46)) h R)))) (br (decide ((bt s0 x7 : Int) ≥ 48)) (br (decide ((bt s0 x7 : Int) ≤ 57)) (F26_k3 I1 M1 m1 s0 x6 x7 false h R) (br ((bt s0 x7 : Int) == 45) (F26_k3 I1 M1 m1 s0 x6 x7 false h R) (F26_k3 I1 M1 m1 s0 x6 x7 (!((bt s0 x7 : Int) == 46)) h R))) (br ((bt s0 x7 : Int) == 45) (F26_k3 I1 M1 m1 s0 x6 x7 false h R) (F26_k3 I1 M1 m1 s0 x6 x7 (!((bt s0 x7 : Int) == 46)) h R)))
def F26_k5 (s0 : ByteArray) (h : Heap) (R : Value → Heap → Prop) : Prop :=
  br (decide (((s0.size : Int) : Int) > 0)) (R (Value.bool (decide (((s0.size : Int) : Int) ≤ 16))) h) (R (Value.bool false) h)
def F26_b1 (I1 : Int → Heap → Prop) (M1 : Int → Heap → Nat) (m1 : Nat) (s0 : ByteArray) (x6 : Int) (x7 : Int) (h : Heap) (R : Value → Heap → Prop) : Prop :=
  br (decide ((x7 : Int) < x6)) (F26_k2 I1 M1 m1 s0 x6 x7 h R) (F26_k5 s0 h R)
def F26 (s0 : ByteArray) (h : Heap) (R : Value → Heap → Prop) : Prop :=
  ∃ (I1 : Int → Heap → Prop) (M1 : Int → Heap → Nat), I1 0 h ∧ ∀ h1 (x7 : Int), I1 x7 h1 → F26_b1 I1 M1 (M1 x7 h1) s0 (s0.size : Int) x7 h1 R
def A26 : Ann := { loops := [(2, [(7, .int .i64)])] }
theorem F26_ent (s0 : ByteArray) (h : Heap) (R : Value → Heap → Prop) (H : F26 s0 h R) : HEnt Tryd.prog 26 #[Value.string s0] h R :=
  hent A26 mixed Tryd.func26 rfl (by kernel_rfl) (by kernel_rfl) (Eq.mp (by kernel_rfl) H)

/-! ### 27 veneer/veneerref07.Name -/
def F27_k6 (I1 : Int → Heap → Prop) (M1 : Int → Heap → Nat) (m1 : Nat) (s0 : ByteArray) (x3 : Int) (h : Heap) (R : Value → Heap → Prop) : Prop :=
  ∀ x3_1 : Int, x3_1 = IntKind.i64.wrap (x3 + 1) → I1 x3_1 h ∧ M1 x3_1 h < m1
def F27_k5 (I1 : Int → Heap → Prop) (M1 : Int → Heap → Nat) (m1 : Nat) (s0 : ByteArray) (x3 : Int) (b49 : Bool) (h : Heap) (R : Value → Heap → Prop) : Prop :=
  br b49 (R (Value.bool false) h) (F27_k6 I1 M1 m1 s0 x3 h R)
def F27_k4 (I1 : Int → Heap → Prop) (M1 : Int → Heap → Nat) (m1 : Nat) (s0 : ByteArray) (x3 : Int) (b4 : Bool) (b5 : Bool) (h : Heap) (R : Value → Heap → Prop) : Prop :=
  br (!b4) (br (!b5) ((0 : Int) ≤ x3 ∧ x3 < (s0.size : Int) ∧ br ((bt s0 x3 : Int) != 45) ((0 : Int) ≤ x3 ∧ x3 < (s0.size : Int) ∧ F27_k5 I1 M1 m1 s0 x3 ((bt s0 x3 : Int) != 46) h R) (F27_k5 I1 M1 m1 s0 x3 false h R)) (F27_k5 I1 M1 m1 s0 x3 false h R)) (F27_k5 I1 M1 m1 s0 x3 false h R)
def F27_k3 (I1 : Int → Heap → Prop) (M1 : Int → Heap → Nat) (m1 : Nat) (s0 : ByteArray) (x3 : Int) (b4 : Bool) (h : Heap) (R : Value → Heap → Prop) : Prop :=
  (0 : Int) ≤ x3 ∧ x3 < (s0.size : Int) ∧ br (decide ((bt s0 x3 : Int) ≥ 48)) ((0 : Int) ≤ x3 ∧ x3 < (s0.size : Int) ∧ F27_k4 I1 M1 m1 s0 x3 b4 (decide ((bt s0 x3 : Int) ≤ 57)) h R) (F27_k4 I1 M1 m1 s0 x3 b4 false h R)
def F27_k2 (I1 : Int → Heap → Prop) (M1 : Int → Heap → Nat) (m1 : Nat) (s0 : ByteArray) (x3 : Int) (h : Heap) (R : Value → Heap → Prop) : Prop :=
  (0 : Int) ≤ x3 ∧ x3 < (s0.size : Int) ∧ br (decide ((bt s0 x3 : Int) ≥ 97)) ((0 : Int) ≤ x3 ∧ x3 < (s0.size : Int) ∧ F27_k3 I1 M1 m1 s0 x3 (decide ((bt s0 x3 : Int) ≤ 122)) h R) (F27_k3 I1 M1 m1 s0 x3 false h R)
def F27_k7 (s0 : ByteArray) (h : Heap) (R : Value → Heap → Prop) : Prop :=
  br (decide (((s0.size : Int) : Int) ≥ 1)) (R (Value.bool (decide (((s0.size : Int) : Int) ≤ 16))) h) (R (Value.bool false) h)
def F27_b1 (I1 : Int → Heap → Prop) (M1 : Int → Heap → Nat) (m1 : Nat) (s0 : ByteArray) (x3 : Int) (h : Heap) (R : Value → Heap → Prop) : Prop :=
  br (decide ((x3 : Int) < (s0.size : Int))) (F27_k2 I1 M1 m1 s0 x3 h R) (F27_k7 s0 h R)
def F27 (s0 : ByteArray) (h : Heap) (R : Value → Heap → Prop) : Prop :=
  ∀ x3 : Int, x3 = 0 → ∃ (I1 : Int → Heap → Prop) (M1 : Int → Heap → Nat), I1 x3 h ∧ ∀ h1 (x3_1 : Int), I1 x3_1 h1 → F27_b1 I1 M1 (M1 x3_1 h1) s0 x3_1 h1 R
def A27 : Ann := { bind := [3], loops := [(2, [(3, .int .i64)])] }
theorem F27_ent (s0 : ByteArray) (h : Heap) (R : Value → Heap → Prop) (H : F27 s0 h R) : HEnt Tryd.prog 27 #[Value.string s0] h R :=
  hent A27 mixed Tryd.func27 rfl (by kernel_rfl) (by kernel_rfl) (Eq.mp (by kernel_rfl) H)

/-! ### 28 veneer/manifest.pairs -/
def F28 (s0 : ByteArray) (s1 : ByteArray) (h : Heap) (R : Value → Heap → Prop) : Prop :=
  newK h (.cells #[Value.string s0] 9) fun b2 h1 => newK h1 (.cells #[Value.string s1] 9) fun b3 h2 => R (Value.func (.func 43) #[] #[Value.pointer (some (at0 b2)), Value.pointer (some (at0 b3))]) h2
def A28 : Ann := {  }
theorem F28_ent (s0 : ByteArray) (s1 : ByteArray) (h : Heap) (R : Value → Heap → Prop) (H : F28 s0 s1 h R) : HEnt Tryd.prog 28 #[Value.string s0, Value.string s1] h R :=
  hent A28 mixed Tryd.func28 rfl (by kernel_rfl) (by kernel_rfl) (Eq.mp (by kernel_rfl) H)

/-! ### 29 veneer/manifest.piece -/
def F29_k1 (h : Heap) (R : Value → Heap → Prop) : Prop :=
  R (Value.int .i64 1) h
def F29_k3 (h : Heap) (R : Value → Heap → Prop) : Prop :=
  R (Value.int .i64 1) h
def F29_k5 (s0 : ByteArray) (s1 : ByteArray) (h : Heap) (R : Value → Heap → Prop) : Prop :=
  HCalls Tryd.prog 46 #[Value.string s0, Value.string s1] h fun r50 h1 => ∃ x50 : Int, r50 = Value.int .i64 x50 ∧ R (Value.int .i64 x50) h1
def F29_k4 (s0 : ByteArray) (s1 : ByteArray) (s5 : ByteArray) (s7 : ByteArray) (b38 : Bool) (h : Heap) (R : Value → Heap → Prop) : Prop :=
  br b38 (HCalls Tryd.prog 46 #[Value.string s5, Value.string s7] h fun r47 h1 => ∃ x47 : Int, r47 = Value.int .i64 x47 ∧ R (Value.int .i64 x47) h1) (F29_k5 s0 s1 h R)
def F29_k2 (s0 : ByteArray) (s1 : ByteArray) (s5 : ByteArray) (b6 : Bool) (s7 : ByteArray) (b24 : Bool) (h : Heap) (R : Value → Heap → Prop) : Prop :=
  br b24 (br (decide (((s5.size : Int) : Int) < (s7.size : Int))) (R (Value.int .i64 (-1)) h) (F29_k3 h R)) (br b6 (F29_k4 s0 s1 s5 s7 (!(seq s5 s7)) h R) (F29_k4 s0 s1 s5 s7 false h R))
def F29 (s0 : ByteArray) (s1 : ByteArray) (h : Heap) (R : Value → Heap → Prop) : Prop :=
  HCalls Tryd.prog 45 #[Value.string s0] h fun r11 h1 => ∃ s11_0 : ByteArray, ∃ b11_1 : Bool, r11 = Value.tuple #[Value.string s11_0, Value.bool b11_1] ∧ HCalls Tryd.prog 45 #[Value.string s1] h1 fun r16 h2 => ∃ s16_0 : ByteArray, ∃ b16_1 : Bool, r16 = Value.tuple #[Value.string s16_0, Value.bool b16_1] ∧ br (!(b11_1 == b16_1)) (br b11_1 (R (Value.int .i64 (-1)) h2) (F29_k1 h2 R)) (br b11_1 (F29_k2 s0 s1 s11_0 b11_1 s16_0 (((s11_0.size : Int) : Int) != (s16_0.size : Int)) h2 R) (F29_k2 s0 s1 s11_0 b11_1 s16_0 false h2 R))
def A29 : Ann := {  }
theorem F29_ent (s0 : ByteArray) (s1 : ByteArray) (h : Heap) (R : Value → Heap → Prop) (H : F29 s0 s1 h R) : HEnt Tryd.prog 29 #[Value.string s0, Value.string s1] h R :=
  hent A29 mixed Tryd.func29 rfl (by kernel_rfl) (by kernel_rfl) (Eq.mp (by kernel_rfl) H)

/-! ### 31 veneer/veneerref07.pieces -/
def F31_k3 (I1 : Option Addr → Nat → Nat → Int → Int → Heap → Prop) (M1 : Option Addr → Nat → Nat → Int → Int → Heap → Nat) (m1 : Nat) (s0 : ByteArray) (a3_0 : Option Addr) (n3_1 : Nat) (n3_2 : Nat) (x4 : Int) (x5 : Int) (h : Heap) (R : Value → Heap → Prop) : Prop :=
  ∀ x5_1 : Int, x5_1 = IntKind.i64.wrap (x5 + 1) → I1 a3_0 n3_1 n3_2 x4 x5_1 h ∧ M1 a3_0 n3_1 n3_2 x4 x5_1 h < m1
def F31_k2 (I1 : Option Addr → Nat → Nat → Int → Int → Heap → Prop) (M1 : Option Addr → Nat → Nat → Int → Int → Heap → Nat) (m1 : Nat) (s0 : ByteArray) (a3_0 : Option Addr) (n3_1 : Nat) (n3_2 : Nat) (x4 : Int) (x5 : Int) (h : Heap) (R : Value → Heap → Prop) : Prop :=
  (0 : Int) ≤ x5 ∧ x5 < (s0.size : Int) ∧ br ((bt s0 x5 : Int) == 46) ((0 : Int) ≤ x4 ∧ (x4 : Int) ≤ x5 ∧ x5 ≤ (s0.size : Int) ∧ 1 * 1 ≤ 16777216 ∧ newK h (.cells #[Value.string (s0.extract x4.toNat x5.toNat)] 9) fun b21 h1 => appK Tryd.prog 9 h1 a3_0 n3_1 n3_2 (Value.slice (some (at0 b21)) 1 1) fun a22 l22 c22 h2 => ∀ x4_1 : Int, x4_1 = IntKind.i64.wrap (x5 + 1) → F31_k3 I1 M1 m1 s0 a22 l22 c22 x4_1 x5 h2 R) (F31_k3 I1 M1 m1 s0 a3_0 n3_1 n3_2 x4 x5 h R)
def F31_k4 (s0 : ByteArray) (a3_0 : Option Addr) (n3_1 : Nat) (n3_2 : Nat) (x4 : Int) (h : Heap) (R : Value → Heap → Prop) : Prop :=
  (0 : Int) ≤ x4 ∧ (x4 : Int) ≤ (s0.size : Int) ∧ (s0.size : Int) ≤ (s0.size : Int) ∧ 1 * 1 ≤ 16777216 ∧ newK h (.cells #[Value.string (s0.extract x4.toNat (s0.size : Int).toNat)] 9) fun b29 h1 => appK Tryd.prog 9 h1 a3_0 n3_1 n3_2 (Value.slice (some (at0 b29)) 1 1) fun a30 l30 c30 h2 => R (Value.slice a30 l30 c30) h2
def F31_b1 (I1 : Option Addr → Nat → Nat → Int → Int → Heap → Prop) (M1 : Option Addr → Nat → Nat → Int → Int → Heap → Nat) (m1 : Nat) (s0 : ByteArray) (a2_0 : Option Addr) (n2_1 : Nat) (n2_2 : Nat) (a3_0 : Option Addr) (n3_1 : Nat) (n3_2 : Nat) (x4 : Int) (x5 : Int) (h : Heap) (R : Value → Heap → Prop) : Prop :=
  br (decide ((x5 : Int) < (s0.size : Int))) (F31_k2 I1 M1 m1 s0 a3_0 n3_1 n3_2 x4 x5 h R) (F31_k4 s0 a3_0 n3_1 n3_2 x4 h R)
def F31 (s0 : ByteArray) (h : Heap) (R : Value → Heap → Prop) : Prop :=
  ∀ x4 : Int, x4 = 0 → ∀ x5 : Int, x5 = 0 → ∃ (I1 : Option Addr → Nat → Nat → Int → Int → Heap → Prop) (M1 : Option Addr → Nat → Nat → Int → Int → Heap → Nat), I1 none 0 0 x4 x5 h ∧ ∀ h1 (a3 : Option Addr) (l3 c3 : Nat) (x4_1 : Int) (x5_1 : Int), I1 a3 l3 c3 x4_1 x5_1 h1 → F31_b1 I1 M1 (M1 a3 l3 c3 x4_1 x5_1 h1) s0 none 0 0 a3 l3 c3 x4_1 x5_1 h1 R
def A31 : Ann := { bind := [4, 5], loops := [(4, [(3, .slice), (4, .int .i64), (5, .int .i64)])] }
theorem F31_ent (s0 : ByteArray) (h : Heap) (R : Value → Heap → Prop) (H : F31 s0 h R) : HEnt Tryd.prog 31 #[Value.string s0] h R :=
  hent A31 mixed Tryd.func31 rfl (by kernel_rfl) (by kernel_rfl) (Eq.mp (by kernel_rfl) H)

/-! ### 32 veneer/veneerref07.digits -/
def F32_k4 (I1 : Int → Heap → Prop) (M1 : Int → Heap → Nat) (m1 : Nat) (s0 : ByteArray) (x3 : Int) (h : Heap) (R : Value → Heap → Prop) : Prop :=
  ∀ x3_1 : Int, x3_1 = IntKind.i64.wrap (x3 + 1) → I1 x3_1 h ∧ M1 x3_1 h < m1
def F32_k3 (I1 : Int → Heap → Prop) (M1 : Int → Heap → Nat) (m1 : Nat) (s0 : ByteArray) (x3 : Int) (b19 : Bool) (h : Heap) (R : Value → Heap → Prop) : Prop :=
  br b19 (R (Value.bool false) h) (F32_k4 I1 M1 m1 s0 x3 h R)
def F32_k2 (I1 : Int → Heap → Prop) (M1 : Int → Heap → Nat) (m1 : Nat) (s0 : ByteArray) (x3 : Int) (h : Heap) (R : Value → Heap → Prop) : Prop :=
  (0 : Int) ≤ x3 ∧ x3 < (s0.size : Int) ∧ br (decide ((bt s0 x3 : Int) < 48)) (F32_k3 I1 M1 m1 s0 x3 true h R) ((0 : Int) ≤ x3 ∧ x3 < (s0.size : Int) ∧ F32_k3 I1 M1 m1 s0 x3 (decide ((bt s0 x3 : Int) > 57)) h R)
def F32_k5 (s0 : ByteArray) (h : Heap) (R : Value → Heap → Prop) : Prop :=
  R (Value.bool (!(seq s0 (⟨#[]⟩ : ByteArray)))) h
def F32_b1 (I1 : Int → Heap → Prop) (M1 : Int → Heap → Nat) (m1 : Nat) (s0 : ByteArray) (x3 : Int) (h : Heap) (R : Value → Heap → Prop) : Prop :=
  br (decide ((x3 : Int) < (s0.size : Int))) (F32_k2 I1 M1 m1 s0 x3 h R) (F32_k5 s0 h R)
def F32 (s0 : ByteArray) (h : Heap) (R : Value → Heap → Prop) : Prop :=
  ∀ x3 : Int, x3 = 0 → ∃ (I1 : Int → Heap → Prop) (M1 : Int → Heap → Nat), I1 x3 h ∧ ∀ h1 (x3_1 : Int), I1 x3_1 h1 → F32_b1 I1 M1 (M1 x3_1 h1) s0 x3_1 h1 R
def A32 : Ann := { bind := [3], loops := [(2, [(3, .int .i64)])] }
theorem F32_ent (s0 : ByteArray) (h : Heap) (R : Value → Heap → Prop) (H : F32 s0 h R) : HEnt Tryd.prog 32 #[Value.string s0] h R :=
  hent A32 mixed Tryd.func32 rfl (by kernel_rfl) (by kernel_rfl) (Eq.mp (by kernel_rfl) H)

/-! ### 33 veneer/veneerref07.less -/
def F33_k2 (h : Heap) (R : Value → Heap → Prop) : Prop :=
  R (Value.int .i64 0) h
def F33_k1 (s0 : ByteArray) (s1 : ByteArray) (h : Heap) (R : Value → Heap → Prop) : Prop :=
  br (!(slt s0 s1 || seq s0 s1)) (R (Value.int .i64 1) h) (F33_k2 h R)
def F33 (s0 : ByteArray) (s1 : ByteArray) (h : Heap) (R : Value → Heap → Prop) : Prop :=
  br (slt s0 s1) (R (Value.int .i64 (-1)) h) (F33_k1 s0 s1 h R)
def A33 : Ann := {  }
theorem F33_ent (s0 : ByteArray) (s1 : ByteArray) (h : Heap) (R : Value → Heap → Prop) (H : F33 s0 s1 h R) : HEnt Tryd.prog 33 #[Value.string s0, Value.string s1] h R :=
  hent A33 mixed Tryd.func33 rfl (by kernel_rfl) (by kernel_rfl) (Eq.mp (by kernel_rfl) H)

/-! ### 34 veneer/veneerref07.padded -/
def F34_k2 (I1 : Option Addr → Nat → Nat → Int → Heap → Prop) (M1 : Option Addr → Nat → Nat → Int → Heap → Nat) (m1 : Nat) (s0 : ByteArray) (x1 : Int) (a5_0 : Option Addr) (n5_1 : Nat) (n5_2 : Nat) (x6 : Int) (h : Heap) (R : Value → Heap → Prop) : Prop :=
  1 * 1 ≤ 16777216 ∧ newK h (.cells #[Value.int .u8 48] 5) fun b17 h1 => appK Tryd.prog 5 h1 a5_0 n5_1 n5_2 (Value.slice (some (at0 b17)) 1 1) fun a18 l18 c18 h2 => ∀ x6_1 : Int, x6_1 = IntKind.i64.wrap (x6 + 1) → I1 a18 l18 c18 x6_1 h2 ∧ M1 a18 l18 c18 x6_1 h2 < m1
def F34_k3 (s0 : ByteArray) (a5_0 : Option Addr) (n5_1 : Nat) (n5_2 : Nat) (h : Heap) (R : Value → Heap → Prop) : Prop :=
  appK Tryd.prog 5 h a5_0 n5_1 n5_2 (Value.string s0) fun a21 l21 c21 h1 => ∃ s22 : ByteArray, s22.size = l21 ∧ (∀ ad, a21 = some ad → CellsAt h1 ad (bytesV s22)) ∧ (a21 = none → l21 = 0) ∧ R (Value.string s22) h1
def F34_b1 (I1 : Option Addr → Nat → Nat → Int → Heap → Prop) (M1 : Option Addr → Nat → Nat → Int → Heap → Nat) (m1 : Nat) (s0 : ByteArray) (x1 : Int) (s4 : ByteArray) (a5_0 : Option Addr) (n5_1 : Nat) (n5_2 : Nat) (x6 : Int) (h : Heap) (R : Value → Heap → Prop) : Prop :=
  br (decide ((x6 : Int) < x1)) (F34_k2 I1 M1 m1 s0 x1 a5_0 n5_1 n5_2 x6 h R) (F34_k3 s0 a5_0 n5_1 n5_2 h R)
def F34 (s0 : ByteArray) (x1 : Int) (h : Heap) (R : Value → Heap → Prop) : Prop :=
  (0 : Int) ≤ 0 ∧ (0 : Int) ≤ x1 ∧ (1 : Int) * x1 ≤ 281474976710656 ∧ (x1 : Int) < 9223372036854775808 ∧ newK h (.cells (mkCells (zeroC Tryd.prog 5) (x1.toNat * 1)) 5) fun b8 h1 => ∀ x6 : Int, x6 = (s0.size : Int) → ∃ (I1 : Option Addr → Nat → Nat → Int → Heap → Prop) (M1 : Option Addr → Nat → Nat → Int → Heap → Nat), I1 (some (at0 b8)) 0 x1.toNat x6 h1 ∧ ∀ h2 (a5 : Option Addr) (l5 c5 : Nat) (x6_1 : Int), I1 a5 l5 c5 x6_1 h2 → F34_b1 I1 M1 (M1 a5 l5 c5 x6_1 h2) s0 x1 (⟨#[]⟩ : ByteArray) a5 l5 c5 x6_1 h2 R
def A34 : Ann := { bind := [6], loops := [(3, [(5, .slice), (6, .int .i64)])] }
theorem F34_ent (s0 : ByteArray) (x1 : Int) (h : Heap) (R : Value → Heap → Prop) (H : F34 s0 x1 h R) : HEnt Tryd.prog 34 #[Value.string s0, Value.int .i64 x1] h R :=
  hent A34 mixed Tryd.func34 rfl (by kernel_rfl) (by kernel_rfl) (Eq.mp (by kernel_rfl) H)

/-! ### 36 veneer/num.Var -/
def F36_k2 (I1 : Int → Option Addr → Nat → Nat → Heap → Prop) (M1 : Int → Option Addr → Nat → Nat → Heap → Nat) (m1 : Nat) (x0 : Int) (a3_0 : Option Addr) (n3_1 : Nat) (n3_2 : Nat) (h : Heap) (R : Value → Heap → Prop) : Prop :=
  1 * 1 ≤ 16777216 ∧ newK h (.cells #[Value.int .u8 (orI .u8 (IntKind.u8.wrap x0) 128)] 5) fun b10 h1 => appK Tryd.prog 5 h1 a3_0 n3_1 n3_2 (Value.slice (some (at0 b10)) 1 1) fun a11 l11 c11 h2 => (0 : Int) ≤ 7 ∧ ∀ x0_1 : Int, x0_1 = shrI .u64 x0 7 → I1 x0_1 a11 l11 c11 h2 ∧ M1 x0_1 a11 l11 c11 h2 < m1
def F36_k3 (x0 : Int) (a3_0 : Option Addr) (n3_1 : Nat) (n3_2 : Nat) (h : Heap) (R : Value → Heap → Prop) : Prop :=
  1 * 1 ≤ 16777216 ∧ newK h (.cells #[Value.int .u8 (IntKind.u8.wrap x0)] 5) fun b17 h1 => appK Tryd.prog 5 h1 a3_0 n3_1 n3_2 (Value.slice (some (at0 b17)) 1 1) fun a18 l18 c18 h2 => R (Value.slice a18 l18 c18) h2
def F36_b1 (I1 : Int → Option Addr → Nat → Nat → Heap → Prop) (M1 : Int → Option Addr → Nat → Nat → Heap → Nat) (m1 : Nat) (x0 : Int) (a2_0 : Option Addr) (n2_1 : Nat) (n2_2 : Nat) (a3_0 : Option Addr) (n3_1 : Nat) (n3_2 : Nat) (h : Heap) (R : Value → Heap → Prop) : Prop :=
  br (decide ((x0 : Int) ≥ 128)) (F36_k2 I1 M1 m1 x0 a3_0 n3_1 n3_2 h R) (F36_k3 x0 a3_0 n3_1 n3_2 h R)
def F36 (x0 : Int) (h : Heap) (R : Value → Heap → Prop) : Prop :=
  ∃ (I1 : Int → Option Addr → Nat → Nat → Heap → Prop) (M1 : Int → Option Addr → Nat → Nat → Heap → Nat), I1 x0 none 0 0 h ∧ ∀ h1 (x0_1 : Int) (a3 : Option Addr) (l3 c3 : Nat), I1 x0_1 a3 l3 c3 h1 → F36_b1 I1 M1 (M1 x0_1 a3 l3 c3 h1) x0_1 none 0 0 a3 l3 c3 h1 R
def A36 : Ann := { bind := [0], loops := [(2, [(0, .int .u64), (3, .slice)])] }
theorem F36_ent (x0 : Int) (h : Heap) (R : Value → Heap → Prop) (H : F36 x0 h R) : HEnt Tryd.prog 36 #[Value.int .u64 x0] h R :=
  hent A36 mixed Tryd.func36 rfl (by kernel_rfl) (by kernel_rfl) (Eq.mp (by kernel_rfl) H)

/-! ### 37 veneer/veneerref07.text -/
def F37 (s0 : ByteArray) (h : Heap) (R : Value → Heap → Prop) : Prop :=
  HCalls Tryd.prog 38 #[Value.int .u64 (IntKind.u64.wrap (s0.size : Int))] h fun r6 h1 => ∃ a6 : Option Addr, ∃ l6 : Nat, ∃ c6 : Nat, r6 = Value.slice a6 l6 c6 ∧ ∃ s7 : ByteArray, s7.size = l6 ∧ (∀ ad, a6 = some ad → CellsAt h1 ad (bytesV s7)) ∧ (a6 = none → l6 = 0) ∧ s7.size + s0.size ≤ 9223372036854775807 ∧ R (Value.string (s7 ++ s0)) h1
def A37 : Ann := {  }
theorem F37_ent (s0 : ByteArray) (h : Heap) (R : Value → Heap → Prop) (H : F37 s0 h R) : HEnt Tryd.prog 37 #[Value.string s0] h R :=
  hent A37 mixed Tryd.func37 rfl (by kernel_rfl) (by kernel_rfl) (Eq.mp (by kernel_rfl) H)

/-! ### 38 veneer/veneerref01.Var -/
def F38_k2 (I1 : Int → Option Addr → Nat → Nat → Heap → Prop) (M1 : Int → Option Addr → Nat → Nat → Heap → Nat) (m1 : Nat) (x0 : Int) (a3_0 : Option Addr) (n3_1 : Nat) (n3_2 : Nat) (h : Heap) (R : Value → Heap → Prop) : Prop :=
  (128 : Int) ≠ 0 ∧ 1 * 1 ≤ 16777216 ∧ newK h (.cells #[Value.int .u8 (IntKind.u8.wrap (IntKind.u64.wrap ((x0.tmod 128) + 128)))] 5) fun b11 h1 => appK Tryd.prog 5 h1 a3_0 n3_1 n3_2 (Value.slice (some (at0 b11)) 1 1) fun a12 l12 c12 h2 => (128 : Int) ≠ 0 ∧ ∀ x0_1 : Int, x0_1 = IntKind.u64.wrap (x0.tdiv 128) → I1 x0_1 a12 l12 c12 h2 ∧ M1 x0_1 a12 l12 c12 h2 < m1
def F38_k3 (x0 : Int) (a3_0 : Option Addr) (n3_1 : Nat) (n3_2 : Nat) (h : Heap) (R : Value → Heap → Prop) : Prop :=
  1 * 1 ≤ 16777216 ∧ newK h (.cells #[Value.int .u8 (IntKind.u8.wrap x0)] 5) fun b18 h1 => appK Tryd.prog 5 h1 a3_0 n3_1 n3_2 (Value.slice (some (at0 b18)) 1 1) fun a19 l19 c19 h2 => R (Value.slice a19 l19 c19) h2
def F38_b1 (I1 : Int → Option Addr → Nat → Nat → Heap → Prop) (M1 : Int → Option Addr → Nat → Nat → Heap → Nat) (m1 : Nat) (x0 : Int) (a2_0 : Option Addr) (n2_1 : Nat) (n2_2 : Nat) (a3_0 : Option Addr) (n3_1 : Nat) (n3_2 : Nat) (h : Heap) (R : Value → Heap → Prop) : Prop :=
  br (decide ((x0 : Int) > 127)) (F38_k2 I1 M1 m1 x0 a3_0 n3_1 n3_2 h R) (F38_k3 x0 a3_0 n3_1 n3_2 h R)
def F38 (x0 : Int) (h : Heap) (R : Value → Heap → Prop) : Prop :=
  ∃ (I1 : Int → Option Addr → Nat → Nat → Heap → Prop) (M1 : Int → Option Addr → Nat → Nat → Heap → Nat), I1 x0 none 0 0 h ∧ ∀ h1 (x0_1 : Int) (a3 : Option Addr) (l3 c3 : Nat), I1 x0_1 a3 l3 c3 h1 → F38_b1 I1 M1 (M1 x0_1 a3 l3 c3 h1) x0_1 none 0 0 a3 l3 c3 h1 R
def A38 : Ann := { bind := [0], loops := [(2, [(0, .int .u64), (3, .slice)])] }
theorem F38_ent (x0 : Int) (h : Heap) (R : Value → Heap → Prop) (H : F38 x0 h R) : HEnt Tryd.prog 38 #[Value.int .u64 x0] h R :=
  hent A38 mixed Tryd.func38 rfl (by kernel_rfl) (by kernel_rfl) (Eq.mp (by kernel_rfl) H)

/-! ### 45 veneer/manifest.digits -/
def F45_k4 (I1 : Int → Heap → Prop) (M1 : Int → Heap → Nat) (m1 : Nat) (s0 : ByteArray) (x6 : Int) (x7 : Int) (h : Heap) (R : Value → Heap → Prop) : Prop :=
  I1 (IntKind.i64.wrap (x7 + 1)) h ∧ M1 (IntKind.i64.wrap (x7 + 1)) h < m1
def F45_k3 (I1 : Int → Heap → Prop) (M1 : Int → Heap → Nat) (m1 : Nat) (s0 : ByteArray) (x6 : Int) (x7 : Int) (b19 : Bool) (h : Heap) (R : Value → Heap → Prop) : Prop :=
  br b19 (R (Value.tuple #[Value.string (⟨#[]⟩ : ByteArray), Value.bool false]) h) (F45_k4 I1 M1 m1 s0 x6 x7 h R)
def F45_k2 (I1 : Int → Heap → Prop) (M1 : Int → Heap → Nat) (m1 : Nat) (s0 : ByteArray) (x6 : Int) (x7 : Int) (h : Heap) (R : Value → Heap → Prop) : Prop :=
  (0 : Int) ≤ x7 ∧ x7 < (s0.size : Int) ∧ br (decide ((bt s0 x7 : Int) < 48)) (F45_k3 I1 M1 m1 s0 x6 x7 true h R) ((0 : Int) ≤ x7 ∧ x7 < (s0.size : Int) ∧ F45_k3 I1 M1 m1 s0 x6 x7 (decide ((bt s0 x7 : Int) > 57)) h R)
def F45_k5 (s0 : ByteArray) (h : Heap) (R : Value → Heap → Prop) : Prop :=
  HCalls Tryd.prog 56 #[Value.string s0, Value.string (⟨#[48]⟩ : ByteArray)] h fun r22 h1 => ∃ s22 : ByteArray, r22 = Value.string s22 ∧ R (Value.tuple #[Value.string s22, Value.bool (!(seq s0 (⟨#[]⟩ : ByteArray)))]) h1
def F45_b1 (I1 : Int → Heap → Prop) (M1 : Int → Heap → Nat) (m1 : Nat) (s0 : ByteArray) (x6 : Int) (x7 : Int) (h : Heap) (R : Value → Heap → Prop) : Prop :=
  br (decide ((x7 : Int) < x6)) (F45_k2 I1 M1 m1 s0 x6 x7 h R) (F45_k5 s0 h R)
def F45 (s0 : ByteArray) (h : Heap) (R : Value → Heap → Prop) : Prop :=
  ∃ (I1 : Int → Heap → Prop) (M1 : Int → Heap → Nat), I1 0 h ∧ ∀ h1 (x7 : Int), I1 x7 h1 → F45_b1 I1 M1 (M1 x7 h1) s0 (s0.size : Int) x7 h1 R
def A45 : Ann := { loops := [(2, [(7, .int .i64)])] }
theorem F45_ent (s0 : ByteArray) (h : Heap) (R : Value → Heap → Prop) (H : F45 s0 h R) : HEnt Tryd.prog 45 #[Value.string s0] h R :=
  hent A45 mixed Tryd.func45 rfl (by kernel_rfl) (by kernel_rfl) (Eq.mp (by kernel_rfl) H)

/-! ### 50 veneer/manifest.split -/
def F50_k1 (a0_0 : Option Addr) (n0_1 : Nat) (n0_2 : Nat) (x1 : Int) (h : Heap) (R : Value → Heap → Prop) : Prop :=
  (0 : Int) ≤ 0 ∧ (0 : Int) ≤ x1 ∧ x1 ≤ (n0_2 : Int) ∧ (0 : Int) ≤ x1 ∧ (x1 : Int) ≤ (n0_1 : Int) ∧ ∀ h1, Cls false h h1 → R (Value.tuple #[Value.slice (cutAt n0_2 0 1 a0_0) (x1.toNat - 0) (n0_2 - 0), Value.slice (cutAt n0_2 x1.toNat 1 a0_0) (n0_1 - x1.toNat) (n0_2 - x1.toNat), Value.bool true]) h1
def F50 (a0 : Option Addr) (l0 : Nat) (c0 : Nat) (x1 : Int) (h : Heap) (R : Value → Heap → Prop) : Prop :=
  br (decide ((x1 : Int) > (l0 : Int))) (R (Value.tuple #[Value.slice none 0 0, Value.slice none 0 0, Value.bool false]) h) (F50_k1 a0 l0 c0 x1 h R)
def A50 : Ann := { draws := [(3, 0, 9)] }
theorem F50_ent (a0 : Option Addr) (l0 : Nat) (c0 : Nat) (x1 : Int) (h : Heap) (R : Value → Heap → Prop) (H : F50 a0 l0 c0 x1 h R) : HEnt Tryd.prog 50 #[Value.slice a0 l0 c0, Value.int .i64 x1] h R :=
  hent A50 mixed Tryd.func50 rfl (by kernel_rfl) (by kernel_rfl) (Eq.mp (by kernel_rfl) H)

/-! ### 51 veneer/num.ReadVar -/
def F51_k7 (I1 : Int → Int → Heap → Prop) (M1 : Int → Int → Heap → Nat) (m1 : Nat) (x5 : Int) (x6 : Int) (h : Heap) (R : Value → Heap → Prop) : Prop :=
  R (Value.tuple #[Value.int .u64 x5, Value.int .i64 (IntKind.i64.wrap (x6 + 1)), Value.int .i64 0]) h
def F51_k6 (I1 : Int → Int → Heap → Prop) (M1 : Int → Int → Heap → Nat) (m1 : Nat) (x5 : Int) (x6 : Int) (b41 : Bool) (h : Heap) (R : Value → Heap → Prop) : Prop :=
  br b41 (R (Value.tuple #[Value.int .u64 0, Value.int .i64 0, Value.int .i64 5]) h) (F51_k7 I1 M1 m1 x5 x6 h R)
def F51_k8 (I1 : Int → Int → Heap → Prop) (M1 : Int → Int → Heap → Nat) (m1 : Nat) (a0_0 : Option Addr) (n0_1 : Nat) (n0_2 : Nat) (x5 : Int) (x8 : Int) (h : Heap) (R : Value → Heap → Prop) : Prop :=
  I1 x5 (IntKind.i64.wrap (x8 + 1)) h ∧ M1 x5 (IntKind.i64.wrap (x8 + 1)) h < m1
def F51_k5 (I1 : Int → Int → Heap → Prop) (M1 : Int → Int → Heap → Nat) (m1 : Nat) (a0_0 : Option Addr) (n0_1 : Nat) (n0_2 : Nat) (x5 : Int) (x6 : Int) (x7 : Int) (x8 : Int) (h : Heap) (R : Value → Heap → Prop) : Prop :=
  (0 : Int) ≤ (IntKind.u64.wrap (7 * (IntKind.u64.wrap x6))) ∧ ∀ x5_1 : Int, x5_1 = orI .u64 x5 (shlI .u64 (IntKind.u64.wrap (andI .u8 x7 127)) (IntKind.u64.wrap (7 * (IntKind.u64.wrap x6)))) → br (decide ((x7 : Int) < 128)) (br ((x7 : Int) == 0) (F51_k6 I1 M1 m1 x5_1 x6 (decide ((x6 : Int) > 0)) h R) (F51_k6 I1 M1 m1 x5_1 x6 false h R)) (F51_k8 I1 M1 m1 a0_0 n0_1 n0_2 x5_1 x8 h R)
def F51_k4 (I1 : Int → Int → Heap → Prop) (M1 : Int → Int → Heap → Nat) (m1 : Nat) (a0_0 : Option Addr) (n0_1 : Nat) (n0_2 : Nat) (x5 : Int) (x6 : Int) (x7 : Int) (x8 : Int) (b24 : Bool) (h : Heap) (R : Value → Heap → Prop) : Prop :=
  br b24 (R (Value.tuple #[Value.int .u64 0, Value.int .i64 0, Value.int .i64 5]) h) (F51_k5 I1 M1 m1 a0_0 n0_1 n0_2 x5 x6 x7 x8 h R)
def F51_k3 (I1 : Int → Int → Heap → Prop) (M1 : Int → Int → Heap → Nat) (m1 : Nat) (a0_0 : Option Addr) (n0_1 : Nat) (n0_2 : Nat) (x5 : Int) (x6 : Int) (x8 : Int) (h : Heap) (R : Value → Heap → Prop) : Prop :=
  ∃ q17 : Addr, a0_0 = some q17 ∧ (0 : Int) ≤ x6 ∧ x6 < (n0_1 : Int) ∧ ∃ x18 : Int, Vc.cell h (q17.add (x6.toNat * 1)) = some (Value.int .u8 x18) ∧ br ((x6 : Int) == 9) (F51_k4 I1 M1 m1 a0_0 n0_1 n0_2 x5 x6 x18 x8 (decide ((x18 : Int) > 1)) h R) (F51_k4 I1 M1 m1 a0_0 n0_1 n0_2 x5 x6 x18 x8 false h R)
def F51_k2 (I1 : Int → Int → Heap → Prop) (M1 : Int → Int → Heap → Nat) (m1 : Nat) (a0_0 : Option Addr) (n0_1 : Nat) (n0_2 : Nat) (x5 : Int) (x8 : Int) (h : Heap) (R : Value → Heap → Prop) : Prop :=
  br (decide ((x8 : Int) ≥ (n0_1 : Int))) (R (Value.tuple #[Value.int .u64 0, Value.int .i64 0, Value.int .i64 4]) h) (F51_k3 I1 M1 m1 a0_0 n0_1 n0_2 x5 x8 x8 h R)
def F51_k9 (h : Heap) (R : Value → Heap → Prop) : Prop :=
  R (Value.tuple #[Value.int .u64 0, Value.int .i64 0, Value.int .i64 5]) h
def F51_b1 (I1 : Int → Int → Heap → Prop) (M1 : Int → Int → Heap → Nat) (m1 : Nat) (a0_0 : Option Addr) (n0_1 : Nat) (n0_2 : Nat) (x5 : Int) (x8 : Int) (h : Heap) (R : Value → Heap → Prop) : Prop :=
  br (decide ((x8 : Int) < 10)) (F51_k2 I1 M1 m1 a0_0 n0_1 n0_2 x5 x8 h R) (F51_k9 h R)
def F51 (a0 : Option Addr) (l0 : Nat) (c0 : Nat) (h : Heap) (R : Value → Heap → Prop) : Prop :=
  ∀ x5 : Int, x5 = 0 → ∃ (I1 : Int → Int → Heap → Prop) (M1 : Int → Int → Heap → Nat), I1 x5 0 h ∧ ∀ h1 (x5_1 : Int) (x8 : Int), I1 x5_1 x8 h1 → F51_b1 I1 M1 (M1 x5_1 x8 h1) a0 l0 c0 x5_1 x8 h1 R
def A51 : Ann := { bind := [5], loops := [(3, [(5, .int .u64), (8, .int .i64)])] }
theorem F51_ent (a0 : Option Addr) (l0 : Nat) (c0 : Nat) (h : Heap) (R : Value → Heap → Prop) (H : F51 a0 l0 c0 h R) : HEnt Tryd.prog 51 #[Value.slice a0 l0 c0] h R :=
  hent A51 mixed Tryd.func51 rfl (by kernel_rfl) (by kernel_rfl) (Eq.mp (by kernel_rfl) H)

end Go.Proofs.YtpnbbgcaaogpdaaDoor
