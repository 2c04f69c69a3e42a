import Derived.Test.YtnahhdkekchmfaaDoorProg
import Derived.Test.YtnahhdkekchmfaaDoorVlpA

set_option linter.unusedVariables false
set_option maxRecDepth 100000
namespace Go.Proofs.YtnahhdkekchmfaaDoor
open Go.Vc
/-! ### 3 veneer/veneerlaw06.LayerSorted -/
def F3_k10 (I3 : Int → Heap → Prop) (M3 : Int → Heap → Nat) (m3 : Nat) (I7 : Int → Heap → Prop) (M7 : Int → Heap → Nat) (m7 : Nat) (a0_0 : Option Addr) (n0_1 : Nat) (n0_2 : Nat) (s6 : ByteArray) (x23 : Int) (x24 : Int) (x67 : Int) (x68 : Int) (h : Heap) (R : Value → Heap → Prop) : Prop :=
  I7 (IntKind.i64.wrap (x68 + 1)) h ∧ M7 (IntKind.i64.wrap (x68 + 1)) h < m7
def F3_k9 (I3 : Int → Heap → Prop) (M3 : Int → Heap → Nat) (m3 : Nat) (I7 : Int → Heap → Prop) (M7 : Int → Heap → Nat) (m7 : Nat) (a0_0 : Option Addr) (n0_1 : Nat) (n0_2 : Nat) (s6 : ByteArray) (x23 : Int) (x24 : Int) (x67 : Int) (x68 : Int) (b103 : Bool) (h : Heap) (R : Value → Heap → Prop) : Prop :=
  br b103 (R (Value.bool false) h) (F3_k10 I3 M3 m3 I7 M7 m7 a0_0 n0_1 n0_2 s6 x23 x24 x67 x68 h R)
def F3_k8 (I3 : Int → Heap → Prop) (M3 : Int → Heap → Nat) (m3 : Nat) (I7 : Int → Heap → Prop) (M7 : Int → Heap → Nat) (m7 : Nat) (a0_0 : Option Addr) (n0_1 : Nat) (n0_2 : Nat) (s6 : ByteArray) (x23 : Int) (x24 : Int) (x67 : Int) (x68 : Int) (h : Heap) (R : Value → Heap → Prop) : Prop :=
  ∃ q73 : Addr, a0_0 = some q73 ∧ (0 : Int) ≤ x68 ∧ x68 < (n0_1 : Int) ∧ ∃ s75 : ByteArray, Vc.cell h ((q73.add (x68.toNat * 4)).add 0) = some (Value.string s75) ∧ HCalls Tryd.prog 13 #[Value.string s75, Value.string s6] h fun r77 h1 => ∃ b77 : Bool, r77 = Value.bool b77 ∧ br (!b77) (F3_k9 I3 M3 m3 I7 M7 m7 a0_0 n0_1 n0_2 s6 x23 x24 x67 x68 true h1 R) (∃ q82 : Addr, a0_0 = some q82 ∧ (0 : Int) ≤ x68 ∧ x68 < (n0_1 : Int) ∧ ∃ x84 : Int, Vc.cell h1 ((q82.add (x68.toNat * 4)).add 1) = some (Value.int .i64 x84) ∧ br ((x84 : Int) == 1) (∃ q97 : Addr, a0_0 = some q97 ∧ (0 : Int) ≤ x68 ∧ x68 < (n0_1 : Int) ∧ ∃ s99 : ByteArray, Vc.cell h1 ((q97.add (x68.toNat * 4)).add 0) = some (Value.string s99) ∧ HCalls Tryd.prog 14 #[Value.string s99, Value.string s6] h1 fun r101 h2 => ∃ b101 : Bool, r101 = Value.bool b101 ∧ F3_k9 I3 M3 m3 I7 M7 m7 a0_0 n0_1 n0_2 s6 x23 x24 x67 x68 b101 h2 R) (∃ q89 : Addr, a0_0 = some q89 ∧ (0 : Int) ≤ x68 ∧ x68 < (n0_1 : Int) ∧ ∃ x91 : Int, Vc.cell h1 ((q89.add (x68.toNat * 4)).add 1) = some (Value.int .i64 x91) ∧ br ((x91 : Int) == 3) (∃ q97 : Addr, a0_0 = some q97 ∧ (0 : Int) ≤ x68 ∧ x68 < (n0_1 : Int) ∧ ∃ s99 : ByteArray, Vc.cell h1 ((q97.add (x68.toNat * 4)).add 0) = some (Value.string s99) ∧ HCalls Tryd.prog 14 #[Value.string s99, Value.string s6] h1 fun r101 h2 => ∃ b101 : Bool, r101 = Value.bool b101 ∧ F3_k9 I3 M3 m3 I7 M7 m7 a0_0 n0_1 n0_2 s6 x23 x24 x67 x68 b101 h2 R) (F3_k9 I3 M3 m3 I7 M7 m7 a0_0 n0_1 n0_2 s6 x23 x24 x67 x68 false h1 R)))
def F3_k11 (I3 : Int → Heap → Prop) (M3 : Int → Heap → Nat) (m3 : Nat) (a0_0 : Option Addr) (n0_1 : Nat) (n0_2 : Nat) (x23 : Int) (x24 : Int) (h : Heap) (R : Value → Heap → Prop) : Prop :=
  I3 (IntKind.i64.wrap (x24 + 1)) h ∧ M3 (IntKind.i64.wrap (x24 + 1)) h < m3
def F3_b7 (I3 : Int → Heap → Prop) (M3 : Int → Heap → Nat) (m3 : Nat) (I7 : Int → Heap → Prop) (M7 : Int → Heap → Nat) (m7 : Nat) (a0_0 : Option Addr) (n0_1 : Nat) (n0_2 : Nat) (s6 : ByteArray) (x23 : Int) (x24 : Int) (x67 : Int) (x68 : Int) (h : Heap) (R : Value → Heap → Prop) : Prop :=
  br (decide ((x68 : Int) < x67)) (F3_k8 I3 M3 m3 I7 M7 m7 a0_0 n0_1 n0_2 s6 x23 x24 x67 x68 h R) (F3_k11 I3 M3 m3 a0_0 n0_1 n0_2 x23 x24 h R)
def F3_k6 (I3 : Int → Heap → Prop) (M3 : Int → Heap → Nat) (m3 : Nat) (a0_0 : Option Addr) (n0_1 : Nat) (n0_2 : Nat) (x5 : Int) (s6 : ByteArray) (x23 : Int) (x24 : Int) (h : Heap) (R : Value → Heap → Prop) : Prop :=
  ∃ (I7 : Int → Heap → Prop) (M7 : Int → Heap → Nat), I7 0 h ∧ ∀ h1 (x68 : Int), I7 x68 h1 → F3_b7 I3 M3 m3 I7 M7 (M7 x68 h1) a0_0 n0_1 n0_2 s6 x23 x24 x5 x68 h1 R
def F3_k5 (I3 : Int → Heap → Prop) (M3 : Int → Heap → Nat) (m3 : Nat) (a0_0 : Option Addr) (n0_1 : Nat) (n0_2 : Nat) (x5 : Int) (s6 : ByteArray) (x23 : Int) (x24 : Int) (b66 : Bool) (h : Heap) (R : Value → Heap → Prop) : Prop :=
  br b66 (R (Value.bool false) h) (F3_k6 I3 M3 m3 a0_0 n0_1 n0_2 x5 s6 x23 x24 h R)
def F3_k4 (I3 : Int → Heap → Prop) (M3 : Int → Heap → Nat) (m3 : Nat) (a0_0 : Option Addr) (n0_1 : Nat) (n0_2 : Nat) (x23 : Int) (x24 : Int) (h : Heap) (R : Value → Heap → Prop) : Prop :=
  ∃ q30 : Addr, a0_0 = some q30 ∧ (0 : Int) ≤ x24 ∧ x24 < (n0_1 : Int) ∧ ∃ s32 : ByteArray, Vc.cell h ((q30.add (x24.toNat * 4)).add 0) = some (Value.string s32) ∧ HCalls Tryd.prog 12 #[Value.string s32] h fun r33 h1 => ∃ s33_0 : ByteArray, ∃ x33_1 : Int, r33 = Value.tuple #[Value.string s33_0, Value.int .i64 x33_1] ∧ br ((x33_1 : Int) != 0) (F3_k5 I3 M3 m3 a0_0 n0_1 n0_2 x24 s33_0 x23 x24 true h1 R) (∃ q42 : Addr, a0_0 = some q42 ∧ (0 : Int) ≤ x24 ∧ x24 < (n0_1 : Int) ∧ ∃ s44 : ByteArray, Vc.cell h1 ((q42.add (x24.toNat * 4)).add 0) = some (Value.string s44) ∧ br (!(seq s33_0 s44)) (F3_k5 I3 M3 m3 a0_0 n0_1 n0_2 x24 s33_0 x23 x24 true h1 R) (br (seq s33_0 (⟨#[]⟩ : ByteArray)) (F3_k5 I3 M3 m3 a0_0 n0_1 n0_2 x24 s33_0 x23 x24 true h1 R) (∃ q54 : Addr, a0_0 = some q54 ∧ (0 : Int) ≤ x24 ∧ x24 < (n0_1 : Int) ∧ ∃ x56 : Int, Vc.cell h1 ((q54.add (x24.toNat * 4)).add 1) = some (Value.int .i64 x56) ∧ br ((x56 : Int) != 1) (∃ q61 : Addr, a0_0 = some q61 ∧ (0 : Int) ≤ x24 ∧ x24 < (n0_1 : Int) ∧ ∃ s63 : ByteArray, Vc.cell h1 ((q61.add (x24.toNat * 4)).add 3) = some (Value.string s63) ∧ F3_k5 I3 M3 m3 a0_0 n0_1 n0_2 x24 s33_0 x23 x24 (!(seq s63 (⟨#[]⟩ : ByteArray))) h1 R) (F3_k5 I3 M3 m3 a0_0 n0_1 n0_2 x24 s33_0 x23 x24 false h1 R))))
def F3_k12 (a0_0 : Option Addr) (n0_1 : Nat) (n0_2 : Nat) (h : Heap) (R : Value → Heap → Prop) : Prop :=
  br (decide (((n0_1 : Int) : Int) ≤ 64)) (HCalls Tryd.prog 11 #[] h fun r110 h1 => ∃ b110 : Bool, r110 = Value.bool b110 ∧ R (Value.bool b110) h1) (R (Value.bool false) h)
def F3_b3 (I3 : Int → Heap → Prop) (M3 : Int → Heap → Nat) (m3 : Nat) (a0_0 : Option Addr) (n0_1 : Nat) (n0_2 : Nat) (x23 : Int) (x24 : Int) (h : Heap) (R : Value → Heap → Prop) : Prop :=
  br (decide ((x24 : Int) < x23)) (F3_k4 I3 M3 m3 a0_0 n0_1 n0_2 x23 x24 h R) (F3_k12 a0_0 n0_1 n0_2 h R)
def F3_k2 (a0_0 : Option Addr) (n0_1 : Nat) (n0_2 : Nat) (h : Heap) (R : Value → Heap → Prop) : Prop :=
  ∃ (I3 : Int → Heap → Prop) (M3 : Int → Heap → Nat), I3 0 h ∧ ∀ h1 (x24 : Int), I3 x24 h1 → F3_b3 I3 M3 (M3 x24 h1) a0_0 n0_1 n0_2 (n0_1 : Int) x24 h1 R
def F3_k1 (a0_0 : Option Addr) (n0_1 : Nat) (n0_2 : Nat) (h : Heap) (R : Value → Heap → Prop) : Prop :=
  HCalls Tryd.prog 10 #[Value.slice a0_0 n0_1 n0_2] h fun r16 h1 => ∃ x16_0 : Int, ∃ x16_1 : Int, r16 = Value.tuple #[Value.int .i64 x16_0, Value.int .i64 x16_1] ∧ br ((x16_1 : Int) != 0) (HCalls Tryd.prog 11 #[] h1 fun r21 h2 => ∃ b21 : Bool, r21 = Value.bool b21 ∧ R (Value.bool b21) h2) (F3_k2 a0_0 n0_1 n0_2 h1 R)
def F3 (a0 : Option Addr) (l0 : Nat) (c0 : Nat) (h : Heap) (R : Value → Heap → Prop) : Prop :=
  br (decide (((l0 : Int) : Int) > 200)) ((0 : Int) ≤ 0 ∧ (0 : Int) ≤ 200 ∧ 200 ≤ (c0 : Int) ∧ F3_k1 (cutAt c0 0 4 a0) (200 - 0) (c0 - 0) h R) (F3_k1 a0 l0 c0 h R)
def A3 : Ann := { loops := [(7, [(24, .int .i64)]), (13, [(68, .int .i64)])] }
theorem F3_ent (a0 : Option Addr) (l0 : Nat) (c0 : Nat) (h : Heap) (R : Value → Heap → Prop) (H : F3 a0 l0 c0 h R) : HEnt Tryd.prog 3 #[Value.slice a0 l0 c0] h R :=
  hent A3 mixed Tryd.func3 rfl (by kernel_rfl) (by kernel_rfl) (Eq.mp (by kernel_rfl) H)

/-! ### 4 veneer/veneerlaw06.LayerChecks -/
def F4_k1 (a0_0 : Option Addr) (n0_1 : Nat) (n0_2 : Nat) (h : Heap) (R : Value → Heap → Prop) : Prop :=
  HCalls Tryd.prog 15 #[Value.slice a0_0 n0_1 n0_2] h fun r14 h1 => ∃ a14 : Option Addr, ∃ l14 : Nat, ∃ c14 : Nat, r14 = Value.slice a14 l14 c14 ∧ HCalls Tryd.prog 10 #[Value.slice a14 l14 c14] h1 fun r17 h2 => ∃ x17_0 : Int, ∃ x17_1 : Int, r17 = Value.tuple #[Value.int .i64 x17_0, Value.int .i64 x17_1] ∧ HCalls Tryd.prog 16 #[Value.slice a0_0 n0_1 n0_2] h2 fun r22 h3 => ∃ x22_0 : Int, ∃ x22_1 : Int, r22 = Value.tuple #[Value.int .i64 x22_0, Value.int .i64 x22_1] ∧ br ((x17_0 : Int) == x22_0) (br ((x17_1 : Int) == x22_1) (HCalls Tryd.prog 17 #[Value.slice a14 l14 c14] h3 fun r35 h4 => ∃ x35 : Int, r35 = Value.int .i64 x35 ∧ HCalls Tryd.prog 18 #[Value.slice a0_0 n0_1 n0_2] h4 fun r37 h5 => ∃ x37 : Int, r37 = Value.int .i64 x37 ∧ br ((x35 : Int) == x37) (HCalls Tryd.prog 19 #[Value.slice a14 l14 c14, Value.slice a0_0 n0_1 n0_2] h5 fun r43 h6 => ∃ b43 : Bool, r43 = Value.bool b43 ∧ br b43 (HCalls Tryd.prog 11 #[] h6 fun r46 h7 => ∃ b46 : Bool, r46 = Value.bool b46 ∧ R (Value.bool b46) h7) (R (Value.bool false) h6)) (R (Value.bool false) h5)) (R (Value.bool false) h3)) (R (Value.bool false) h3)
def F4 (a0 : Option Addr) (l0 : Nat) (c0 : Nat) (h : Heap) (R : Value → Heap → Prop) : Prop :=
  br (decide (((l0 : Int) : Int) > 200)) ((0 : Int) ≤ 0 ∧ (0 : Int) ≤ 200 ∧ 200 ≤ (c0 : Int) ∧ F4_k1 (cutAt c0 0 4 a0) (200 - 0) (c0 - 0) h R) (F4_k1 a0 l0 c0 h R)
def A4 : Ann := {  }
theorem F4_ent (a0 : Option Addr) (l0 : Nat) (c0 : Nat) (h : Heap) (R : Value → Heap → Prop) (H : F4 a0 l0 c0 h R) : HEnt Tryd.prog 4 #[Value.slice a0 l0 c0] h R :=
  hent A4 mixed Tryd.func4 rfl (by kernel_rfl) (by kernel_rfl) (Eq.mp (by kernel_rfl) H)

/-! ### 5 veneer/veneerlaw06.LayerLess -/
def F5_k6 (I3 : Option Addr → Nat → Nat → Int → Int → Heap → Prop) (M3 : Option Addr → Nat → Nat → Int → Int → Heap → Nat) (m3 : Nat) (a0_0 : Option Addr) (n0_1 : Nat) (n0_2 : Nat) (a1_0 : Option Addr) (n1_1 : Nat) (n1_2 : Nat) (a7_0 : Option Addr) (n7_1 : Nat) (n7_2 : Nat) (x8 : Int) (x26 : Int) (x27 : Int) (h : Heap) (R : Value → Heap → Prop) : Prop :=
  I3 a7_0 n7_1 n7_2 x8 (IntKind.i64.wrap (x27 + 1)) h ∧ M3 a7_0 n7_1 n7_2 x8 (IntKind.i64.wrap (x27 + 1)) h < m3
def F5_k5 (I3 : Option Addr → Nat → Nat → Int → Int → Heap → Prop) (M3 : Option Addr → Nat → Nat → Int → Int → Heap → Nat) (m3 : Nat) (a0_0 : Option Addr) (n0_1 : Nat) (n0_2 : Nat) (a1_0 : Option Addr) (n1_1 : Nat) (n1_2 : Nat) (a7_0 : Option Addr) (n7_1 : Nat) (n7_2 : Nat) (x8 : Int) (x9 : Int) (x26 : Int) (x27 : Int) (b39 : Bool) (h : Heap) (R : Value → Heap → Prop) : Prop :=
  br b39 (∃ q43 : Addr, a0_0 = some q43 ∧ (0 : Int) ≤ x9 ∧ x9 < (n0_1 : Int) ∧ ∃ s45 : ByteArray, Vc.cell h ((q43.add (x9.toNat * 4)).add 0) = some (Value.string s45) ∧ ∃ q49 : Addr, a0_0 = some q49 ∧ (0 : Int) ≤ x9 ∧ x9 < (n0_1 : Int) ∧ ∃ s51 : ByteArray, Vc.cell h ((q49.add (x9.toNat * 4)).add 3) = some (Value.string s51) ∧ ∀ h1, Cls false h h1 → F5_k6 I3 M3 m3 a0_0 n0_1 n0_2 a1_0 n1_1 n1_2 a7_0 n7_1 n7_2 (IntKind.i64.wrap (x8 + (IntKind.i64.wrap ((s45.size : Int) + (s51.size : Int))))) x26 x27 h1 R) (∃ q58 : Addr, a0_0 = some q58 ∧ (0 : Int) ≤ x9 ∧ x9 < (n0_1 : Int) ∧ ∃ s59_0 : ByteArray, ∃ x59_1 : Int, ∃ x59_2 : Int, ∃ s59_3 : ByteArray, Vc.cell h ((q58.add (x9.toNat * 4)).add 0) = some (Value.string s59_0) ∧ Vc.cell h ((q58.add (x9.toNat * 4)).add 1) = some (Value.int .i64 x59_1) ∧ Vc.cell h ((q58.add (x9.toNat * 4)).add 2) = some (Value.int .i64 x59_2) ∧ Vc.cell h ((q58.add (x9.toNat * 4)).add 3) = some (Value.string s59_3) ∧ 4 = 4 ∧ (#[Value.string s59_0, Value.int .i64 x59_1, Value.int .i64 x59_2, Value.string s59_3]).size = 4 ∧ 1 * 4 ≤ 16777216 ∧ newK h (.cells #[Value.string s59_0, Value.int .i64 x59_1, Value.int .i64 x59_2, Value.string s59_3] 30) fun b60 h1 => appK Tryd.prog 30 h1 a7_0 n7_1 n7_2 (Value.slice (some (at0 b60)) 1 1) fun a61 l61 c61 h2 => F5_k6 I3 M3 m3 a0_0 n0_1 n0_2 a1_0 n1_1 n1_2 a61 l61 c61 x8 x26 x27 h2 R)
def F5_k4 (I3 : Option Addr → Nat → Nat → Int → Int → Heap → Prop) (M3 : Option Addr → Nat → Nat → Int → Int → Heap → Nat) (m3 : Nat) (a0_0 : Option Addr) (n0_1 : Nat) (n0_2 : Nat) (a1_0 : Option Addr) (n1_1 : Nat) (n1_2 : Nat) (a7_0 : Option Addr) (n7_1 : Nat) (n7_2 : Nat) (x8 : Int) (x26 : Int) (x27 : Int) (h : Heap) (R : Value → Heap → Prop) : Prop :=
  br (decide ((x27 : Int) < (n1_1 : Int))) (∃ q37 : Addr, a1_0 = some q37 ∧ (0 : Int) ≤ x27 ∧ x27 < (n1_1 : Int) ∧ ∃ b38 : Bool, Vc.cell h (q37.add (x27.toNat * 1)) = some (Value.bool b38) ∧ F5_k5 I3 M3 m3 a0_0 n0_1 n0_2 a1_0 n1_1 n1_2 a7_0 n7_1 n7_2 x8 x27 x26 x27 b38 h R) (F5_k5 I3 M3 m3 a0_0 n0_1 n0_2 a1_0 n1_1 n1_2 a7_0 n7_1 n7_2 x8 x27 x26 x27 false h R)
def F5_k7 (a0_0 : Option Addr) (n0_1 : Nat) (n0_2 : Nat) (a7_0 : Option Addr) (n7_1 : Nat) (n7_2 : Nat) (x8 : Int) (h : Heap) (R : Value → Heap → Prop) : Prop :=
  HCalls Tryd.prog 10 #[Value.slice a7_0 n7_1 n7_2] h fun r65 h1 => ∃ x65_0 : Int, ∃ x65_1 : Int, r65 = Value.tuple #[Value.int .i64 x65_0, Value.int .i64 x65_1] ∧ br ((x65_0 : Int) == 0) (br ((x65_1 : Int) == 0) (HCalls Tryd.prog 17 #[Value.slice a7_0 n7_1 n7_2] h1 fun r76 h2 => ∃ x76 : Int, r76 = Value.int .i64 x76 ∧ HCalls Tryd.prog 17 #[Value.slice a0_0 n0_1 n0_2] h2 fun r78 h3 => ∃ x78 : Int, r78 = Value.int .i64 x78 ∧ br ((x76 : Int) == (IntKind.i64.wrap (x78 - x8))) (HCalls Tryd.prog 11 #[] h3 fun r84 h4 => ∃ b84 : Bool, r84 = Value.bool b84 ∧ R (Value.bool b84) h4) (R (Value.bool false) h3)) (R (Value.bool false) h1)) (R (Value.bool false) h1)
def F5_b3 (I3 : Option Addr → Nat → Nat → Int → Int → Heap → Prop) (M3 : Option Addr → Nat → Nat → Int → Int → Heap → Nat) (m3 : Nat) (a0_0 : Option Addr) (n0_1 : Nat) (n0_2 : Nat) (a1_0 : Option Addr) (n1_1 : Nat) (n1_2 : Nat) (a7_0 : Option Addr) (n7_1 : Nat) (n7_2 : Nat) (x8 : Int) (x26 : Int) (x27 : Int) (h : Heap) (R : Value → Heap → Prop) : Prop :=
  br (decide ((x27 : Int) < x26)) (F5_k4 I3 M3 m3 a0_0 n0_1 n0_2 a1_0 n1_1 n1_2 a7_0 n7_1 n7_2 x8 x26 x27 h R) (F5_k7 a0_0 n0_1 n0_2 a7_0 n7_1 n7_2 x8 h R)
def F5_k2 (a0_0 : Option Addr) (n0_1 : Nat) (n0_2 : Nat) (a1_0 : Option Addr) (n1_1 : Nat) (n1_2 : Nat) (h : Heap) (R : Value → Heap → Prop) : Prop :=
  ∃ (I3 : Option Addr → Nat → Nat → Int → Int → Heap → Prop) (M3 : Option Addr → Nat → Nat → Int → Int → Heap → Nat), I3 none 0 0 0 0 h ∧ ∀ h1 (a7 : Option Addr) (l7 c7 : Nat) (x8 : Int) (x27 : Int), I3 a7 l7 c7 x8 x27 h1 → F5_b3 I3 M3 (M3 a7 l7 c7 x8 x27 h1) a0_0 n0_1 n0_2 a1_0 n1_1 n1_2 a7 l7 c7 x8 (n0_1 : Int) x27 h1 R
def F5_k1 (a0_0 : Option Addr) (n0_1 : Nat) (n0_2 : Nat) (a1_0 : Option Addr) (n1_1 : Nat) (n1_2 : Nat) (h : Heap) (R : Value → Heap → Prop) : Prop :=
  HCalls Tryd.prog 10 #[Value.slice a0_0 n0_1 n0_2] h fun r19 h1 => ∃ x19_0 : Int, ∃ x19_1 : Int, r19 = Value.tuple #[Value.int .i64 x19_0, Value.int .i64 x19_1] ∧ br ((x19_1 : Int) != 0) (HCalls Tryd.prog 11 #[] h1 fun r24 h2 => ∃ b24 : Bool, r24 = Value.bool b24 ∧ R (Value.bool b24) h2) (F5_k2 a0_0 n0_1 n0_2 a1_0 n1_1 n1_2 h1 R)
def F5 (a0 : Option Addr) (l0 : Nat) (c0 : Nat) (a1 : Option Addr) (l1 : Nat) (c1 : Nat) (h : Heap) (R : Value → Heap → Prop) : Prop :=
  br (decide (((l0 : Int) : Int) > 200)) ((0 : Int) ≤ 0 ∧ (0 : Int) ≤ 200 ∧ 200 ≤ (c0 : Int) ∧ F5_k1 (cutAt c0 0 4 a0) (200 - 0) (c0 - 0) a1 l1 c1 h R) (F5_k1 a0 l0 c0 a1 l1 c1 h R)
def A5 : Ann := { loops := [(9, [(7, .slice), (8, .int .i64), (27, .int .i64)])], draws := [(12, 0, 16)] }
theorem F5_ent (a0 : Option Addr) (l0 : Nat) (c0 : Nat) (a1 : Option Addr) (l1 : Nat) (c1 : Nat) (h : Heap) (R : Value → Heap → Prop) (H : F5 a0 l0 c0 a1 l1 c1 h R) : HEnt Tryd.prog 5 #[Value.slice a0 l0 c0, Value.slice a1 l1 c1] h R :=
  hent A5 mixed Tryd.func5 rfl (by kernel_rfl) (by kernel_rfl) (Eq.mp (by kernel_rfl) H)

/-! ### 10 veneer/layer.Check -/
def F10_k10 (I2 : ByteArray → Int → Heap → Prop) (M2 : ByteArray → Int → Heap → Nat) (m2 : Nat) (a0_0 : Option Addr) (n0_1 : Nat) (n0_2 : Nat) (s4 : ByteArray) (a11_0 : Option Addr) (n11_1 : Nat) (n11_2 : Nat) (x12 : Int) (x13 : Int) (h : Heap) (R : Value → Heap → Prop) : Prop :=
  I2 s4 (IntKind.i64.wrap (x13 + 1)) h ∧ M2 s4 (IntKind.i64.wrap (x13 + 1)) h < m2
def F10_k9 (I2 : ByteArray → Int → Heap → Prop) (M2 : ByteArray → Int → Heap → Nat) (m2 : Nat) (a0_0 : Option Addr) (n0_1 : Nat) (n0_2 : Nat) (s4 : ByteArray) (q6 : Addr) (a11_0 : Option Addr) (n11_1 : Nat) (n11_2 : Nat) (x12 : Int) (x13 : Int) (b55 : Bool) (h : Heap) (R : Value → Heap → Prop) : Prop :=
  br b55 (∃ s57 : ByteArray, Vc.cell h (q6.add 0) = some (Value.string s57) ∧ F10_k10 I2 M2 m2 a0_0 n0_1 n0_2 s57 a11_0 n11_1 n11_2 x12 x13 h R) (F10_k10 I2 M2 m2 a0_0 n0_1 n0_2 s4 a11_0 n11_1 n11_2 x12 x13 h R)
def F10_k8 (I2 : ByteArray → Int → Heap → Prop) (M2 : ByteArray → Int → Heap → Nat) (m2 : Nat) (a0_0 : Option Addr) (n0_1 : Nat) (n0_2 : Nat) (s4 : ByteArray) (q6 : Addr) (a11_0 : Option Addr) (n11_1 : Nat) (n11_2 : Nat) (x12 : Int) (x13 : Int) (h : Heap) (R : Value → Heap → Prop) : Prop :=
  ∃ x49 : Int, Vc.cell h (q6.add 1) = some (Value.int .i64 x49) ∧ br ((x49 : Int) == 1) (F10_k9 I2 M2 m2 a0_0 n0_1 n0_2 s4 q6 a11_0 n11_1 n11_2 x12 x13 true h R) (∃ x53 : Int, Vc.cell h (q6.add 1) = some (Value.int .i64 x53) ∧ F10_k9 I2 M2 m2 a0_0 n0_1 n0_2 s4 q6 a11_0 n11_1 n11_2 x12 x13 ((x53 : Int) == 3) h R)
def F10_k7 (I2 : ByteArray → Int → Heap → Prop) (M2 : ByteArray → Int → Heap → Nat) (m2 : Nat) (a0_0 : Option Addr) (n0_1 : Nat) (n0_2 : Nat) (s4 : ByteArray) (x5 : Int) (q6 : Addr) (a11_0 : Option Addr) (n11_1 : Nat) (n11_2 : Nat) (x12 : Int) (x13 : Int) (b46 : Bool) (h : Heap) (R : Value → Heap → Prop) : Prop :=
  br b46 (R (Value.tuple #[Value.int .i64 x5, Value.int .i64 11]) h) (F10_k8 I2 M2 m2 a0_0 n0_1 n0_2 s4 q6 a11_0 n11_1 n11_2 x12 x13 h R)
def F10_k6 (I2 : ByteArray → Int → Heap → Prop) (M2 : ByteArray → Int → Heap → Nat) (m2 : Nat) (a0_0 : Option Addr) (n0_1 : Nat) (n0_2 : Nat) (s4 : ByteArray) (x5 : Int) (q6 : Addr) (a11_0 : Option Addr) (n11_1 : Nat) (n11_2 : Nat) (x12 : Int) (x13 : Int) (h : Heap) (R : Value → Heap → Prop) : Prop :=
  br (!(seq s4 (⟨#[]⟩ : ByteArray))) (∃ s44 : ByteArray, Vc.cell h (q6.add 0) = some (Value.string s44) ∧ HCalls Tryd.prog 14 #[Value.string s4, Value.string s44] h fun r45 h1 => ∃ b45 : Bool, r45 = Value.bool b45 ∧ F10_k7 I2 M2 m2 a0_0 n0_1 n0_2 s4 x5 q6 a11_0 n11_1 n11_2 x12 x13 b45 h1 R) (F10_k7 I2 M2 m2 a0_0 n0_1 n0_2 s4 x5 q6 a11_0 n11_1 n11_2 x12 x13 false h R)
def F10_k5 (I2 : ByteArray → Int → Heap → Prop) (M2 : ByteArray → Int → Heap → Nat) (m2 : Nat) (a0_0 : Option Addr) (n0_1 : Nat) (n0_2 : Nat) (s4 : ByteArray) (x5 : Int) (q6 : Addr) (a11_0 : Option Addr) (n11_1 : Nat) (n11_2 : Nat) (x12 : Int) (x13 : Int) (b37 : Bool) (h : Heap) (R : Value → Heap → Prop) : Prop :=
  br b37 (R (Value.tuple #[Value.int .i64 x5, Value.int .i64 14]) h) (F10_k6 I2 M2 m2 a0_0 n0_1 n0_2 s4 x5 q6 a11_0 n11_1 n11_2 x12 x13 h R)
def F10_k4 (I2 : ByteArray → Int → Heap → Prop) (M2 : ByteArray → Int → Heap → Nat) (m2 : Nat) (a0_0 : Option Addr) (n0_1 : Nat) (n0_2 : Nat) (s4 : ByteArray) (x5 : Int) (q6 : Addr) (a11_0 : Option Addr) (n11_1 : Nat) (n11_2 : Nat) (x12 : Int) (x13 : Int) (h : Heap) (R : Value → Heap → Prop) : Prop :=
  br (decide ((x5 : Int) > 0)) (∃ q30 : Addr, a0_0 = some q30 ∧ (0 : Int) ≤ IntKind.i64.wrap (x5 - 1) ∧ IntKind.i64.wrap (x5 - 1) < (n0_1 : Int) ∧ ∃ s32 : ByteArray, Vc.cell h ((q30.add (((IntKind.i64.wrap (x5 - 1)).toNat) * 4)).add 0) = some (Value.string s32) ∧ ∃ s34 : ByteArray, Vc.cell h (q6.add 0) = some (Value.string s34) ∧ ∃ b35 : Bool, (∀ h1, Cls false h h1 → HEnt Tryd.prog 13 #[Value.string s32, Value.string s34] h1 fun v h2 => v = Value.bool b35 ∧ Cls false h1 h2) ∧ ∀ h1, Cls false h h1 → F10_k5 I2 M2 m2 a0_0 n0_1 n0_2 s4 x5 q6 a11_0 n11_1 n11_2 x12 x13 (!b35) h1 R) (∀ h1, Cls false h h1 → F10_k5 I2 M2 m2 a0_0 n0_1 n0_2 s4 x5 q6 a11_0 n11_1 n11_2 x12 x13 false h1 R)
def F10_k3 (I2 : ByteArray → Int → Heap → Prop) (M2 : ByteArray → Int → Heap → Nat) (m2 : Nat) (a0_0 : Option Addr) (n0_1 : Nat) (n0_2 : Nat) (s4 : ByteArray) (a11_0 : Option Addr) (n11_1 : Nat) (n11_2 : Nat) (x12 : Int) (x13 : Int) (h : Heap) (R : Value → Heap → Prop) : Prop :=
  ∃ q16 : Addr, a11_0 = some q16 ∧ (0 : Int) ≤ x13 ∧ x13 < (n11_1 : Int) ∧ ∃ s17_0 : ByteArray, ∃ x17_1 : Int, ∃ x17_2 : Int, ∃ s17_3 : ByteArray, Vc.cell h ((q16.add (x13.toNat * 4)).add 0) = some (Value.string s17_0) ∧ Vc.cell h ((q16.add (x13.toNat * 4)).add 1) = some (Value.int .i64 x17_1) ∧ Vc.cell h ((q16.add (x13.toNat * 4)).add 2) = some (Value.int .i64 x17_2) ∧ Vc.cell h ((q16.add (x13.toNat * 4)).add 3) = some (Value.string s17_3) ∧ 4 = 4 ∧ newK h (.cells (zeroC Tryd.prog 30) 30) fun b6 h1 => storeK 4 h1 (at0 b6) (Value.agg #[Value.string s17_0, Value.int .i64 x17_1, Value.int .i64 x17_2, Value.string s17_3]) fun h2 => ∃ s18_0 : ByteArray, ∃ x18_1 : Int, ∃ x18_2 : Int, ∃ s18_3 : ByteArray, Vc.cell h2 ((at0 b6).add 0) = some (Value.string s18_0) ∧ Vc.cell h2 ((at0 b6).add 1) = some (Value.int .i64 x18_1) ∧ Vc.cell h2 ((at0 b6).add 2) = some (Value.int .i64 x18_2) ∧ Vc.cell h2 ((at0 b6).add 3) = some (Value.string s18_3) ∧ 4 = 4 ∧ HCalls Tryd.prog 26 #[Value.agg #[Value.string s18_0, Value.int .i64 x18_1, Value.int .i64 x18_2, Value.string s18_3]] h2 fun r19 h3 => ∃ x19 : Int, r19 = Value.int .i64 x19 ∧ br ((x19 : Int) != 0) (R (Value.tuple #[Value.int .i64 x13, Value.int .i64 x19]) h3) (F10_k4 I2 M2 m2 a0_0 n0_1 n0_2 s4 x13 (at0 b6) a11_0 n11_1 n11_2 x12 x13 h3 R)
def F10_k11 (h : Heap) (R : Value → Heap → Prop) : Prop :=
  R (Value.tuple #[Value.int .i64 0, Value.int .i64 0]) h
def F10_b2 (I2 : ByteArray → Int → Heap → Prop) (M2 : ByteArray → Int → Heap → Nat) (m2 : Nat) (a0_0 : Option Addr) (n0_1 : Nat) (n0_2 : Nat) (s4 : ByteArray) (a11_0 : Option Addr) (n11_1 : Nat) (n11_2 : Nat) (x12 : Int) (x13 : Int) (h : Heap) (R : Value → Heap → Prop) : Prop :=
  br (decide ((x13 : Int) < x12)) (F10_k3 I2 M2 m2 a0_0 n0_1 n0_2 s4 a11_0 n11_1 n11_2 x12 x13 h R) (F10_k11 h R)
def F10_k1 (a0_0 : Option Addr) (n0_1 : Nat) (n0_2 : Nat) (h : Heap) (R : Value → Heap → Prop) : Prop :=
  ∃ (I2 : ByteArray → Int → Heap → Prop) (M2 : ByteArray → Int → Heap → Nat), I2 (⟨#[]⟩ : ByteArray) 0 h ∧ ∀ h1 (s4 : ByteArray) (x13 : Int), I2 s4 x13 h1 → F10_b2 I2 M2 (M2 s4 x13 h1) a0_0 n0_1 n0_2 s4 a0_0 n0_1 n0_2 (n0_1 : Int) x13 h1 R
def F10 (a0 : Option Addr) (l0 : Nat) (c0 : Nat) (h : Heap) (R : Value → Heap → Prop) : Prop :=
  br (decide (((l0 : Int) : Int) > 64)) (R (Value.tuple #[Value.int .i64 0, Value.int .i64 3]) h) (F10_k1 a0 l0 c0 h R)
def A10 : Ann := { loops := [(5, [(4, .str), (13, .int .i64)])], draws := [(10, 0, 14)] }
theorem F10_ent (a0 : Option Addr) (l0 : Nat) (c0 : Nat) (h : Heap) (R : Value → Heap → Prop) (H : F10 a0 l0 c0 h R) : HEnt Tryd.prog 10 #[Value.slice a0 l0 c0] h R :=
  hent A10 mixed Tryd.func10 rfl (by kernel_rfl) (by kernel_rfl) (Eq.mp (by kernel_rfl) H)

/-! ### 11 veneer/veneerlaw06.works -/
def F11 (h : Heap) (R : Value → Heap → Prop) : Prop :=
  (#[Value.string (⟨#[97, 47, 98]⟩ : ByteArray), Value.int .i64 1, Value.int .i64 420, Value.string (⟨#[104, 105]⟩ : ByteArray)]).size = 4 ∧ 1 * 4 ≤ 16777216 ∧ newK h (.cells #[Value.string (⟨#[97, 47, 98]⟩ : ByteArray), Value.int .i64 1, Value.int .i64 420, Value.string (⟨#[104, 105]⟩ : ByteArray)] 30) fun b5 h1 => HCalls Tryd.prog 21 #[Value.slice (some (at0 b5)) 1 1] h1 fun r6 h2 => ∃ a6_0 : Option Addr, ∃ l6_0 : Nat, ∃ c6_0 : Nat, ∃ x6_1 : Int, r6 = Value.tuple #[Value.slice a6_0 l6_0 c6_0, Value.int .i64 x6_1] ∧ ∃ s10 : ByteArray, s10.size = l6_0 ∧ (∀ ad, a6_0 = some ad → CellsAt h2 ad (bytesV s10)) ∧ (a6_0 = none → l6_0 = 0) ∧ br (seq s10 (⟨#[86, 76, 1, 1, 1, 1, 164, 3, 97, 47, 98, 2, 104, 105]⟩ : ByteArray)) (R (Value.bool ((x6_1 : Int) == 0)) h2) (R (Value.bool false) h2)
def A11 : Ann := {  }
theorem F11_ent (h : Heap) (R : Value → Heap → Prop) (H : F11 h R) : HEnt Tryd.prog 11 #[] h R :=
  hent A11 mixed Tryd.func11 rfl (by kernel_rfl) (by kernel_rfl) (Eq.mp (by kernel_rfl) H)

/-! ### 15 veneer/veneerlaw06.own -/
def F15 (a0 : Option Addr) (l0 : Nat) (c0 : Nat) (h : Heap) (R : Value → Heap → Prop) : Prop :=
  0 * 4 ≤ 16777216 ∧ newK h (.cells #[] 30) fun b3 h1 => appK Tryd.prog 30 h1 (some (at0 b3)) 0 0 (Value.slice a0 l0 c0) fun a5 l5 c5 h2 => (#[Value.string (⟨#[63]⟩ : ByteArray), Value.int .i64 0, Value.int .i64 0, Value.string ByteArray.empty]).size = 4 ∧ 1 * 4 ≤ 16777216 ∧ newK h2 (.cells #[Value.string (⟨#[63]⟩ : ByteArray), Value.int .i64 0, Value.int .i64 0, Value.string ByteArray.empty] 30) fun b7 h3 => appK Tryd.prog 30 h3 a5 l5 c5 (Value.slice (some (at0 b7)) 1 1) fun a8 l8 c8 h4 => (0 : Int) ≤ 0 ∧ (0 : Int) ≤ (l0 : Int) ∧ (l0 : Int) ≤ (c8 : Int) ∧ R (Value.slice (cutAt c8 0 4 a8) (((l0 : Int).toNat) - 0) (c8 - 0)) h4
def A15 : Ann := {  }
theorem F15_ent (a0 : Option Addr) (l0 : Nat) (c0 : Nat) (h : Heap) (R : Value → Heap → Prop) (H : F15 a0 l0 c0 h R) : HEnt Tryd.prog 15 #[Value.slice a0 l0 c0] h R :=
  hent A15 mixed Tryd.func15 rfl (by kernel_rfl) (by kernel_rfl) (Eq.mp (by kernel_rfl) H)

/-! ### 16 veneer/veneerref06.Check -/
def F16_k4 (I2 : Int → Heap → Prop) (M2 : Int → Heap → Nat) (m2 : Nat) (a0_0 : Option Addr) (n0_1 : Nat) (n0_2 : Nat) (x4 : Int) (h : Heap) (R : Value → Heap → Prop) : Prop :=
  ∀ x4_1 : Int, x4_1 = IntKind.i64.wrap (x4 + 1) → I2 x4_1 h ∧ M2 x4_1 h < m2
def F16_k3 (I2 : Int → Heap → Prop) (M2 : Int → Heap → Nat) (m2 : Nat) (a0_0 : Option Addr) (n0_1 : Nat) (n0_2 : Nat) (x4 : Int) (h : Heap) (R : Value → Heap → Prop) : Prop :=
  HCalls Tryd.prog 30 #[Value.slice a0_0 n0_1 n0_2, Value.int .i64 x4] h fun r17 h1 => ∃ x17 : Int, r17 = Value.int .i64 x17 ∧ br ((x17 : Int) != 0) (R (Value.tuple #[Value.int .i64 x4, Value.int .i64 x17]) h1) (F16_k4 I2 M2 m2 a0_0 n0_1 n0_2 x4 h1 R)
def F16_k5 (h : Heap) (R : Value → Heap → Prop) : Prop :=
  R (Value.tuple #[Value.int .i64 0, Value.int .i64 0]) h
def F16_b2 (I2 : Int → Heap → Prop) (M2 : Int → Heap → Nat) (m2 : Nat) (a0_0 : Option Addr) (n0_1 : Nat) (n0_2 : Nat) (x4 : Int) (h : Heap) (R : Value → Heap → Prop) : Prop :=
  br (decide ((x4 : Int) < (n0_1 : Int))) (F16_k3 I2 M2 m2 a0_0 n0_1 n0_2 x4 h R) (F16_k5 h R)
def F16_k1 (a0_0 : Option Addr) (n0_1 : Nat) (n0_2 : Nat) (h : Heap) (R : Value → Heap → Prop) : Prop :=
  ∀ x4 : Int, x4 = 0 → ∃ (I2 : Int → Heap → Prop) (M2 : Int → Heap → Nat), I2 x4 h ∧ ∀ h1 (x4_1 : Int), I2 x4_1 h1 → F16_b2 I2 M2 (M2 x4_1 h1) a0_0 n0_1 n0_2 x4_1 h1 R
def F16 (a0 : Option Addr) (l0 : Nat) (c0 : Nat) (h : Heap) (R : Value → Heap → Prop) : Prop :=
  br (decide (((l0 : Int) : Int) > 64)) (R (Value.tuple #[Value.int .i64 0, Value.int .i64 3]) h) (F16_k1 a0 l0 c0 h R)
def A16 : Ann := { bind := [4], loops := [(4, [(4, .int .i64)])] }
theorem F16_ent (a0 : Option Addr) (l0 : Nat) (c0 : Nat) (h : Heap) (R : Value → Heap → Prop) (H : F16 a0 l0 c0 h R) : HEnt Tryd.prog 16 #[Value.slice a0 l0 c0] h R :=
  hent A16 mixed Tryd.func16 rfl (by kernel_rfl) (by kernel_rfl) (Eq.mp (by kernel_rfl) H)

/-! ### 17 veneer/layer.Size -/
def F17_k2 (I1 : Int → Int → Heap → Prop) (M1 : Int → Int → Heap → Nat) (m1 : Nat) (x3 : Int) (a6_0 : Option Addr) (n6_1 : Nat) (n6_2 : Nat) (x7 : Int) (x8 : Int) (h : Heap) (R : Value → Heap → Prop) : Prop :=
  ∃ q10 : Addr, a6_0 = some q10 ∧ (0 : Int) ≤ x8 ∧ x8 < (n6_1 : Int) ∧ ∃ s11_0 : ByteArray, ∃ x11_1 : Int, ∃ x11_2 : Int, ∃ s11_3 : ByteArray, Vc.cell h ((q10.add (x8.toNat * 4)).add 0) = some (Value.string s11_0) ∧ Vc.cell h ((q10.add (x8.toNat * 4)).add 1) = some (Value.int .i64 x11_1) ∧ Vc.cell h ((q10.add (x8.toNat * 4)).add 2) = some (Value.int .i64 x11_2) ∧ Vc.cell h ((q10.add (x8.toNat * 4)).add 3) = some (Value.string s11_3) ∧ 4 = 4 ∧ newK h (.cells (zeroC Tryd.prog 30) 30) fun b5 h1 => storeK 4 h1 (at0 b5) (Value.agg #[Value.string s11_0, Value.int .i64 x11_1, Value.int .i64 x11_2, Value.string s11_3]) fun h2 => ∃ s14 : ByteArray, Vc.cell h2 ((at0 b5).add 0) = some (Value.string s14) ∧ ∃ s17 : ByteArray, Vc.cell h2 ((at0 b5).add 3) = some (Value.string s17) ∧ ∀ x3_1 : Int, x3_1 = IntKind.i64.wrap (x3 + (IntKind.i64.wrap ((s14.size : Int) + (s17.size : Int)))) → I1 x3_1 (IntKind.i64.wrap (x8 + 1)) h2 ∧ M1 x3_1 (IntKind.i64.wrap (x8 + 1)) h2 < m1
def F17_k3 (x3 : Int) (h : Heap) (R : Value → Heap → Prop) : Prop :=
  R (Value.int .i64 x3) h
def F17_b1 (I1 : Int → Int → Heap → Prop) (M1 : Int → Int → Heap → Nat) (m1 : Nat) (x2 : Int) (x3 : Int) (a6_0 : Option Addr) (n6_1 : Nat) (n6_2 : Nat) (x7 : Int) (x8 : Int) (h : Heap) (R : Value → Heap → Prop) : Prop :=
  br (decide ((x8 : Int) < x7)) (F17_k2 I1 M1 m1 x3 a6_0 n6_1 n6_2 x7 x8 h R) (F17_k3 x3 h R)
def F17 (a0 : Option Addr) (l0 : Nat) (c0 : Nat) (h : Heap) (R : Value → Heap → Prop) : Prop :=
  ∀ x3 : Int, x3 = 0 → ∃ (I1 : Int → Int → Heap → Prop) (M1 : Int → Int → Heap → Nat), I1 x3 0 h ∧ ∀ h1 (x3_1 : Int) (x8 : Int), I1 x3_1 x8 h1 → F17_b1 I1 M1 (M1 x3_1 x8 h1) 0 x3_1 a0 l0 c0 (l0 : Int) x8 h1 R
def A17 : Ann := { bind := [3], loops := [(3, [(3, .int .i64), (8, .int .i64)])] }
theorem F17_ent (a0 : Option Addr) (l0 : Nat) (c0 : Nat) (h : Heap) (R : Value → Heap → Prop) (H : F17 a0 l0 c0 h R) : HEnt Tryd.prog 17 #[Value.slice a0 l0 c0] h R :=
  hent A17 mixed Tryd.func17 rfl (by kernel_rfl) (by kernel_rfl) (Eq.mp (by kernel_rfl) H)

/-! ### 18 veneer/veneerref06.Size -/
def F18_k2 (I1 : Int → Int → Heap → Prop) (M1 : Int → Int → Heap → Nat) (m1 : Nat) (a0_0 : Option Addr) (n0_1 : Nat) (n0_2 : Nat) (x3 : Int) (x4 : Int) (h : Heap) (R : Value → Heap → Prop) : Prop :=
  ∃ q14 : Addr, a0_0 = some q14 ∧ (0 : Int) ≤ x4 ∧ x4 < (n0_1 : Int) ∧ ∃ s16 : ByteArray, Vc.cell h ((q14.add (x4.toNat * 4)).add 0) = some (Value.string s16) ∧ ∀ x3_1 : Int, x3_1 = IntKind.i64.wrap (x3 + (s16.size : Int)) → ∃ q22 : Addr, a0_0 = some q22 ∧ (0 : Int) ≤ x4 ∧ x4 < (n0_1 : Int) ∧ ∃ s24 : ByteArray, Vc.cell h ((q22.add (x4.toNat * 4)).add 3) = some (Value.string s24) ∧ ∀ x3_2 : Int, x3_2 = IntKind.i64.wrap (x3_1 + (s24.size : Int)) → ∀ x4_1 : Int, x4_1 = IntKind.i64.wrap (x4 + 1) → I1 x3_2 x4_1 h ∧ M1 x3_2 x4_1 h < m1
def F18_k3 (x3 : Int) (h : Heap) (R : Value → Heap → Prop) : Prop :=
  R (Value.int .i64 x3) h
def F18_b1 (I1 : Int → Int → Heap → Prop) (M1 : Int → Int → Heap → Nat) (m1 : Nat) (a0_0 : Option Addr) (n0_1 : Nat) (n0_2 : Nat) (x2 : Int) (x3 : Int) (x4 : Int) (h : Heap) (R : Value → Heap → Prop) : Prop :=
  br (decide ((x4 : Int) < (n0_1 : Int))) (F18_k2 I1 M1 m1 a0_0 n0_1 n0_2 x3 x4 h R) (F18_k3 x3 h R)
def F18 (a0 : Option Addr) (l0 : Nat) (c0 : Nat) (h : Heap) (R : Value → Heap → Prop) : Prop :=
  ∀ x3 : Int, x3 = 0 → ∀ x4 : Int, x4 = 0 → ∃ (I1 : Int → Int → Heap → Prop) (M1 : Int → Int → Heap → Nat), I1 x3 x4 h ∧ ∀ h1 (x3_1 : Int) (x4_1 : Int), I1 x3_1 x4_1 h1 → F18_b1 I1 M1 (M1 x3_1 x4_1 h1) a0 l0 c0 0 x3_1 x4_1 h1 R
def A18 : Ann := { bind := [3, 4], loops := [(3, [(3, .int .i64), (4, .int .i64)])] }
theorem F18_ent (a0 : Option Addr) (l0 : Nat) (c0 : Nat) (h : Heap) (R : Value → Heap → Prop) (H : F18 a0 l0 c0 h R) : HEnt Tryd.prog 18 #[Value.slice a0 l0 c0] h R :=
  hent A18 mixed Tryd.func18 rfl (by kernel_rfl) (by kernel_rfl) (Eq.mp (by kernel_rfl) H)

/-! ### 19 veneer/veneerref06.Same -/
def F19_k4 (I2 : Int → Heap → Prop) (M2 : Int → Heap → Nat) (m2 : Nat) (a0_0 : Option Addr) (n0_1 : Nat) (n0_2 : Nat) (a1_0 : Option Addr) (n1_1 : Nat) (n1_2 : Nat) (x5 : Int) (h : Heap) (R : Value → Heap → Prop) : Prop :=
  ∀ x5_1 : Int, x5_1 = IntKind.i64.wrap (x5 + 1) → I2 x5_1 h ∧ M2 x5_1 h < m2
def F19_k3 (I2 : Int → Heap → Prop) (M2 : Int → Heap → Nat) (m2 : Nat) (a0_0 : Option Addr) (n0_1 : Nat) (n0_2 : Nat) (a1_0 : Option Addr) (n1_1 : Nat) (n1_2 : Nat) (x5 : Int) (h : Heap) (R : Value → Heap → Prop) : Prop :=
  ∃ q19 : Addr, a0_0 = some q19 ∧ (0 : Int) ≤ x5 ∧ x5 < (n0_1 : Int) ∧ ∃ s20_0 : ByteArray, ∃ x20_1 : Int, ∃ x20_2 : Int, ∃ s20_3 : ByteArray, Vc.cell h ((q19.add (x5.toNat * 4)).add 0) = some (Value.string s20_0) ∧ Vc.cell h ((q19.add (x5.toNat * 4)).add 1) = some (Value.int .i64 x20_1) ∧ Vc.cell h ((q19.add (x5.toNat * 4)).add 2) = some (Value.int .i64 x20_2) ∧ Vc.cell h ((q19.add (x5.toNat * 4)).add 3) = some (Value.string s20_3) ∧ 4 = 4 ∧ ∃ q23 : Addr, a1_0 = some q23 ∧ (0 : Int) ≤ x5 ∧ x5 < (n1_1 : Int) ∧ ∃ s24_0 : ByteArray, ∃ x24_1 : Int, ∃ x24_2 : Int, ∃ s24_3 : ByteArray, Vc.cell h ((q23.add (x5.toNat * 4)).add 0) = some (Value.string s24_0) ∧ Vc.cell h ((q23.add (x5.toNat * 4)).add 1) = some (Value.int .i64 x24_1) ∧ Vc.cell h ((q23.add (x5.toNat * 4)).add 2) = some (Value.int .i64 x24_2) ∧ Vc.cell h ((q23.add (x5.toNat * 4)).add 3) = some (Value.string s24_3) ∧ 4 = 4 ∧ ∃ e25 : Bool, (∀ w : World, (Op.equal 30 (Value.agg #[Value.string s20_0, Value.int .i64 x20_1, Value.int .i64 x20_2, Value.string s20_3]) (Value.agg #[Value.string s24_0, Value.int .i64 x24_1, Value.int .i64 x24_2, Value.string s24_3])).run Tryd.prog w = .ok e25 w) ∧ Tryd.prog.eqGuardType Tryd.prog.depth 30 = false ∧ ∀ h1, Cls false h h1 → br (!e25) (R (Value.bool false) h1) (F19_k4 I2 M2 m2 a0_0 n0_1 n0_2 a1_0 n1_1 n1_2 x5 h1 R)
def F19_k5 (h : Heap) (R : Value → Heap → Prop) : Prop :=
  R (Value.bool true) h
def F19_b2 (I2 : Int → Heap → Prop) (M2 : Int → Heap → Nat) (m2 : Nat) (a0_0 : Option Addr) (n0_1 : Nat) (n0_2 : Nat) (a1_0 : Option Addr) (n1_1 : Nat) (n1_2 : Nat) (x5 : Int) (h : Heap) (R : Value → Heap → Prop) : Prop :=
  br (decide ((x5 : Int) < (n0_1 : Int))) (F19_k3 I2 M2 m2 a0_0 n0_1 n0_2 a1_0 n1_1 n1_2 x5 h R) (F19_k5 h R)
def F19_k1 (a0_0 : Option Addr) (n0_1 : Nat) (n0_2 : Nat) (a1_0 : Option Addr) (n1_1 : Nat) (n1_2 : Nat) (h : Heap) (R : Value → Heap → Prop) : Prop :=
  ∀ x5 : Int, x5 = 0 → ∃ (I2 : Int → Heap → Prop) (M2 : Int → Heap → Nat), I2 x5 h ∧ ∀ h1 (x5_1 : Int), I2 x5_1 h1 → F19_b2 I2 M2 (M2 x5_1 h1) a0_0 n0_1 n0_2 a1_0 n1_1 n1_2 x5_1 h1 R
def F19 (a0 : Option Addr) (l0 : Nat) (c0 : Nat) (a1 : Option Addr) (l1 : Nat) (c1 : Nat) (h : Heap) (R : Value → Heap → Prop) : Prop :=
  br (((l0 : Int) : Int) != (l1 : Int)) (R (Value.bool false) h) (F19_k1 a0 l0 c0 a1 l1 c1 h R)
def A19 : Ann := { bind := [5], loops := [(4, [(5, .int .i64)])], draws := [(6, 0, 9)] }
theorem F19_ent (a0 : Option Addr) (l0 : Nat) (c0 : Nat) (a1 : Option Addr) (l1 : Nat) (c1 : Nat) (h : Heap) (R : Value → Heap → Prop) (H : F19 a0 l0 c0 a1 l1 c1 h R) : HEnt Tryd.prog 19 #[Value.slice a0 l0 c0, Value.slice a1 l1 c1] h R :=
  hent A19 mixed Tryd.func19 rfl (by kernel_rfl) (by kernel_rfl) (Eq.mp (by kernel_rfl) H)

/-! ### 21 veneer/layer.Encode -/
def F21_k4 (I2 : Option Addr → Nat → Nat → Int → Heap → Prop) (M2 : Option Addr → Nat → Nat → Int → Heap → Nat) (m2 : Nat) (a6_0 : Option Addr) (n6_1 : Nat) (n6_2 : Nat) (a24_0 : Option Addr) (n24_1 : Nat) (n24_2 : Nat) (x25 : Int) (x26 : Int) (h : Heap) (R : Value → Heap → Prop) : Prop :=
  I2 a6_0 n6_1 n6_2 (IntKind.i64.wrap (x26 + 1)) h ∧ M2 a6_0 n6_1 n6_2 (IntKind.i64.wrap (x26 + 1)) h < m2
def F21_k3 (I2 : Option Addr → Nat → Nat → Int → Heap → Prop) (M2 : Option Addr → Nat → Nat → Int → Heap → Nat) (m2 : Nat) (a6_0 : Option Addr) (n6_1 : Nat) (n6_2 : Nat) (a24_0 : Option Addr) (n24_1 : Nat) (n24_2 : Nat) (x25 : Int) (x26 : Int) (h : Heap) (R : Value → Heap → Prop) : Prop :=
  ∃ q28 : Addr, a24_0 = some q28 ∧ (0 : Int) ≤ x26 ∧ x26 < (n24_1 : Int) ∧ ∃ s29_0 : ByteArray, ∃ x29_1 : Int, ∃ x29_2 : Int, ∃ s29_3 : ByteArray, Vc.cell h ((q28.add (x26.toNat * 4)).add 0) = some (Value.string s29_0) ∧ Vc.cell h ((q28.add (x26.toNat * 4)).add 1) = some (Value.int .i64 x29_1) ∧ Vc.cell h ((q28.add (x26.toNat * 4)).add 2) = some (Value.int .i64 x29_2) ∧ Vc.cell h ((q28.add (x26.toNat * 4)).add 3) = some (Value.string s29_3) ∧ 4 = 4 ∧ newK h (.cells (zeroC Tryd.prog 30) 30) fun b8 h1 => storeK 4 h1 (at0 b8) (Value.agg #[Value.string s29_0, Value.int .i64 x29_1, Value.int .i64 x29_2, Value.string s29_3]) fun h2 => ∃ x32 : Int, Vc.cell h2 ((at0 b8).add 1) = some (Value.int .i64 x32) ∧ ∃ x35 : Int, Vc.cell h2 ((at0 b8).add 2) = some (Value.int .i64 x35) ∧ (0 : Int) ≤ 8 ∧ ∃ x39 : Int, Vc.cell h2 ((at0 b8).add 2) = some (Value.int .i64 x39) ∧ 3 * 1 ≤ 16777216 ∧ newK h2 (.cells #[Value.int .u8 (IntKind.u8.wrap x32), Value.int .u8 (IntKind.u8.wrap (shrI .i64 x35 8)), Value.int .u8 (IntKind.u8.wrap x39)] 5) fun b41 h3 => appK Tryd.prog 5 h3 a6_0 n6_1 n6_2 (Value.slice (some (at0 b41)) 3 3) fun a42 l42 c42 h4 => ∃ s45 : ByteArray, Vc.cell h4 ((at0 b8).add 0) = some (Value.string s45) ∧ HCalls Tryd.prog 36 #[Value.slice a42 l42 c42, Value.string s45] h4 fun r46 h5 => ∃ a46 : Option Addr, ∃ l46 : Nat, ∃ c46 : Nat, r46 = Value.slice a46 l46 c46 ∧ ∃ x48 : Int, Vc.cell h5 ((at0 b8).add 1) = some (Value.int .i64 x48) ∧ br ((x48 : Int) == 1) (∃ s52 : ByteArray, Vc.cell h5 ((at0 b8).add 3) = some (Value.string s52) ∧ HCalls Tryd.prog 36 #[Value.slice a46 l46 c46, Value.string s52] h5 fun r53 h6 => ∃ a53 : Option Addr, ∃ l53 : Nat, ∃ c53 : Nat, r53 = Value.slice a53 l53 c53 ∧ F21_k4 I2 M2 m2 a53 l53 c53 a24_0 n24_1 n24_2 x25 x26 h6 R) (F21_k4 I2 M2 m2 a46 l46 c46 a24_0 n24_1 n24_2 x25 x26 h5 R)
def F21_k5 (a6_0 : Option Addr) (n6_1 : Nat) (n6_2 : Nat) (h : Heap) (R : Value → Heap → Prop) : Prop :=
  R (Value.tuple #[Value.slice a6_0 n6_1 n6_2, Value.int .i64 0]) h
def F21_b2 (I2 : Option Addr → Nat → Nat → Int → Heap → Prop) (M2 : Option Addr → Nat → Nat → Int → Heap → Nat) (m2 : Nat) (a6_0 : Option Addr) (n6_1 : Nat) (n6_2 : Nat) (a24_0 : Option Addr) (n24_1 : Nat) (n24_2 : Nat) (x25 : Int) (x26 : Int) (h : Heap) (R : Value → Heap → Prop) : Prop :=
  br (decide ((x26 : Int) < x25)) (F21_k3 I2 M2 m2 a6_0 n6_1 n6_2 a24_0 n24_1 n24_2 x25 x26 h R) (F21_k5 a6_0 n6_1 n6_2 h R)
def F21_k1 (a0_0 : Option Addr) (n0_1 : Nat) (n0_2 : Nat) (h : Heap) (R : Value → Heap → Prop) : Prop :=
  3 * 1 ≤ 16777216 ∧ newK h (.cells #[Value.int .u8 86, Value.int .u8 76, Value.int .u8 1] 5) fun b17 h1 => markK h1 (at0 b17).block fun h2 => HCalls Tryd.prog 35 #[Value.int .u64 (IntKind.u64.wrap (n0_1 : Int))] h2 fun r22 h3 => ∃ a22 : Option Addr, ∃ l22 : Nat, ∃ c22 : Nat, r22 = Value.slice a22 l22 c22 ∧ appK Tryd.prog 5 h3 (some (at0 b17)) 3 3 (Value.slice a22 l22 c22) fun a23 l23 c23 h4 => ∃ (I2 : Option Addr → Nat → Nat → Int → Heap → Prop) (M2 : Option Addr → Nat → Nat → Int → Heap → Nat), I2 a23 l23 c23 0 h4 ∧ ∀ h5 (a6 : Option Addr) (l6 c6 : Nat) (x26 : Int), I2 a6 l6 c6 x26 h5 → F21_b2 I2 M2 (M2 a6 l6 c6 x26 h5) a6 l6 c6 a0_0 n0_1 n0_2 (n0_1 : Int) x26 h5 R
def F21 (a0 : Option Addr) (l0 : Nat) (c0 : Nat) (h : Heap) (R : Value → Heap → Prop) : Prop :=
  HCalls Tryd.prog 10 #[Value.slice a0 l0 c0] h fun r11 h1 => ∃ x11_0 : Int, ∃ x11_1 : Int, r11 = Value.tuple #[Value.int .i64 x11_0, Value.int .i64 x11_1] ∧ br ((x11_1 : Int) != 0) (R (Value.tuple #[Value.slice none 0 0, Value.int .i64 x11_1]) h1) (F21_k1 a0 l0 c0 h1 R)
def A21 : Ann := { loops := [(6, [(6, .slice), (26, .int .i64)])] }
theorem F21_ent (a0 : Option Addr) (l0 : Nat) (c0 : Nat) (h : Heap) (R : Value → Heap → Prop) (H : F21 a0 l0 c0 h R) : HEnt Tryd.prog 21 #[Value.slice a0 l0 c0] h R :=
  hent A21 mixed Tryd.func21 rfl (by kernel_rfl) (by kernel_rfl) (Eq.mp (by kernel_rfl) H)

/-! ### 26 veneer/layer.alone -/
def F26_k7 (h : Heap) (R : Value → Heap → Prop) : Prop :=
  R (Value.int .i64 0) h
def F26_k6 (q1 : Addr) (h : Heap) (R : Value → Heap → Prop) : Prop :=
  ∃ s43 : ByteArray, Vc.cell h (q1.add 3) = some (Value.string s43) ∧ br (!(seq s43 (⟨#[]⟩ : ByteArray))) (R (Value.int .i64 5) h) (F26_k7 h R)
def F26_k5 (q1 : Addr) (b41 : Bool) (h : Heap) (R : Value → Heap → Prop) : Prop :=
  br b41 (R (Value.int .i64 2) h) (F26_k6 q1 h R)
def F26_k4 (q1 : Addr) (x5 : Int) (h : Heap) (R : Value → Heap → Prop) : Prop :=
  ∃ x34 : Int, Vc.cell h (q1.add 2) = some (Value.int .i64 x34) ∧ br (decide ((x34 : Int) < 0)) (F26_k5 q1 true h R) (∃ x38 : Int, Vc.cell h (q1.add 2) = some (Value.int .i64 x38) ∧ F26_k5 q1 (decide ((x38 : Int) > x5)) h R)
def F26_k3 (q1 : Addr) (h : Heap) (R : Value → Heap → Prop) : Prop :=
  F26_k4 q1 0 h R
def F26_k13 (q1 : Addr) (h : Heap) (R : Value → Heap → Prop) : Prop :=
  ∃ s55 : ByteArray, Vc.cell h (q1.add 3) = some (Value.string s55) ∧ br (decide (((s55.size : Int) : Int) > 256)) (R (Value.int .i64 3) h) (F26_k7 h R)
def F26_k12 (q1 : Addr) (b53 : Bool) (h : Heap) (R : Value → Heap → Prop) : Prop :=
  br b53 (R (Value.int .i64 2) h) (F26_k13 q1 h R)
def F26_k11 (q1 : Addr) (x5 : Int) (h : Heap) (R : Value → Heap → Prop) : Prop :=
  ∃ x46 : Int, Vc.cell h (q1.add 2) = some (Value.int .i64 x46) ∧ br (decide ((x46 : Int) < 0)) (F26_k12 q1 true h R) (∃ x50 : Int, Vc.cell h (q1.add 2) = some (Value.int .i64 x50) ∧ F26_k12 q1 (decide ((x50 : Int) > x5)) h R)
def F26_k14 (h : Heap) (R : Value → Heap → Prop) : Prop :=
  R (Value.int .i64 13) h
def F26_k10 (q1 : Addr) (x5 : Int) (x25 : Int) (h : Heap) (R : Value → Heap → Prop) : Prop :=
  br ((x25 : Int) == 1) (F26_k11 q1 x5 h R) (F26_k14 h R)
def F26_k9 (q1 : Addr) (x5 : Int) (x25 : Int) (b28 : Bool) (h : Heap) (R : Value → Heap → Prop) : Prop :=
  br b28 (F26_k4 q1 x5 h R) (F26_k10 q1 x5 x25 h R)
def F26_k8 (q1 : Addr) (x5 : Int) (x25 : Int) (h : Heap) (R : Value → Heap → Prop) : Prop :=
  br ((x25 : Int) == 2) (F26_k9 q1 x5 x25 ((x25 : Int) == 2) h R) (F26_k9 q1 x5 x25 ((x25 : Int) == 4) h R)
def F26_k2 (q1 : Addr) (h : Heap) (R : Value → Heap → Prop) : Prop :=
  ∃ x25 : Int, Vc.cell h (q1.add 1) = some (Value.int .i64 x25) ∧ br ((x25 : Int) == 3) (F26_k3 q1 h R) (F26_k8 q1 511 x25 h R)
def F26_k1 (q1 : Addr) (b23 : Bool) (h : Heap) (R : Value → Heap → Prop) : Prop :=
  br b23 (R (Value.int .i64 12) h) (F26_k2 q1 h R)
def F26 (s0_0 : ByteArray) (x0_1 : Int) (x0_2 : Int) (s0_3 : ByteArray) (h : Heap) (R : Value → Heap → Prop) : Prop :=
  newK h (.cells #[Value.string s0_0, Value.int .i64 x0_1, Value.int .i64 x0_2, Value.string s0_3] 30) fun b1 h1 => ∃ s8 : ByteArray, Vc.cell h1 ((at0 b1).add 0) = some (Value.string s8) ∧ HCalls Tryd.prog 12 #[Value.string s8] h1 fun r9 h2 => ∃ s9_0 : ByteArray, ∃ x9_1 : Int, r9 = Value.tuple #[Value.string s9_0, Value.int .i64 x9_1] ∧ br ((x9_1 : Int) != 0) (F26_k1 (at0 b1) true h2 R) (∃ s17 : ByteArray, Vc.cell h2 ((at0 b1).add 0) = some (Value.string s17) ∧ br (!(seq s9_0 s17)) (F26_k1 (at0 b1) true h2 R) (F26_k1 (at0 b1) (seq s9_0 (⟨#[]⟩ : ByteArray)) h2 R))
def A26 : Ann := {  }
theorem F26_ent (s0_0 : ByteArray) (x0_1 : Int) (x0_2 : Int) (s0_3 : ByteArray) (h : Heap) (R : Value → Heap → Prop) (H : F26 s0_0 x0_1 x0_2 s0_3 h R) : HEnt Tryd.prog 26 #[Value.agg #[Value.string s0_0, Value.int .i64 x0_1, Value.int .i64 x0_2, Value.string s0_3]] h R :=
  hent A26 mixed Tryd.func26 rfl (by kernel_rfl) (by kernel_rfl) (Eq.mp (by kernel_rfl) H)

/-! ### 30 veneer/veneerref06.wrong -/
def F30_k15 (I12 : Int → Heap → Prop) (M12 : Int → Heap → Nat) (m12 : Nat) (a0_0 : Option Addr) (n0_1 : Nat) (n0_2 : Nat) (x1 : Int) (q5 : Addr) (x6 : Int) (h : Heap) (R : Value → Heap → Prop) : Prop :=
  I12 (IntKind.i64.wrap (x6 + 1)) h ∧ M12 (IntKind.i64.wrap (x6 + 1)) h < m12
def F30_k14 (I12 : Int → Heap → Prop) (M12 : Int → Heap → Nat) (m12 : Nat) (a0_0 : Option Addr) (n0_1 : Nat) (n0_2 : Nat) (x1 : Int) (q5 : Addr) (x6 : Int) (b100 : Bool) (h : Heap) (R : Value → Heap → Prop) : Prop :=
  br b100 (R (Value.int .i64 11) h) (F30_k15 I12 M12 m12 a0_0 n0_1 n0_2 x1 q5 x6 h R)
def F30_k13 (I12 : Int → Heap → Prop) (M12 : Int → Heap → Nat) (m12 : Nat) (a0_0 : Option Addr) (n0_1 : Nat) (n0_2 : Nat) (x1 : Int) (q5 : Addr) (x6 : Int) (h : Heap) (R : Value → Heap → Prop) : Prop :=
  ∃ q79 : Addr, a0_0 = some q79 ∧ (0 : Int) ≤ x6 ∧ x6 < (n0_1 : Int) ∧ ∃ x81 : Int, Vc.cell h ((q79.add (x6.toNat * 4)).add 1) = some (Value.int .i64 x81) ∧ br ((x81 : Int) == 1) (∃ q94 : Addr, a0_0 = some q94 ∧ (0 : Int) ≤ x6 ∧ x6 < (n0_1 : Int) ∧ ∃ s96 : ByteArray, Vc.cell h ((q94.add (x6.toNat * 4)).add 0) = some (Value.string s96) ∧ ∃ s98 : ByteArray, Vc.cell h (q5.add 0) = some (Value.string s98) ∧ ∃ b99 : Bool, (∀ h1, Cls false h h1 → HEnt Tryd.prog 49 #[Value.string s96, Value.string s98] h1 fun v h2 => v = Value.bool b99 ∧ Cls false h1 h2) ∧ ∀ h1, Cls false h h1 → F30_k14 I12 M12 m12 a0_0 n0_1 n0_2 x1 q5 x6 b99 h1 R) (∃ q86 : Addr, a0_0 = some q86 ∧ (0 : Int) ≤ x6 ∧ x6 < (n0_1 : Int) ∧ ∃ x88 : Int, Vc.cell h ((q86.add (x6.toNat * 4)).add 1) = some (Value.int .i64 x88) ∧ br ((x88 : Int) == 3) (∃ q94 : Addr, a0_0 = some q94 ∧ (0 : Int) ≤ x6 ∧ x6 < (n0_1 : Int) ∧ ∃ s96 : ByteArray, Vc.cell h ((q94.add (x6.toNat * 4)).add 0) = some (Value.string s96) ∧ ∃ s98 : ByteArray, Vc.cell h (q5.add 0) = some (Value.string s98) ∧ ∃ b99 : Bool, (∀ h1, Cls false h h1 → HEnt Tryd.prog 49 #[Value.string s96, Value.string s98] h1 fun v h2 => v = Value.bool b99 ∧ Cls false h1 h2) ∧ ∀ h1, Cls false h h1 → F30_k14 I12 M12 m12 a0_0 n0_1 n0_2 x1 q5 x6 b99 h1 R) (∀ h1, Cls false h h1 → F30_k14 I12 M12 m12 a0_0 n0_1 n0_2 x1 q5 x6 false h1 R))
def F30_k16 (h : Heap) (R : Value → Heap → Prop) : Prop :=
  R (Value.int .i64 0) h
def F30_b12 (I12 : Int → Heap → Prop) (M12 : Int → Heap → Nat) (m12 : Nat) (a0_0 : Option Addr) (n0_1 : Nat) (n0_2 : Nat) (x1 : Int) (q5 : Addr) (x6 : Int) (h : Heap) (R : Value → Heap → Prop) : Prop :=
  br (decide ((x6 : Int) < x1)) (F30_k13 I12 M12 m12 a0_0 n0_1 n0_2 x1 q5 x6 h R) (F30_k16 h R)
def F30_k11 (a0_0 : Option Addr) (n0_1 : Nat) (n0_2 : Nat) (x1 : Int) (q5 : Addr) (h : Heap) (R : Value → Heap → Prop) : Prop :=
  ∃ (I12 : Int → Heap → Prop) (M12 : Int → Heap → Nat), I12 0 h ∧ ∀ h1 (x6 : Int), I12 x6 h1 → F30_b12 I12 M12 (M12 x6 h1) a0_0 n0_1 n0_2 x1 q5 x6 h1 R
def F30_k10 (a0_0 : Option Addr) (n0_1 : Nat) (n0_2 : Nat) (x1 : Int) (q5 : Addr) (b71 : Bool) (h : Heap) (R : Value → Heap → Prop) : Prop :=
  br b71 (R (Value.int .i64 14) h) (F30_k11 a0_0 n0_1 n0_2 x1 q5 h R)
def F30_k9 (a0_0 : Option Addr) (n0_1 : Nat) (n0_2 : Nat) (x1 : Int) (q5 : Addr) (h : Heap) (R : Value → Heap → Prop) : Prop :=
  br (decide ((x1 : Int) > 0)) (∃ q64 : Addr, a0_0 = some q64 ∧ (0 : Int) ≤ IntKind.i64.wrap (x1 - 1) ∧ IntKind.i64.wrap (x1 - 1) < (n0_1 : Int) ∧ ∃ s66 : ByteArray, Vc.cell h ((q64.add (((IntKind.i64.wrap (x1 - 1)).toNat) * 4)).add 0) = some (Value.string s66) ∧ ∃ s68 : ByteArray, Vc.cell h (q5.add 0) = some (Value.string s68) ∧ ∃ b69 : Bool, (∀ h1, Cls true h h1 → HEnt Tryd.prog 48 #[Value.string s66, Value.string s68] h1 fun v h2 => v = Value.bool b69 ∧ Cls true h1 h2) ∧ ∀ h1, Cls true h h1 → F30_k10 a0_0 n0_1 n0_2 x1 q5 (!b69) h1 R) (∀ h1, Cls true h h1 → F30_k10 a0_0 n0_1 n0_2 x1 q5 false h1 R)
def F30_k8 (a0_0 : Option Addr) (n0_1 : Nat) (n0_2 : Nat) (x1 : Int) (q5 : Addr) (h : Heap) (R : Value → Heap → Prop) : Prop :=
  ∃ s55 : ByteArray, Vc.cell h (q5.add 3) = some (Value.string s55) ∧ br (decide (((s55.size : Int) : Int) > 256)) (R (Value.int .i64 3) h) (F30_k9 a0_0 n0_1 n0_2 x1 q5 h R)
def F30_k7 (a0_0 : Option Addr) (n0_1 : Nat) (n0_2 : Nat) (x1 : Int) (q5 : Addr) (b53 : Bool) (h : Heap) (R : Value → Heap → Prop) : Prop :=
  br b53 (R (Value.int .i64 5) h) (F30_k8 a0_0 n0_1 n0_2 x1 q5 h R)
def F30_k6 (a0_0 : Option Addr) (n0_1 : Nat) (n0_2 : Nat) (x1 : Int) (q5 : Addr) (h : Heap) (R : Value → Heap → Prop) : Prop :=
  ∃ x47 : Int, Vc.cell h (q5.add 1) = some (Value.int .i64 x47) ∧ br ((x47 : Int) != 1) (∃ s51 : ByteArray, Vc.cell h (q5.add 3) = some (Value.string s51) ∧ F30_k7 a0_0 n0_1 n0_2 x1 q5 (!(seq s51 (⟨#[]⟩ : ByteArray))) h R) (F30_k7 a0_0 n0_1 n0_2 x1 q5 false h R)
def F30_k5 (a0_0 : Option Addr) (n0_1 : Nat) (n0_2 : Nat) (x1 : Int) (q5 : Addr) (b45 : Bool) (h : Heap) (R : Value → Heap → Prop) : Prop :=
  br b45 (R (Value.int .i64 2) h) (F30_k6 a0_0 n0_1 n0_2 x1 q5 h R)
def F30_k4 (a0_0 : Option Addr) (n0_1 : Nat) (n0_2 : Nat) (x1 : Int) (q5 : Addr) (h : Heap) (R : Value → Heap → Prop) : Prop :=
  ∃ x29 : Int, Vc.cell h (q5.add 2) = some (Value.int .i64 x29) ∧ br (decide ((x29 : Int) < 0)) (F30_k5 a0_0 n0_1 n0_2 x1 q5 true h R) (∃ x33 : Int, Vc.cell h (q5.add 2) = some (Value.int .i64 x33) ∧ br (decide ((x33 : Int) > 511)) (F30_k5 a0_0 n0_1 n0_2 x1 q5 true h R) (∃ x38 : Int, Vc.cell h (q5.add 1) = some (Value.int .i64 x38) ∧ br ((x38 : Int) == 3) (∃ x42 : Int, Vc.cell h (q5.add 2) = some (Value.int .i64 x42) ∧ F30_k5 a0_0 n0_1 n0_2 x1 q5 ((x42 : Int) != 0) h R) (F30_k5 a0_0 n0_1 n0_2 x1 q5 false h R)))
def F30_k3 (a0_0 : Option Addr) (n0_1 : Nat) (n0_2 : Nat) (x1 : Int) (q5 : Addr) (b27 : Bool) (h : Heap) (R : Value → Heap → Prop) : Prop :=
  br b27 (R (Value.int .i64 13) h) (F30_k4 a0_0 n0_1 n0_2 x1 q5 h R)
def F30_k2 (a0_0 : Option Addr) (n0_1 : Nat) (n0_2 : Nat) (x1 : Int) (q5 : Addr) (h : Heap) (R : Value → Heap → Prop) : Prop :=
  ∃ x21 : Int, Vc.cell h (q5.add 1) = some (Value.int .i64 x21) ∧ br (decide ((x21 : Int) < 1)) (F30_k3 a0_0 n0_1 n0_2 x1 q5 true h R) (∃ x25 : Int, Vc.cell h (q5.add 1) = some (Value.int .i64 x25) ∧ F30_k3 a0_0 n0_1 n0_2 x1 q5 (decide ((x25 : Int) > 4)) h R)
def F30_k1 (a0_0 : Option Addr) (n0_1 : Nat) (n0_2 : Nat) (x1 : Int) (q5 : Addr) (b19 : Bool) (h : Heap) (R : Value → Heap → Prop) : Prop :=
  br b19 (R (Value.int .i64 12) h) (F30_k2 a0_0 n0_1 n0_2 x1 q5 h R)
def F30 (a0 : Option Addr) (l0 : Nat) (c0 : Nat) (x1 : Int) (h : Heap) (R : Value → Heap → Prop) : Prop :=
  ∃ q9 : Addr, a0 = some q9 ∧ (0 : Int) ≤ x1 ∧ x1 < (l0 : Int) ∧ ∃ s10_0 : ByteArray, ∃ x10_1 : Int, ∃ x10_2 : Int, ∃ s10_3 : ByteArray, Vc.cell h ((q9.add (x1.toNat * 4)).add 0) = some (Value.string s10_0) ∧ Vc.cell h ((q9.add (x1.toNat * 4)).add 1) = some (Value.int .i64 x10_1) ∧ Vc.cell h ((q9.add (x1.toNat * 4)).add 2) = some (Value.int .i64 x10_2) ∧ Vc.cell h ((q9.add (x1.toNat * 4)).add 3) = some (Value.string s10_3) ∧ 4 = 4 ∧ newK h (.cells (zeroC Tryd.prog 30) 30) fun b5 h1 => storeK 4 h1 (at0 b5) (Value.agg #[Value.string s10_0, Value.int .i64 x10_1, Value.int .i64 x10_2, Value.string s10_3]) fun h2 => ∃ s12 : ByteArray, Vc.cell h2 ((at0 b5).add 0) = some (Value.string s12) ∧ br (seq s12 (⟨#[]⟩ : ByteArray)) (F30_k1 a0 l0 c0 x1 (at0 b5) true h2 R) (∃ s16 : ByteArray, Vc.cell h2 ((at0 b5).add 0) = some (Value.string s16) ∧ HCalls Tryd.prog 47 #[Value.string s16] h2 fun r17 h3 => ∃ b17 : Bool, r17 = Value.bool b17 ∧ F30_k1 a0 l0 c0 x1 (at0 b5) (!b17) h3 R)
def A30 : Ann := { loops := [(15, [(6, .int .i64)])], draws := [(12, 1, 14), (17, 0, 24)] }
theorem F30_ent (a0 : Option Addr) (l0 : Nat) (c0 : Nat) (x1 : Int) (h : Heap) (R : Value → Heap → Prop) (H : F30 a0 l0 c0 x1 h R) : HEnt Tryd.prog 30 #[Value.slice a0 l0 c0, Value.int .i64 x1] h R :=
  hent A30 mixed Tryd.func30 rfl (by kernel_rfl) (by kernel_rfl) (Eq.mp (by kernel_rfl) H)

/-! ### 35 veneer/num.Var -/
def F35_k2 (I1 : Int → Option Addr → Nat → Nat → Heap → Prop) (M1 : Int → Option Addr → Nat → Nat → Heap → Nat) (m1 : Nat) (x0 : Int) (a3_0 : Option Addr) (n3_1 : Nat) (n3_2 : Nat) (h : Heap) (R : Value → Heap → Prop) : Prop :=
  1 * 1 ≤ 16777216 ∧ newK h (.cells #[Value.int .u8 (orI .u8 (IntKind.u8.wrap x0) 128)] 5) fun b10 h1 => appK Tryd.prog 5 h1 a3_0 n3_1 n3_2 (Value.slice (some (at0 b10)) 1 1) fun a11 l11 c11 h2 => (0 : Int) ≤ 7 ∧ ∀ x0_1 : Int, x0_1 = shrI .u64 x0 7 → I1 x0_1 a11 l11 c11 h2 ∧ M1 x0_1 a11 l11 c11 h2 < m1
def F35_k3 (x0 : Int) (a3_0 : Option Addr) (n3_1 : Nat) (n3_2 : Nat) (h : Heap) (R : Value → Heap → Prop) : Prop :=
  1 * 1 ≤ 16777216 ∧ newK h (.cells #[Value.int .u8 (IntKind.u8.wrap x0)] 5) fun b17 h1 => appK Tryd.prog 5 h1 a3_0 n3_1 n3_2 (Value.slice (some (at0 b17)) 1 1) fun a18 l18 c18 h2 => R (Value.slice a18 l18 c18) h2
def F35_b1 (I1 : Int → Option Addr → Nat → Nat → Heap → Prop) (M1 : Int → Option Addr → Nat → Nat → Heap → Nat) (m1 : Nat) (x0 : Int) (a2_0 : Option Addr) (n2_1 : Nat) (n2_2 : Nat) (a3_0 : Option Addr) (n3_1 : Nat) (n3_2 : Nat) (h : Heap) (R : Value → Heap → Prop) : Prop :=
  br (decide ((x0 : Int) ≥ 128)) (F35_k2 I1 M1 m1 x0 a3_0 n3_1 n3_2 h R) (F35_k3 x0 a3_0 n3_1 n3_2 h R)
def F35 (x0 : Int) (h : Heap) (R : Value → Heap → Prop) : Prop :=
  ∃ (I1 : Int → Option Addr → Nat → Nat → Heap → Prop) (M1 : Int → Option Addr → Nat → Nat → Heap → Nat), I1 x0 none 0 0 h ∧ ∀ h1 (x0_1 : Int) (a3 : Option Addr) (l3 c3 : Nat), I1 x0_1 a3 l3 c3 h1 → F35_b1 I1 M1 (M1 x0_1 a3 l3 c3 h1) x0_1 none 0 0 a3 l3 c3 h1 R
def A35 : Ann := { bind := [0], loops := [(2, [(0, .int .u64), (3, .slice)])] }
theorem F35_ent (x0 : Int) (h : Heap) (R : Value → Heap → Prop) (H : F35 x0 h R) : HEnt Tryd.prog 35 #[Value.int .u64 x0] h R :=
  hent A35 mixed Tryd.func35 rfl (by kernel_rfl) (by kernel_rfl) (Eq.mp (by kernel_rfl) H)

/-! ### 36 veneer/layer.text -/
def F36 (a0 : Option Addr) (l0 : Nat) (c0 : Nat) (s1 : ByteArray) (h : Heap) (R : Value → Heap → Prop) : Prop :=
  HCalls Tryd.prog 35 #[Value.int .u64 (IntKind.u64.wrap (s1.size : Int))] h fun r9 h1 => ∃ a9 : Option Addr, ∃ l9 : Nat, ∃ c9 : Nat, r9 = Value.slice a9 l9 c9 ∧ appK Tryd.prog 5 h1 a0 l0 c0 (Value.slice a9 l9 c9) fun a10 l10 c10 h2 => appK Tryd.prog 5 h2 a10 l10 c10 (Value.string s1) fun a12 l12 c12 h3 => R (Value.slice a12 l12 c12) h3
def A36 : Ann := {  }
theorem F36_ent (a0 : Option Addr) (l0 : Nat) (c0 : Nat) (s1 : ByteArray) (h : Heap) (R : Value → Heap → Prop) (H : F36 a0 l0 c0 s1 h R) : HEnt Tryd.prog 36 #[Value.slice a0 l0 c0, Value.string s1] h R :=
  hent A36 mixed Tryd.func36 rfl (by kernel_rfl) (by kernel_rfl) (Eq.mp (by kernel_rfl) H)

end Go.Proofs.YtnahhdkekchmfaaDoor
