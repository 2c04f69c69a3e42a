import Derived.Test.YtfknpbgneeefjaaDoorProg
import Derived.Test.YtfknpbgneeefjaaDoorVppA
import Derived.Test.YtfknpbgneeefjaaDoorVxpC

set_option linter.unusedVariables false
set_option maxRecDepth 100000
namespace Go.Proofs.YtfknpbgneeefjaaDoor
open Go.Vc
/-! ### 33 veneer/manifest.Order -/
def F33_r1 (rec_ : LoopState → Option Code → Obj) (l : Nat) (q4 : Addr) (s13 : ByteArray) (s14 : ByteArray) (h : Heap) (R : Value → Heap → Prop) : Prop :=
  h[l]? = some (rec_ .ready none) ∧ h[l]? = some (rec_ .ready none) ∧ ∀ h1, h1 = Array.setIfInBounds h l (rec_ .busy none) → HCalls Tryd.prog 54 #[Value.string s13, Value.string s14] h1 fun r17 h2 => ∃ x17 : Int, r17 = Value.int .i64 x17 ∧ br ((x17 : Int) != 0) (storeK 1 h2 q4 (Value.int .i64 x17) fun h3 => h3[l]? = some (rec_ .busy none) ∧ ∀ h4, h4 = Array.setIfInBounds h3 l (rec_ .done (some .ret)) → R (Value.bool false) h4) (h2[l]? = some (rec_ .busy none) ∧ ∀ h3, h3 = Array.setIfInBounds h2 l (rec_ .ready (none)) → R (Value.bool true) h3)
def F33_k3 (nk1 : Nat) (q4 : Addr) (h : Heap) (R : Value → Heap → Prop) : Prop :=
  storeK 1 h q4 (Value.int .i64 0) fun h1 => h1[nk1]? = some (.deferred (some [])) ∧ ∀ h2, h2 = Array.setIfInBounds h1 nk1 (.deferred none) → ∃ xr0 : Int, Vc.cell h2 q4 = some (Value.int .i64 xr0) ∧ R (Value.int .i64 xr0) h2
def F33_k2 (nk1 : Nat) (s0 : ByteArray) (s1 : ByteArray) (q4 : Addr) (h : Heap) (R : Value → Heap → Prop) : Prop :=
  HCalls Tryd.prog 55 #[Value.string s0, Value.string (⟨#[46]⟩ : ByteArray)] h fun r22 h1 => ∃ x22 : Int, r22 = Value.int .i64 x22 ∧ HCalls Tryd.prog 55 #[Value.string s1, Value.string (⟨#[46]⟩ : ByteArray)] h1 fun r24 h2 => ∃ x24 : Int, r24 = Value.int .i64 x24 ∧ br (decide ((x22 : Int) < x24)) (storeK 1 h2 q4 (Value.int .i64 (-1)) fun h3 => h3[nk1]? = some (.deferred (some [])) ∧ ∀ h4, h4 = Array.setIfInBounds h3 nk1 (.deferred none) → ∃ xr0 : Int, Vc.cell h4 q4 = some (Value.int .i64 xr0) ∧ R (Value.int .i64 xr0) h4) (br (decide ((x22 : Int) > x24)) (storeK 1 h2 q4 (Value.int .i64 1) fun h3 => h3[nk1]? = some (.deferred (some [])) ∧ ∀ h4, h4 = Array.setIfInBounds h3 nk1 (.deferred none) → ∃ xr0 : Int, Vc.cell h4 q4 = some (Value.int .i64 xr0) ∧ R (Value.int .i64 xr0) h4) (F33_k3 nk1 q4 h2 R))
def F33 (s0 : ByteArray) (s1 : ByteArray) (h : Heap) (R : Value → Heap → Prop) : Prop :=
  newK h (.cells (zeroC Tryd.prog 3) 3) fun b4 h1 => HCalls Tryd.prog 53 #[Value.string s0, Value.string s1] h1 fun r12 h2 => ∃ v12 : Value, r12 = v12 ∧ ∃ q12_0 : Addr, ∃ q12_1 : Addr, v12 = Value.func (.func 66) #[] #[Value.pointer (some q12_0), Value.pointer (some q12_1)] ∧ ∀ (rec_ : LoopState → Option Code → Obj) (b l : Nat) (h3 : Heap), b = h2.size → l = h2.size + 1 → Ext h2 h3 → h3[b]? = some (.deferred (some [])) → h3[l]? = some (rec_ .ready none) → (∀ st pd, noCells (rec_ st pd)) → (∀ (s13 : ByteArray) (s14 : ByteArray) (h4 : Heap) (R1 : Value → Heap → Prop), F33_r1 rec_ l (at0 b4) s13 s14 h4 R1 → HYield Tryd.prog l #[Value.string s13, Value.string s14] h4 R1) → HEnt Tryd.prog 66 #[Value.func (.yield l) #[] #[], Value.pointer (some q12_0), Value.pointer (some q12_1)] h3 fun _ h5 => ∃ st pd, h5[l]? = some (rec_ st pd) ∧ st ≠ .busy ∧ ∀ h6, h6 = Array.setIfInBounds h5 l (rec_ .exhausted pd) → pendQ pd (F33_k2 b s0 s1 (at0 b4) h6 R) (h6[b]? = some (.deferred (some [])) ∧ ∀ h7, h7 = Array.setIfInBounds h6 b (.deferred none) → ∃ xr0 : Int, Vc.cell h7 (at0 b4) = some (Value.int .i64 xr0) ∧ R (Value.int .i64 xr0) h7) (fun i => selQ (Nat.beq i 0) (F33_k2 b s0 s1 (at0 b4) h6 R) (False))
def A33 : Ann := { fns := [(12, 66, 2)], rngs := [(4, [(13, .str), (14, .str)])] }
theorem F33_ent (s0 : ByteArray) (s1 : ByteArray) (h : Heap) (R : Value → Heap → Prop) (H : F33 s0 s1 h R) : HEnt Tryd.prog 33 #[Value.string s0, Value.string s1] h R :=
  hentT A33 mixed Tryd.func33 rfl (by kernel_rfl) (by kernel_rfl) (Eq.mp (by kernel_rfl) H)

/-! ### 35 veneer/veneerref07.Order -/
def F35_k4 (I1 : Int → Heap → Prop) (M1 : Int → Heap → Nat) (m1 : Nat) (a5_0 : Option Addr) (n5_1 : Nat) (n5_2 : Nat) (a6_0 : Option Addr) (n6_1 : Nat) (n6_2 : Nat) (x7 : Int) (h : Heap) (R : Value → Heap → Prop) : Prop :=
  I1 (IntKind.i64.wrap (x7 + 1)) h ∧ M1 (IntKind.i64.wrap (x7 + 1)) h < m1
def F35_k10 (I1 : Int → Heap → Prop) (M1 : Int → Heap → Nat) (m1 : Nat) (a5_0 : Option Addr) (n5_1 : Nat) (n5_2 : Nat) (a6_0 : Option Addr) (n6_1 : Nat) (n6_2 : Nat) (x7 : Int) (h : Heap) (R : Value → Heap → Prop) : Prop :=
  ∃ q87 : Addr, a5_0 = some q87 ∧ (0 : Int) ≤ x7 ∧ x7 < (n5_1 : Int) ∧ ∃ s88 : ByteArray, Vc.cell h (q87.add (x7.toNat * 1)) = some (Value.string s88) ∧ ∃ q91 : Addr, a6_0 = some q91 ∧ (0 : Int) ≤ x7 ∧ x7 < (n6_1 : Int) ∧ ∃ s92 : ByteArray, Vc.cell h (q91.add (x7.toNat * 1)) = some (Value.string s92) ∧ ∃ x93 : Int, (∀ h1, Cls false h h1 → HEnt Tryd.prog 58 #[Value.string s88, Value.string s92] h1 fun v h2 => v = Value.int .i64 x93 ∧ Cls false h1 h2) ∧ ∀ h1, Cls false h h1 → R (Value.int .i64 x93) h1
def F35_k9 (I1 : Int → Heap → Prop) (M1 : Int → Heap → Nat) (m1 : Nat) (a5_0 : Option Addr) (n5_1 : Nat) (n5_2 : Nat) (a6_0 : Option Addr) (n6_1 : Nat) (n6_2 : Nat) (x7 : Int) (b8 : Bool) (h : Heap) (R : Value → Heap → Prop) : Prop :=
  br b8 (∃ q60 : Addr, a5_0 = some q60 ∧ (0 : Int) ≤ x7 ∧ x7 < (n5_1 : Int) ∧ ∃ s61 : ByteArray, Vc.cell h (q60.add (x7.toNat * 1)) = some (Value.string s61) ∧ ∃ q65 : Addr, a6_0 = some q65 ∧ (0 : Int) ≤ x7 ∧ x7 < (n6_1 : Int) ∧ ∃ s66 : ByteArray, Vc.cell h (q65.add (x7.toNat * 1)) = some (Value.string s66) ∧ ∀ h1, Cls false h h1 → ∃ q71 : Addr, a5_0 = some q71 ∧ (0 : Int) ≤ x7 ∧ x7 < (n5_1 : Int) ∧ ∃ s72 : ByteArray, Vc.cell h1 (q71.add (x7.toNat * 1)) = some (Value.string s72) ∧ ∃ s74 : ByteArray, (∀ h1_1, Cls true h1 h1_1 → HEnt Tryd.prog 59 #[Value.string s72, Value.int .i64 (IntKind.i64.wrap ((s61.size : Int) + (s66.size : Int)))] h1_1 fun v h2 => v = Value.string s74 ∧ Cls true h1_1 h2) ∧ ∃ q77 : Addr, a6_0 = some q77 ∧ (0 : Int) ≤ x7 ∧ x7 < (n6_1 : Int) ∧ ∃ s78 : ByteArray, Vc.cell h1 (q77.add (x7.toNat * 1)) = some (Value.string s78) ∧ ∃ s80 : ByteArray, (∀ h1_1, Cls true h1 h1_1 → HEnt Tryd.prog 59 #[Value.string s78, Value.int .i64 (IntKind.i64.wrap ((s61.size : Int) + (s66.size : Int)))] h1_1 fun v h2 => v = Value.string s80 ∧ Cls true h1_1 h2) ∧ ∃ x81 : Int, (∀ h1_1, Cls true h1 h1_1 → HEnt Tryd.prog 58 #[Value.string s74, Value.string s80] h1_1 fun v h2 => v = Value.int .i64 x81 ∧ Cls true h1_1 h2) ∧ ∀ h2, Cls true h1 h2 → br ((x81 : Int) != 0) (R (Value.int .i64 x81) h2) (F35_k10 I1 M1 m1 a5_0 n5_1 n5_2 a6_0 n6_1 n6_2 x7 h2 R)) (F35_k10 I1 M1 m1 a5_0 n5_1 n5_2 a6_0 n6_1 n6_2 x7 h R)
def F35_k8 (I1 : Int → Heap → Prop) (M1 : Int → Heap → Nat) (m1 : Nat) (a5_0 : Option Addr) (n5_1 : Nat) (n5_2 : Nat) (a6_0 : Option Addr) (n6_1 : Nat) (n6_2 : Nat) (x7 : Int) (b8 : Bool) (b56 : Bool) (h : Heap) (R : Value → Heap → Prop) : Prop :=
  br b56 (R (Value.int .i64 1) h) (F35_k9 I1 M1 m1 a5_0 n5_1 n5_2 a6_0 n6_1 n6_2 x7 b8 h R)
def F35_k7 (I1 : Int → Heap → Prop) (M1 : Int → Heap → Nat) (m1 : Nat) (a5_0 : Option Addr) (n5_1 : Nat) (n5_2 : Nat) (a6_0 : Option Addr) (n6_1 : Nat) (n6_2 : Nat) (x7 : Int) (b8 : Bool) (b9 : Bool) (h : Heap) (R : Value → Heap → Prop) : Prop :=
  br b9 (F35_k8 I1 M1 m1 a5_0 n5_1 n5_2 a6_0 n6_1 n6_2 x7 b8 (!b8) h R) (F35_k8 I1 M1 m1 a5_0 n5_1 n5_2 a6_0 n6_1 n6_2 x7 b8 false h R)
def F35_k6 (I1 : Int → Heap → Prop) (M1 : Int → Heap → Nat) (m1 : Nat) (a5_0 : Option Addr) (n5_1 : Nat) (n5_2 : Nat) (a6_0 : Option Addr) (n6_1 : Nat) (n6_2 : Nat) (x7 : Int) (b8 : Bool) (b9 : Bool) (b51 : Bool) (h : Heap) (R : Value → Heap → Prop) : Prop :=
  br b51 (R (Value.int .i64 (-1)) h) (F35_k7 I1 M1 m1 a5_0 n5_1 n5_2 a6_0 n6_1 n6_2 x7 b8 b9 h R)
def F35_k5 (I1 : Int → Heap → Prop) (M1 : Int → Heap → Nat) (m1 : Nat) (a5_0 : Option Addr) (n5_1 : Nat) (n5_2 : Nat) (a6_0 : Option Addr) (n6_1 : Nat) (n6_2 : Nat) (x7 : Int) (h : Heap) (R : Value → Heap → Prop) : Prop :=
  ∃ q39 : Addr, a5_0 = some q39 ∧ (0 : Int) ≤ x7 ∧ x7 < (n5_1 : Int) ∧ ∃ s40 : ByteArray, Vc.cell h (q39.add (x7.toNat * 1)) = some (Value.string s40) ∧ ∃ b41 : Bool, (∀ h1, Cls false h h1 → HEnt Tryd.prog 57 #[Value.string s40] h1 fun v h2 => v = Value.bool b41 ∧ Cls false h1 h2) ∧ ∃ q44 : Addr, a6_0 = some q44 ∧ (0 : Int) ≤ x7 ∧ x7 < (n6_1 : Int) ∧ ∃ s45 : ByteArray, Vc.cell h (q44.add (x7.toNat * 1)) = some (Value.string s45) ∧ ∃ b46 : Bool, (∀ h1, Cls false h h1 → HEnt Tryd.prog 57 #[Value.string s45] h1 fun v h2 => v = Value.bool b46 ∧ Cls false h1 h2) ∧ ∀ h1, Cls false h h1 → br b41 (F35_k6 I1 M1 m1 a5_0 n5_1 n5_2 a6_0 n6_1 n6_2 x7 b41 b46 (!b46) h1 R) (F35_k6 I1 M1 m1 a5_0 n5_1 n5_2 a6_0 n6_1 n6_2 x7 b41 b46 false h1 R)
def F35_k3 (I1 : Int → Heap → Prop) (M1 : Int → Heap → Nat) (m1 : Nat) (a5_0 : Option Addr) (n5_1 : Nat) (n5_2 : Nat) (a6_0 : Option Addr) (n6_1 : Nat) (n6_2 : Nat) (x7 : Int) (h : Heap) (R : Value → Heap → Prop) : Prop :=
  ∃ q30 : Addr, a5_0 = some q30 ∧ (0 : Int) ≤ x7 ∧ x7 < (n5_1 : Int) ∧ ∃ s31 : ByteArray, Vc.cell h (q30.add (x7.toNat * 1)) = some (Value.string s31) ∧ ∃ q34 : Addr, a6_0 = some q34 ∧ (0 : Int) ≤ x7 ∧ x7 < (n6_1 : Int) ∧ ∃ s35 : ByteArray, Vc.cell h (q34.add (x7.toNat * 1)) = some (Value.string s35) ∧ ∀ h1, Cls false h h1 → br (seq s31 s35) (F35_k4 I1 M1 m1 a5_0 n5_1 n5_2 a6_0 n6_1 n6_2 x7 h1 R) (F35_k5 I1 M1 m1 a5_0 n5_1 n5_2 a6_0 n6_1 n6_2 x7 h1 R)
def F35_k13 (h : Heap) (R : Value → Heap → Prop) : Prop :=
  R (Value.int .i64 0) h
def F35_k12 (a5_0 : Option Addr) (n5_1 : Nat) (n5_2 : Nat) (a6_0 : Option Addr) (n6_1 : Nat) (n6_2 : Nat) (h : Heap) (R : Value → Heap → Prop) : Prop :=
  br (decide (((n5_1 : Int) : Int) > (n6_1 : Int))) (R (Value.int .i64 1) h) (F35_k13 h R)
def F35_k11 (a5_0 : Option Addr) (n5_1 : Nat) (n5_2 : Nat) (a6_0 : Option Addr) (n6_1 : Nat) (n6_2 : Nat) (h : Heap) (R : Value → Heap → Prop) : Prop :=
  br (decide (((n5_1 : Int) : Int) < (n6_1 : Int))) (R (Value.int .i64 (-1)) h) (F35_k12 a5_0 n5_1 n5_2 a6_0 n6_1 n6_2 h R)
def F35_k2 (I1 : Int → Heap → Prop) (M1 : Int → Heap → Nat) (m1 : Nat) (a5_0 : Option Addr) (n5_1 : Nat) (n5_2 : Nat) (a6_0 : Option Addr) (n6_1 : Nat) (n6_2 : Nat) (x7 : Int) (b25 : Bool) (h : Heap) (R : Value → Heap → Prop) : Prop :=
  br b25 (F35_k3 I1 M1 m1 a5_0 n5_1 n5_2 a6_0 n6_1 n6_2 x7 h R) (F35_k11 a5_0 n5_1 n5_2 a6_0 n6_1 n6_2 h R)
def F35_b1 (I1 : Int → Heap → Prop) (M1 : Int → Heap → Nat) (m1 : Nat) (a5_0 : Option Addr) (n5_1 : Nat) (n5_2 : Nat) (a6_0 : Option Addr) (n6_1 : Nat) (n6_2 : Nat) (x7 : Int) (h : Heap) (R : Value → Heap → Prop) : Prop :=
  br (decide ((x7 : Int) < (n5_1 : Int))) (F35_k2 I1 M1 m1 a5_0 n5_1 n5_2 a6_0 n6_1 n6_2 x7 (decide ((x7 : Int) < (n6_1 : Int))) h R) (F35_k2 I1 M1 m1 a5_0 n5_1 n5_2 a6_0 n6_1 n6_2 x7 false h R)
def F35 (s0 : ByteArray) (s1 : ByteArray) (h : Heap) (R : Value → Heap → Prop) : Prop :=
  HCalls Tryd.prog 56 #[Value.string s0] h fun r13 h1 => ∃ a13 : Option Addr, ∃ l13 : Nat, ∃ c13 : Nat, r13 = Value.slice a13 l13 c13 ∧ HCalls Tryd.prog 56 #[Value.string s1] h1 fun r15 h2 => ∃ a15 : Option Addr, ∃ l15 : Nat, ∃ c15 : Nat, r15 = Value.slice a15 l15 c15 ∧ ∃ (I1 : Int → Heap → Prop) (M1 : Int → Heap → Nat), I1 0 h2 ∧ ∀ h3 (x7 : Int), I1 x7 h3 → F35_b1 I1 M1 (M1 x7 h3) a13 l13 c13 a15 l15 c15 x7 h3 R
def A35 : Ann := { loops := [(3, [(7, .int .i64)])], draws := [(5, 0, 9), (6, 0, 12), (12, 0, 12), (13, 1, 14), (16, 0, 10)] }
theorem F35_ent (s0 : ByteArray) (s1 : ByteArray) (h : Heap) (R : Value → Heap → Prop) (H : F35 s0 s1 h R) : HEnt Tryd.prog 35 #[Value.string s0, Value.string s1] h R :=
  hent A35 mixed Tryd.func35 rfl (by kernel_rfl) (by kernel_rfl) (Eq.mp (by kernel_rfl) H)

/-! ### 53 veneer/manifest.pairs -/
def F53 (s0 : ByteArray) (s1 : ByteArray) (h : Heap) (R : Value → Heap → Prop) : Prop :=
  newK h (.cells #[Value.string s0] 9) fun b2 h1 => newK h1 (.cells #[Value.string s1] 9) fun b3 h2 => R (Value.func (.func 66) #[] #[Value.pointer (some (at0 b2)), Value.pointer (some (at0 b3))]) h2
def A53 : Ann := {  }
theorem F53_ent (s0 : ByteArray) (s1 : ByteArray) (h : Heap) (R : Value → Heap → Prop) (H : F53 s0 s1 h R) : HEnt Tryd.prog 53 #[Value.string s0, Value.string s1] h R :=
  hent A53 mixed Tryd.func53 rfl (by kernel_rfl) (by kernel_rfl) (Eq.mp (by kernel_rfl) H)

/-! ### 54 veneer/manifest.piece -/
def F54_k1 (h : Heap) (R : Value → Heap → Prop) : Prop :=
  R (Value.int .i64 1) h
def F54_k3 (h : Heap) (R : Value → Heap → Prop) : Prop :=
  R (Value.int .i64 1) h
def F54_k5 (s0 : ByteArray) (s1 : ByteArray) (h : Heap) (R : Value → Heap → Prop) : Prop :=
  HCalls Tryd.prog 69 #[Value.string s0, Value.string s1] h fun r50 h1 => ∃ x50 : Int, r50 = Value.int .i64 x50 ∧ R (Value.int .i64 x50) h1
def F54_k4 (s0 : ByteArray) (s1 : ByteArray) (s5 : ByteArray) (s7 : ByteArray) (b38 : Bool) (h : Heap) (R : Value → Heap → Prop) : Prop :=
  br b38 (HCalls Tryd.prog 69 #[Value.string s5, Value.string s7] h fun r47 h1 => ∃ x47 : Int, r47 = Value.int .i64 x47 ∧ R (Value.int .i64 x47) h1) (F54_k5 s0 s1 h R)
def F54_k2 (s0 : ByteArray) (s1 : ByteArray) (s5 : ByteArray) (b6 : Bool) (s7 : ByteArray) (b24 : Bool) (h : Heap) (R : Value → Heap → Prop) : Prop :=
  br b24 (br (decide (((s5.size : Int) : Int) < (s7.size : Int))) (R (Value.int .i64 (-1)) h) (F54_k3 h R)) (br b6 (F54_k4 s0 s1 s5 s7 (!(seq s5 s7)) h R) (F54_k4 s0 s1 s5 s7 false h R))
def F54 (s0 : ByteArray) (s1 : ByteArray) (h : Heap) (R : Value → Heap → Prop) : Prop :=
  HCalls Tryd.prog 68 #[Value.string s0] h fun r11 h1 => ∃ s11_0 : ByteArray, ∃ b11_1 : Bool, r11 = Value.tuple #[Value.string s11_0, Value.bool b11_1] ∧ HCalls Tryd.prog 68 #[Value.string s1] h1 fun r16 h2 => ∃ s16_0 : ByteArray, ∃ b16_1 : Bool, r16 = Value.tuple #[Value.string s16_0, Value.bool b16_1] ∧ br (!(b11_1 == b16_1)) (br b11_1 (R (Value.int .i64 (-1)) h2) (F54_k1 h2 R)) (br b11_1 (F54_k2 s0 s1 s11_0 b11_1 s16_0 (((s11_0.size : Int) : Int) != (s16_0.size : Int)) h2 R) (F54_k2 s0 s1 s11_0 b11_1 s16_0 false h2 R))
def A54 : Ann := {  }
theorem F54_ent (s0 : ByteArray) (s1 : ByteArray) (h : Heap) (R : Value → Heap → Prop) (H : F54 s0 s1 h R) : HEnt Tryd.prog 54 #[Value.string s0, Value.string s1] h R :=
  hent A54 mixed Tryd.func54 rfl (by kernel_rfl) (by kernel_rfl) (Eq.mp (by kernel_rfl) H)

/-! ### 56 veneer/veneerref07.pieces -/
def F56_k3 (I1 : Option Addr → Nat → Nat → Int → Int → Heap → Prop) (M1 : Option Addr → Nat → Nat → Int → Int → Heap → Nat) (m1 : Nat) (s0 : ByteArray) (a3_0 : Option Addr) (n3_1 : Nat) (n3_2 : Nat) (x4 : Int) (x5 : Int) (h : Heap) (R : Value → Heap → Prop) : Prop :=
  ∀ x5_1 : Int, x5_1 = IntKind.i64.wrap (x5 + 1) → I1 a3_0 n3_1 n3_2 x4 x5_1 h ∧ M1 a3_0 n3_1 n3_2 x4 x5_1 h < m1
def F56_k2 (I1 : Option Addr → Nat → Nat → Int → Int → Heap → Prop) (M1 : Option Addr → Nat → Nat → Int → Int → Heap → Nat) (m1 : Nat) (s0 : ByteArray) (a3_0 : Option Addr) (n3_1 : Nat) (n3_2 : Nat) (x4 : Int) (x5 : Int) (h : Heap) (R : Value → Heap → Prop) : Prop :=
  (0 : Int) ≤ x5 ∧ x5 < (s0.size : Int) ∧ br ((bt s0 x5 : Int) == 46) ((0 : Int) ≤ x4 ∧ (x4 : Int) ≤ x5 ∧ x5 ≤ (s0.size : Int) ∧ 1 * 1 ≤ 16777216 ∧ newK h (.cells #[Value.string (s0.extract x4.toNat x5.toNat)] 9) fun b21 h1 => appK Tryd.prog 9 h1 a3_0 n3_1 n3_2 (Value.slice (some (at0 b21)) 1 1) fun a22 l22 c22 h2 => ∀ x4_1 : Int, x4_1 = IntKind.i64.wrap (x5 + 1) → F56_k3 I1 M1 m1 s0 a22 l22 c22 x4_1 x5 h2 R) (F56_k3 I1 M1 m1 s0 a3_0 n3_1 n3_2 x4 x5 h R)
def F56_k4 (s0 : ByteArray) (a3_0 : Option Addr) (n3_1 : Nat) (n3_2 : Nat) (x4 : Int) (h : Heap) (R : Value → Heap → Prop) : Prop :=
  (0 : Int) ≤ x4 ∧ (x4 : Int) ≤ (s0.size : Int) ∧ (s0.size : Int) ≤ (s0.size : Int) ∧ 1 * 1 ≤ 16777216 ∧ newK h (.cells #[Value.string (s0.extract x4.toNat (s0.size : Int).toNat)] 9) fun b29 h1 => appK Tryd.prog 9 h1 a3_0 n3_1 n3_2 (Value.slice (some (at0 b29)) 1 1) fun a30 l30 c30 h2 => R (Value.slice a30 l30 c30) h2
def F56_b1 (I1 : Option Addr → Nat → Nat → Int → Int → Heap → Prop) (M1 : Option Addr → Nat → Nat → Int → Int → Heap → Nat) (m1 : Nat) (s0 : ByteArray) (a2_0 : Option Addr) (n2_1 : Nat) (n2_2 : Nat) (a3_0 : Option Addr) (n3_1 : Nat) (n3_2 : Nat) (x4 : Int) (x5 : Int) (h : Heap) (R : Value → Heap → Prop) : Prop :=
  br (decide ((x5 : Int) < (s0.size : Int))) (F56_k2 I1 M1 m1 s0 a3_0 n3_1 n3_2 x4 x5 h R) (F56_k4 s0 a3_0 n3_1 n3_2 x4 h R)
def F56 (s0 : ByteArray) (h : Heap) (R : Value → Heap → Prop) : Prop :=
  ∀ x4 : Int, x4 = 0 → ∀ x5 : Int, x5 = 0 → ∃ (I1 : Option Addr → Nat → Nat → Int → Int → Heap → Prop) (M1 : Option Addr → Nat → Nat → Int → Int → Heap → Nat), I1 none 0 0 x4 x5 h ∧ ∀ h1 (a3 : Option Addr) (l3 c3 : Nat) (x4_1 : Int) (x5_1 : Int), I1 a3 l3 c3 x4_1 x5_1 h1 → F56_b1 I1 M1 (M1 a3 l3 c3 x4_1 x5_1 h1) s0 none 0 0 a3 l3 c3 x4_1 x5_1 h1 R
def A56 : Ann := { bind := [4, 5], loops := [(4, [(3, .slice), (4, .int .i64), (5, .int .i64)])] }
theorem F56_ent (s0 : ByteArray) (h : Heap) (R : Value → Heap → Prop) (H : F56 s0 h R) : HEnt Tryd.prog 56 #[Value.string s0] h R :=
  hent A56 mixed Tryd.func56 rfl (by kernel_rfl) (by kernel_rfl) (Eq.mp (by kernel_rfl) H)

/-! ### 57 veneer/veneerref07.digits -/
def F57_k4 (I1 : Int → Heap → Prop) (M1 : Int → Heap → Nat) (m1 : Nat) (s0 : ByteArray) (x3 : Int) (h : Heap) (R : Value → Heap → Prop) : Prop :=
  ∀ x3_1 : Int, x3_1 = IntKind.i64.wrap (x3 + 1) → I1 x3_1 h ∧ M1 x3_1 h < m1
def F57_k3 (I1 : Int → Heap → Prop) (M1 : Int → Heap → Nat) (m1 : Nat) (s0 : ByteArray) (x3 : Int) (b19 : Bool) (h : Heap) (R : Value → Heap → Prop) : Prop :=
  br b19 (R (Value.bool false) h) (F57_k4 I1 M1 m1 s0 x3 h R)
def F57_k2 (I1 : Int → Heap → Prop) (M1 : Int → Heap → Nat) (m1 : Nat) (s0 : ByteArray) (x3 : Int) (h : Heap) (R : Value → Heap → Prop) : Prop :=
  (0 : Int) ≤ x3 ∧ x3 < (s0.size : Int) ∧ br (decide ((bt s0 x3 : Int) < 48)) (F57_k3 I1 M1 m1 s0 x3 true h R) ((0 : Int) ≤ x3 ∧ x3 < (s0.size : Int) ∧ F57_k3 I1 M1 m1 s0 x3 (decide ((bt s0 x3 : Int) > 57)) h R)
def F57_k5 (s0 : ByteArray) (h : Heap) (R : Value → Heap → Prop) : Prop :=
  R (Value.bool (!(seq s0 (⟨#[]⟩ : ByteArray)))) h
def F57_b1 (I1 : Int → Heap → Prop) (M1 : Int → Heap → Nat) (m1 : Nat) (s0 : ByteArray) (x3 : Int) (h : Heap) (R : Value → Heap → Prop) : Prop :=
  br (decide ((x3 : Int) < (s0.size : Int))) (F57_k2 I1 M1 m1 s0 x3 h R) (F57_k5 s0 h R)
def F57 (s0 : ByteArray) (h : Heap) (R : Value → Heap → Prop) : Prop :=
  ∀ x3 : Int, x3 = 0 → ∃ (I1 : Int → Heap → Prop) (M1 : Int → Heap → Nat), I1 x3 h ∧ ∀ h1 (x3_1 : Int), I1 x3_1 h1 → F57_b1 I1 M1 (M1 x3_1 h1) s0 x3_1 h1 R
def A57 : Ann := { bind := [3], loops := [(2, [(3, .int .i64)])] }
theorem F57_ent (s0 : ByteArray) (h : Heap) (R : Value → Heap → Prop) (H : F57 s0 h R) : HEnt Tryd.prog 57 #[Value.string s0] h R :=
  hent A57 mixed Tryd.func57 rfl (by kernel_rfl) (by kernel_rfl) (Eq.mp (by kernel_rfl) H)

/-! ### 58 veneer/veneerref07.less -/
def F58_k2 (h : Heap) (R : Value → Heap → Prop) : Prop :=
  R (Value.int .i64 0) h
def F58_k1 (s0 : ByteArray) (s1 : ByteArray) (h : Heap) (R : Value → Heap → Prop) : Prop :=
  br (!(slt s0 s1 || seq s0 s1)) (R (Value.int .i64 1) h) (F58_k2 h R)
def F58 (s0 : ByteArray) (s1 : ByteArray) (h : Heap) (R : Value → Heap → Prop) : Prop :=
  br (slt s0 s1) (R (Value.int .i64 (-1)) h) (F58_k1 s0 s1 h R)
def A58 : Ann := {  }
theorem F58_ent (s0 : ByteArray) (s1 : ByteArray) (h : Heap) (R : Value → Heap → Prop) (H : F58 s0 s1 h R) : HEnt Tryd.prog 58 #[Value.string s0, Value.string s1] h R :=
  hent A58 mixed Tryd.func58 rfl (by kernel_rfl) (by kernel_rfl) (Eq.mp (by kernel_rfl) H)

/-! ### 59 veneer/veneerref07.padded -/
def F59_k2 (I1 : Option Addr → Nat → Nat → Int → Heap → Prop) (M1 : Option Addr → Nat → Nat → Int → Heap → Nat) (m1 : Nat) (s0 : ByteArray) (x1 : Int) (a5_0 : Option Addr) (n5_1 : Nat) (n5_2 : Nat) (x6 : Int) (h : Heap) (R : Value → Heap → Prop) : Prop :=
  1 * 1 ≤ 16777216 ∧ newK h (.cells #[Value.int .u8 48] 5) fun b17 h1 => appK Tryd.prog 5 h1 a5_0 n5_1 n5_2 (Value.slice (some (at0 b17)) 1 1) fun a18 l18 c18 h2 => ∀ x6_1 : Int, x6_1 = IntKind.i64.wrap (x6 + 1) → I1 a18 l18 c18 x6_1 h2 ∧ M1 a18 l18 c18 x6_1 h2 < m1
def F59_k3 (s0 : ByteArray) (a5_0 : Option Addr) (n5_1 : Nat) (n5_2 : Nat) (h : Heap) (R : Value → Heap → Prop) : Prop :=
  appK Tryd.prog 5 h a5_0 n5_1 n5_2 (Value.string s0) fun a21 l21 c21 h1 => ∃ s22 : ByteArray, s22.size = l21 ∧ (∀ ad, a21 = some ad → CellsAt h1 ad (bytesV s22)) ∧ (a21 = none → l21 = 0) ∧ R (Value.string s22) h1
def F59_b1 (I1 : Option Addr → Nat → Nat → Int → Heap → Prop) (M1 : Option Addr → Nat → Nat → Int → Heap → Nat) (m1 : Nat) (s0 : ByteArray) (x1 : Int) (s4 : ByteArray) (a5_0 : Option Addr) (n5_1 : Nat) (n5_2 : Nat) (x6 : Int) (h : Heap) (R : Value → Heap → Prop) : Prop :=
  br (decide ((x6 : Int) < x1)) (F59_k2 I1 M1 m1 s0 x1 a5_0 n5_1 n5_2 x6 h R) (F59_k3 s0 a5_0 n5_1 n5_2 h R)
def F59 (s0 : ByteArray) (x1 : Int) (h : Heap) (R : Value → Heap → Prop) : Prop :=
  (0 : Int) ≤ 0 ∧ (0 : Int) ≤ x1 ∧ (1 : Int) * x1 ≤ 281474976710656 ∧ (x1 : Int) < 9223372036854775808 ∧ newK h (.cells (mkCells (zeroC Tryd.prog 5) (x1.toNat * 1)) 5) fun b8 h1 => ∀ x6 : Int, x6 = (s0.size : Int) → ∃ (I1 : Option Addr → Nat → Nat → Int → Heap → Prop) (M1 : Option Addr → Nat → Nat → Int → Heap → Nat), I1 (some (at0 b8)) 0 x1.toNat x6 h1 ∧ ∀ h2 (a5 : Option Addr) (l5 c5 : Nat) (x6_1 : Int), I1 a5 l5 c5 x6_1 h2 → F59_b1 I1 M1 (M1 a5 l5 c5 x6_1 h2) s0 x1 (⟨#[]⟩ : ByteArray) a5 l5 c5 x6_1 h2 R
def A59 : Ann := { bind := [6], loops := [(3, [(5, .slice), (6, .int .i64)])] }
theorem F59_ent (s0 : ByteArray) (x1 : Int) (h : Heap) (R : Value → Heap → Prop) (H : F59 s0 x1 h R) : HEnt Tryd.prog 59 #[Value.string s0, Value.int .i64 x1] h R :=
  hent A59 mixed Tryd.func59 rfl (by kernel_rfl) (by kernel_rfl) (Eq.mp (by kernel_rfl) H)

/-! ### 66 veneer/manifest.pairs$1 -/
def F66_k3 (I1 : Heap → Prop) (M1 : Heap → Nat) (m1 : Nat) (n0 : Nat) (q1 : Addr) (q2 : Addr) (s5 : ByteArray) (s8 : ByteArray) (h : Heap) (R : Value → Heap → Prop) : Prop :=
  storeK 1 h q1 (Value.string s5) fun h1 => storeK 1 h1 q2 (Value.string s8) fun h2 => I1  h2 ∧ M1  h2 < m1
def F66_k2 (I1 : Heap → Prop) (M1 : Heap → Nat) (m1 : Nat) (n0 : Nat) (q1 : Addr) (q2 : Addr) (s5 : ByteArray) (s8 : ByteArray) (b34 : Bool) (h : Heap) (R : Value → Heap → Prop) : Prop :=
  br b34 (R (Value.tuple #[]) h) (F66_k3 I1 M1 m1 n0 q1 q2 s5 s8 h R)
def F66_b1 (I1 : Heap → Prop) (M1 : Heap → Nat) (m1 : Nat) (n0 : Nat) (q1 : Addr) (q2 : Addr) (h : Heap) (R : Value → Heap → Prop) : Prop :=
  ∃ s11 : ByteArray, Vc.cell h q1 = some (Value.string s11) ∧ HCalls Tryd.prog 67 #[Value.string s11, Value.string (⟨#[46]⟩ : ByteArray)] h fun r12 h1 => ∃ s12_0 : ByteArray, ∃ s12_1 : ByteArray, ∃ b12_2 : Bool, r12 = Value.tuple #[Value.string s12_0, Value.string s12_1, Value.bool b12_2] ∧ ∃ s17 : ByteArray, Vc.cell h1 q2 = some (Value.string s17) ∧ HCalls Tryd.prog 67 #[Value.string s17, Value.string (⟨#[46]⟩ : ByteArray)] h1 fun r18 h2 => ∃ s18_0 : ByteArray, ∃ s18_1 : ByteArray, ∃ b18_2 : Bool, r18 = Value.tuple #[Value.string s18_0, Value.string s18_1, Value.bool b18_2] ∧ HYield Tryd.prog n0 #[Value.string s12_0, Value.string s18_0] h2 fun r25 h3 => ∃ b25 : Bool, r25 = Value.bool b25 ∧ br (!b25) (F66_k2 I1 M1 m1 n0 q1 q2 s12_1 s18_1 true h3 R) (br (!b12_2) (F66_k2 I1 M1 m1 n0 q1 q2 s12_1 s18_1 true h3 R) (F66_k2 I1 M1 m1 n0 q1 q2 s12_1 s18_1 (!b18_2) h3 R))
def F66 (y0 : Nat) (qf0 : Addr) (qf1 : Addr) (h : Heap) (R : Value → Heap → Prop) : Prop :=
  ∃ (I1 : Heap → Prop) (M1 : Heap → Nat), I1  h ∧ ∀ h1, I1  h1 → F66_b1 I1 M1 (M1  h1) y0 qf0 qf1 h1 R
def A66 : Ann := { loops := [(0, [])] }
theorem F66_ent (y0 : Nat) (qf0 : Addr) (qf1 : Addr) (h : Heap) (R : Value → Heap → Prop) (H : F66 y0 qf0 qf1 h R) : HEnt Tryd.prog 66 #[Value.func (.yield y0) #[] #[], Value.pointer (some qf0), Value.pointer (some qf1)] h R :=
  hentY A66 mixed Tryd.func66 rfl (by kernel_rfl) (by kernel_rfl) (Eq.mp (by kernel_rfl) H)

/-! ### 68 veneer/manifest.digits -/
def F68_k4 (I1 : Int → Heap → Prop) (M1 : Int → Heap → Nat) (m1 : Nat) (s0 : ByteArray) (x6 : Int) (x7 : Int) (h : Heap) (R : Value → Heap → Prop) : Prop :=
  I1 (IntKind.i64.wrap (x7 + 1)) h ∧ M1 (IntKind.i64.wrap (x7 + 1)) h < m1
def F68_k3 (I1 : Int → Heap → Prop) (M1 : Int → Heap → Nat) (m1 : Nat) (s0 : ByteArray) (x6 : Int) (x7 : Int) (b19 : Bool) (h : Heap) (R : Value → Heap → Prop) : Prop :=
  br b19 (R (Value.tuple #[Value.string (⟨#[]⟩ : ByteArray), Value.bool false]) h) (F68_k4 I1 M1 m1 s0 x6 x7 h R)
def F68_k2 (I1 : Int → Heap → Prop) (M1 : Int → Heap → Nat) (m1 : Nat) (s0 : ByteArray) (x6 : Int) (x7 : Int) (h : Heap) (R : Value → Heap → Prop) : Prop :=
  (0 : Int) ≤ x7 ∧ x7 < (s0.size : Int) ∧ br (decide ((bt s0 x7 : Int) < 48)) (F68_k3 I1 M1 m1 s0 x6 x7 true h R) ((0 : Int) ≤ x7 ∧ x7 < (s0.size : Int) ∧ F68_k3 I1 M1 m1 s0 x6 x7 (decide ((bt s0 x7 : Int) > 57)) h R)
def F68_k5 (s0 : ByteArray) (h : Heap) (R : Value → Heap → Prop) : Prop :=
  HCalls Tryd.prog 84 #[Value.string s0, Value.string (⟨#[48]⟩ : ByteArray)] h fun r22 h1 => ∃ s22 : ByteArray, r22 = Value.string s22 ∧ R (Value.tuple #[Value.string s22, Value.bool (!(seq s0 (⟨#[]⟩ : ByteArray)))]) h1
def F68_b1 (I1 : Int → Heap → Prop) (M1 : Int → Heap → Nat) (m1 : Nat) (s0 : ByteArray) (x6 : Int) (x7 : Int) (h : Heap) (R : Value → Heap → Prop) : Prop :=
  br (decide ((x7 : Int) < x6)) (F68_k2 I1 M1 m1 s0 x6 x7 h R) (F68_k5 s0 h R)
def F68 (s0 : ByteArray) (h : Heap) (R : Value → Heap → Prop) : Prop :=
  ∃ (I1 : Int → Heap → Prop) (M1 : Int → Heap → Nat), I1 0 h ∧ ∀ h1 (x7 : Int), I1 x7 h1 → F68_b1 I1 M1 (M1 x7 h1) s0 (s0.size : Int) x7 h1 R
def A68 : Ann := { loops := [(2, [(7, .int .i64)])] }
theorem F68_ent (s0 : ByteArray) (h : Heap) (R : Value → Heap → Prop) (H : F68 s0 h R) : HEnt Tryd.prog 68 #[Value.string s0] h R :=
  hent A68 mixed Tryd.func68 rfl (by kernel_rfl) (by kernel_rfl) (Eq.mp (by kernel_rfl) H)

end Go.Proofs.YtfknpbgneeefjaaDoor
