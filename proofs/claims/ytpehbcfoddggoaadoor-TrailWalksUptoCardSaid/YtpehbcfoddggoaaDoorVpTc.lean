import Derived.Test.YtpehbcfoddggoaaDoorProg
import Derived.Test.YtpehbcfoddggoaaDoorVpT
import Derived.Test.YtpehbcfoddggoaaDoorVxpC

set_option linter.unusedVariables false
set_option maxRecDepth 100000
namespace Go.Proofs.YtpehbcfoddggoaaDoor
open Go.Vc
/-! ### 8 veneer/veneerlaw05.TrailWalks -/
def F8_r2 (rec_ : LoopState → Option Code → Obj) (l : Nat) (q3 : Addr) (q7 : Addr) (q8 : Addr) (s17 : ByteArray) (h : Heap) (R : Value → Heap → Prop) : Prop :=
  h[l]? = some (rec_ .ready none) ∧ h[l]? = some (rec_ .ready none) ∧ ∀ h1, h1 = Array.setIfInBounds h l (rec_ .busy none) → ∃ a18 : Option Addr, ∃ l18 : Nat, ∃ c18 : Nat, Vc.cell h1 q7 = some (Value.slice a18 l18 c18) ∧ 1 * 1 ≤ 16777216 ∧ newK h1 (.cells #[Value.string s17] 9) fun b20 h2 => appK Tryd.prog 9 h2 a18 l18 c18 (Value.slice (some (at0 b20)) 1 1) fun a21 l21 c21 h3 => storeK 1 h3 q7 (Value.slice a21 l21 c21) fun h4 => ∃ x22 : Int, Vc.cell h4 q8 = some (Value.int .i64 x22) ∧ storeK 1 h4 q8 (Value.int .i64 (IntKind.i64.wrap (x22 + 1))) fun h5 => ∃ x24 : Int, Vc.cell h5 q8 = some (Value.int .i64 x24) ∧ ∃ x25 : Int, Vc.cell h5 q3 = some (Value.int .i64 x25) ∧ br ((x24 : Int) == x25) (h5[l]? = some (rec_ .busy none) ∧ ∀ h6, h6 = Array.setIfInBounds h5 l (rec_ .done (some (.exit 0))) → R (Value.bool false) h6) (h5[l]? = some (rec_ .busy none) ∧ ∀ h6, h6 = Array.setIfInBounds h5 l (rec_ .ready (none)) → R (Value.bool true) h6)
def F8_k5 (nk1 : Nat) (a5_0 : Option Addr) (n5_1 : Nat) (n5_2 : Nat) (q7 : Addr) (h : Heap) (R : Value → Heap → Prop) : Prop :=
  ∃ a38 : Option Addr, ∃ l38 : Nat, ∃ c38 : Nat, Vc.cell h q7 = some (Value.slice a38 l38 c38) ∧ HCalls Tryd.prog 22 #[Value.slice a38 l38 c38, Value.slice a5_0 n5_1 n5_2] h fun r40 h1 => ∃ b40 : Bool, r40 = Value.bool b40 ∧ br b40 (HCalls Tryd.prog 15 #[] h1 fun r42 h2 => ∃ b42 : Bool, r42 = Value.bool b42 ∧ h2[nk1]? = some (.deferred (some [])) ∧ ∀ h3, h3 = Array.setIfInBounds h2 nk1 (.deferred none) → R (Value.bool b42) h3) (h1[nk1]? = some (.deferred (some [])) ∧ ∀ h2, h2 = Array.setIfInBounds h1 nk1 (.deferred none) → R (Value.bool false) h2)
def F8_k4 (nk1 : Nat) (q3 : Addr) (a5_0 : Option Addr) (n5_1 : Nat) (n5_2 : Nat) (q7 : Addr) (b34 : Bool) (h : Heap) (R : Value → Heap → Prop) : Prop :=
  br b34 (∃ x36 : Int, Vc.cell h q3 = some (Value.int .i64 x36) ∧ (0 : Int) ≤ 0 ∧ (0 : Int) ≤ x36 ∧ x36 ≤ (n5_2 : Int) ∧ F8_k5 nk1 (cutAt n5_2 0 1 a5_0) (x36.toNat - 0) (n5_2 - 0) q7 h R) (F8_k5 nk1 a5_0 n5_1 n5_2 q7 h R)
def F8_k3 (nk1 : Nat) (q3 : Addr) (a5_0 : Option Addr) (n5_1 : Nat) (n5_2 : Nat) (q7 : Addr) (h : Heap) (R : Value → Heap → Prop) : Prop :=
  ∃ x27 : Int, Vc.cell h q3 = some (Value.int .i64 x27) ∧ br (decide ((x27 : Int) ≥ 1)) (∃ x30 : Int, Vc.cell h q3 = some (Value.int .i64 x30) ∧ F8_k4 nk1 q3 a5_0 n5_1 n5_2 q7 (decide ((x30 : Int) < (n5_1 : Int))) h R) (F8_k4 nk1 q3 a5_0 n5_1 n5_2 q7 false h R)
def F8_k1 (q3 : Addr) (b4 : Bool) (a5_0 : Option Addr) (n5_1 : Nat) (n5_2 : Nat) (q6 : Addr) (h : Heap) (R : Value → Heap → Prop) : Prop :=
  newK h (.cells (zeroC Tryd.prog 31) 31) fun b7 h1 => newK h1 (.cells (zeroC Tryd.prog 3) 3) fun b8 h2 => storeK 1 h2 (at0 b8) (Value.int .i64 0) fun h3 => ∀ (rec_ : LoopState → Option Code → Obj) (b l : Nat) (h4 : Heap), b = h3.size → l = h3.size + 1 → Ext h3 h4 → h4[b]? = some (.deferred (some [])) → h4[l]? = some (rec_ .ready none) → (∀ st pd, noCells (rec_ st pd)) → (∀ (s17 : ByteArray) (h5 : Heap) (R1 : Value → Heap → Prop), F8_r2 rec_ l q3 (at0 b7) (at0 b8) s17 h5 R1 → HYield Tryd.prog l #[Value.string s17] h5 R1) → HEnt Tryd.prog 35 #[Value.func (.yield l) #[] #[], Value.pointer (some q6)] h4 fun _ h6 => ∃ st pd, h6[l]? = some (rec_ st pd) ∧ st ≠ .busy ∧ ∀ h7, h7 = Array.setIfInBounds h6 l (rec_ .exhausted pd) → pendQ pd (F8_k3 b q3 a5_0 n5_1 n5_2 (at0 b7) h7 R) (h7[b]? = some (.deferred (some [])) ∧ ∀ h8, h8 = Array.setIfInBounds h7 b (.deferred none) → R (Value.bool b4) h8) (fun i => selQ (Nat.beq i 0) (F8_k3 b q3 a5_0 n5_1 n5_2 (at0 b7) h7 R) (False))
def F8 (s0 : ByteArray) (x1 : Int) (h : Heap) (R : Value → Heap → Prop) : Prop :=
  newK h (.cells #[Value.int .i64 x1] 3) fun b3 h1 => HCalls Tryd.prog 20 #[Value.string s0] h1 fun r11 h2 => ∃ a11 : Option Addr, ∃ l11 : Nat, ∃ c11 : Nat, r11 = Value.slice a11 l11 c11 ∧ HCalls Tryd.prog 21 #[Value.string s0] h2 fun r13 h3 => ∃ v13 : Value, r13 = v13 ∧ ∃ q6_0 : Addr, v13 = Value.func (.func 35) #[] #[Value.pointer (some q6_0)] ∧ F8_k1 (at0 b3) false a11 l11 c11 q6_0 h3 R
def A8 : Ann := { fns := [(6, 35, 1)], rngs := [(9, [(17, .str)])] }
theorem F8_ent (s0 : ByteArray) (x1 : Int) (h : Heap) (R : Value → Heap → Prop) (H : F8 s0 x1 h R) : HEnt Tryd.prog 8 #[Value.string s0, Value.int .i64 x1] h R :=
  hentT A8 mixed Tryd.func8 rfl (by kernel_rfl) (by kernel_rfl) (Eq.mp (by kernel_rfl) H)

/-! ### 20 veneer/veneerref05.Walk -/
def F20_k3 (I2 : Option Addr → Nat → Nat → Int → Heap → Prop) (M2 : Option Addr → Nat → Nat → Int → Heap → Nat) (m2 : Nat) (a3_0 : Option Addr) (n3_1 : Nat) (n3_2 : Nat) (a4_0 : Option Addr) (n4_1 : Nat) (n4_2 : Nat) (x5 : Int) (h : Heap) (R : Value → Heap → Prop) : Prop :=
  (0 : Int) ≤ 0 ∧ (0 : Int) ≤ x5 ∧ x5 ≤ (n4_2 : Int) ∧ HCalls Tryd.prog 32 #[Value.slice (cutAt n4_2 0 1 a4_0) (x5.toNat - 0) (n4_2 - 0)] h fun r22 h1 => ∃ s22 : ByteArray, r22 = Value.string s22 ∧ 1 * 1 ≤ 16777216 ∧ newK h1 (.cells #[Value.string s22] 9) fun b23 h2 => appK Tryd.prog 9 h2 a3_0 n3_1 n3_2 (Value.slice (some (at0 b23)) 1 1) fun a24 l24 c24 h3 => ∀ x5_1 : Int, x5_1 = IntKind.i64.wrap (x5 + 1) → I2 a24 l24 c24 x5_1 h3 ∧ M2 a24 l24 c24 x5_1 h3 < m2
def F20_k4 (a3_0 : Option Addr) (n3_1 : Nat) (n3_2 : Nat) (h : Heap) (R : Value → Heap → Prop) : Prop :=
  R (Value.slice a3_0 n3_1 n3_2) h
def F20_b2 (I2 : Option Addr → Nat → Nat → Int → Heap → Prop) (M2 : Option Addr → Nat → Nat → Int → Heap → Nat) (m2 : Nat) (a3_0 : Option Addr) (n3_1 : Nat) (n3_2 : Nat) (a4_0 : Option Addr) (n4_1 : Nat) (n4_2 : Nat) (x5 : Int) (h : Heap) (R : Value → Heap → Prop) : Prop :=
  br (decide ((x5 : Int) ≤ (n4_1 : Int))) (F20_k3 I2 M2 m2 a3_0 n3_1 n3_2 a4_0 n4_1 n4_2 x5 h R) (F20_k4 a3_0 n3_1 n3_2 h R)
def F20_k1 (s0 : ByteArray) (h : Heap) (R : Value → Heap → Prop) : Prop :=
  1 * 1 ≤ 16777216 ∧ newK h (.cells #[Value.string (⟨#[]⟩ : ByteArray)] 9) fun b9 h1 => HCalls Tryd.prog 25 #[Value.string s0] h1 fun r11 h2 => ∃ a11 : Option Addr, ∃ l11 : Nat, ∃ c11 : Nat, r11 = Value.slice a11 l11 c11 ∧ ∀ x5 : Int, x5 = 1 → ∃ (I2 : Option Addr → Nat → Nat → Int → Heap → Prop) (M2 : Option Addr → Nat → Nat → Int → Heap → Nat), I2 (some (at0 b9)) 1 1 x5 h2 ∧ ∀ h3 (a3 : Option Addr) (l3 c3 : Nat) (x5_1 : Int), I2 a3 l3 c3 x5_1 h3 → F20_b2 I2 M2 (M2 a3 l3 c3 x5_1 h3) a3 l3 c3 a11 l11 c11 x5_1 h3 R
def F20 (s0 : ByteArray) (h : Heap) (R : Value → Heap → Prop) : Prop :=
  HCalls Tryd.prog 34 #[Value.string s0] h fun r7 h1 => ∃ b7 : Bool, r7 = Value.bool b7 ∧ br (!b7) (R (Value.slice none 0 0) h1) (F20_k1 s0 h1 R)
def A20 : Ann := { bind := [5], loops := [(6, [(3, .slice), (5, .int .i64)])] }
theorem F20_ent (s0 : ByteArray) (h : Heap) (R : Value → Heap → Prop) (H : F20 s0 h R) : HEnt Tryd.prog 20 #[Value.string s0] h R :=
  hent A20 mixed Tryd.func20 rfl (by kernel_rfl) (by kernel_rfl) (Eq.mp (by kernel_rfl) H)

/-! ### 21 veneer/trail.Walk -/
def F21 (s0 : ByteArray) (h : Heap) (R : Value → Heap → Prop) : Prop :=
  newK h (.cells #[Value.string s0] 9) fun b1 h1 => R (Value.func (.func 35) #[] #[Value.pointer (some (at0 b1))]) h1
def A21 : Ann := {  }
theorem F21_ent (s0 : ByteArray) (h : Heap) (R : Value → Heap → Prop) (H : F21 s0 h R) : HEnt Tryd.prog 21 #[Value.string s0] h R :=
  hent A21 mixed Tryd.func21 rfl (by kernel_rfl) (by kernel_rfl) (Eq.mp (by kernel_rfl) H)

/-! ### 35 veneer/trail.Walk$1 -/
def F35_k6 (I3 : Int → Heap → Prop) (M3 : Int → Heap → Nat) (m3 : Nat) (n0 : Nat) (q1 : Addr) (x13 : Int) (x14 : Int) (h : Heap) (R : Value → Heap → Prop) : Prop :=
  I3 (IntKind.i64.wrap (x14 + 1)) h ∧ M3 (IntKind.i64.wrap (x14 + 1)) h < m3
def F35_k5 (I3 : Int → Heap → Prop) (M3 : Int → Heap → Nat) (m3 : Nat) (n0 : Nat) (q1 : Addr) (x13 : Int) (x14 : Int) (b28 : Bool) (h : Heap) (R : Value → Heap → Prop) : Prop :=
  br b28 (R (Value.tuple #[]) h) (F35_k6 I3 M3 m3 n0 q1 x13 x14 h R)
def F35_k4 (I3 : Int → Heap → Prop) (M3 : Int → Heap → Nat) (m3 : Nat) (n0 : Nat) (q1 : Addr) (x13 : Int) (x14 : Int) (h : Heap) (R : Value → Heap → Prop) : Prop :=
  ∃ s17 : ByteArray, Vc.cell h q1 = some (Value.string s17) ∧ (0 : Int) ≤ x14 ∧ x14 < (s17.size : Int) ∧ br ((bt s17 x14 : Int) == 47) (∃ s23 : ByteArray, Vc.cell h q1 = some (Value.string s23) ∧ (0 : Int) ≤ 0 ∧ (0 : Int) ≤ x14 ∧ x14 ≤ (s23.size : Int) ∧ HYield Tryd.prog n0 #[Value.string (s23.extract 0 x14.toNat)] h fun r26 h1 => ∃ b26 : Bool, r26 = Value.bool b26 ∧ F35_k5 I3 M3 m3 n0 q1 x13 x14 (!b26) h1 R) (F35_k5 I3 M3 m3 n0 q1 x13 x14 false h R)
def F35_k7 (n0 : Nat) (q1 : Addr) (h : Heap) (R : Value → Heap → Prop) : Prop :=
  ∃ s30 : ByteArray, Vc.cell h q1 = some (Value.string s30) ∧ br (!(seq s30 (⟨#[]⟩ : ByteArray))) (∃ s33 : ByteArray, Vc.cell h q1 = some (Value.string s33) ∧ HYield Tryd.prog n0 #[Value.string s33] h fun r34 h1 => ∃ b34 : Bool, r34 = Value.bool b34 ∧ R (Value.tuple #[]) h1) (R (Value.tuple #[]) h)
def F35_b3 (I3 : Int → Heap → Prop) (M3 : Int → Heap → Nat) (m3 : Nat) (n0 : Nat) (q1 : Addr) (x13 : Int) (x14 : Int) (h : Heap) (R : Value → Heap → Prop) : Prop :=
  br (decide ((x14 : Int) < x13)) (F35_k4 I3 M3 m3 n0 q1 x13 x14 h R) (F35_k7 n0 q1 h R)
def F35_k2 (n0 : Nat) (q1 : Addr) (h : Heap) (R : Value → Heap → Prop) : Prop :=
  ∃ s12 : ByteArray, Vc.cell h q1 = some (Value.string s12) ∧ ∃ (I3 : Int → Heap → Prop) (M3 : Int → Heap → Nat), I3 0 h ∧ ∀ h1 (x14 : Int), I3 x14 h1 → F35_b3 I3 M3 (M3 x14 h1) n0 q1 (s12.size : Int) x14 h1 R
def F35_k1 (n0 : Nat) (q1 : Addr) (b11 : Bool) (h : Heap) (R : Value → Heap → Prop) : Prop :=
  br b11 (R (Value.tuple #[]) h) (F35_k2 n0 q1 h R)
def F35 (y0 : Nat) (qf0 : Addr) (h : Heap) (R : Value → Heap → Prop) : Prop :=
  ∃ s4 : ByteArray, Vc.cell h qf0 = some (Value.string s4) ∧ HCalls Tryd.prog 33 #[Value.string s4] h fun r5 h1 => ∃ b5 : Bool, r5 = Value.bool b5 ∧ br (!b5) (F35_k1 y0 qf0 true h1 R) (HYield Tryd.prog y0 #[Value.string (⟨#[]⟩ : ByteArray)] h1 fun r9 h2 => ∃ b9 : Bool, r9 = Value.bool b9 ∧ F35_k1 y0 qf0 (!b9) h2 R)
def A35 : Ann := { loops := [(2, [(14, .int .i64)])] }
theorem F35_ent (y0 : Nat) (qf0 : Addr) (h : Heap) (R : Value → Heap → Prop) (H : F35 y0 qf0 h R) : HEnt Tryd.prog 35 #[Value.func (.yield y0) #[] #[], Value.pointer (some qf0)] h R :=
  hentY A35 mixed Tryd.func35 rfl (by kernel_rfl) (by kernel_rfl) (Eq.mp (by kernel_rfl) H)

end Go.Proofs.YtpehbcfoddggoaaDoor
