import Derived.WalkKit
import Derived.KernelRfl
import Derived.CallsIn

namespace Go.Vc

abbrev Heap := Array Obj
/-- the head of a block -/
@[reducible] def at0 (b : Nat) : Addr := ⟨b, 0, none⟩

def cell (h : Heap) (a : Addr) : Option Value :=
  match h[a.block]? with
  | some (.cells c _ _) => if a.spot.isSome then none else c[a.off]?
  | _ => none
def frz (h : Heap) (a : Addr) : Bool :=
  match h[a.block]? with
  | some (.cells _ _ (lo, hi)) => lo ≤ a.off && a.off < hi
  | _ => false
theorem cell_eq (w : World) (a : Addr) : w.cell? a = cell w.heap a := rfl
theorem frz_eq (w : World) (a : Addr) : w.frozen? a = frz w.heap a := rfl

/-- The streams and the tape are as they were. -/
structure Kin (w w' : World) : Prop where
  os : w'.os = w.os
  tape : w'.tape = w.tape
  output : w'.output = w.output
theorem Kin.refl (w : World) : Kin w w := ⟨rfl, rfl, rfl⟩
theorem Kin.trans {a b c : World} (h : Kin a b) (k : Kin b c) : Kin a c := ⟨k.os.trans h.os, k.tape.trans h.tape, k.output.trans h.output⟩

/-- h' is h with more blocks behind it. -/
structure Ext (h h' : Heap) : Prop where
  size : h.size ≤ h'.size
  block : ∀ k, k < h.size → h'[k]? = h[k]?
theorem Ext.refl (h : Heap) : Ext h h := ⟨Nat.le_refl _, fun _ _ => rfl⟩
theorem Ext.trans {a b c : Heap} (h : Ext a b) (k : Ext b c) : Ext a c :=
  ⟨Nat.le_trans h.size k.size, fun i hi => (k.block i (Nat.lt_of_lt_of_le hi h.size)).trans (h.block i hi)⟩
theorem lt_of_cell {h : Heap} {a : Addr} {v : Value} (hc : cell h a = some v) : a.block < h.size := by
  by_cases hlt : a.block < h.size
  · exact hlt
  · have hn : h[a.block]? = none := by simp; omega
    simp [cell, hn] at hc
theorem Ext.cell {h h' : Heap} (x : Ext h h') {a : Addr} (hb : a.block < h.size) : cell h' a = cell h a := by
  unfold Vc.cell; rw [x.block _ hb]
theorem Ext.some {h h' : Heap} (x : Ext h h') {a : Addr} {v : Value} (hc : Vc.cell h a = some v) : Vc.cell h' a = some v :=
  (x.cell (lt_of_cell hc)).trans hc
theorem Ext.frz {h h' : Heap} (x : Ext h h') {a : Addr} (hb : a.block < h.size) : frz h' a = frz h a := by
  unfold Vc.frz; rw [x.block _ hb]
theorem Ext.push (h : Heap) (o : Obj) : Ext h (h.push o) := ⟨by simp, fun k hk => by rw [Array.getElem?_push, if_neg (by omega)]⟩

/-- Entered over the heap h, the function returns a value and leaves a heap, as R says; nothing else of the world has turned but the count of draws. -/
def HBody (P : Program) (f : FuncId) (args : Array Value) (h : Heap) (R : Value → Heap → Prop) : Prop :=
  ∀ w : World, w.heap = h → Calls P f args w fun e w' => ∃ v, e = .returned v ∧ Kin w w' ∧ R v w'.heap
/-- THE CONTRACT: the same of a call of it: of a function with a Go body, or of one that the model answers by itself. -/
def HCalls (P : Program) (f : FuncId) (args : Array Value) (h : Heap) (R : Value → Heap → Prop) : Prop :=
  ∀ w : World, w.heap = h → (∃ v w', (callFunc f args).run P w = .ok (.value v) w' ∧ Kin w w' ∧ R v w'.heap) ∨
    ((callFunc f args).run P w = .ok (.enter f args) w ∧ Calls P f args w fun e w' => ∃ v, e = .returned v ∧ Kin w w' ∧ R v w'.heap)

/-- The same of a function that is entered. -/
def HEnt (P : Program) (f : FuncId) (args : Array Value) (h : Heap) (R : Value → Heap → Prop) : Prop :=
  ∀ w : World, w.heap = h → (callFunc f args).run P w = .ok (.enter f args) w ∧ Calls P f args w fun e w' => ∃ v, e = .returned v ∧ Kin w w' ∧ R v w'.heap
theorem HEnt.mono {P : Program} {f : FuncId} {args : Array Value} {h : Heap} {R R' : Value → Heap → Prop} (c : HEnt P f args h R) (hr : ∀ v h', R v h' → R' v h') : HEnt P f args h R' :=
  fun w hw => ⟨(c w hw).1, (c w hw).2.mono fun _ _ ⟨v, he, hk, hv⟩ => ⟨v, he, hk, hr _ _ hv⟩⟩
/-- A contract at a call. -/
theorem HEnt.use {P : Program} {f : FuncId} {args : Array Value} {h : Heap} {R R' : Value → Heap → Prop} (c : HEnt P f args h R) (hr : ∀ v h', R v h' → R' v h') : HCalls P f args h R' :=
  fun w hw => .inr ((c.mono hr) w hw)
theorem HBody.mono {P : Program} {f : FuncId} {args : Array Value} {h : Heap} {R R' : Value → Heap → Prop} (c : HBody P f args h R) (hr : ∀ v h', R v h' → R' v h') : HBody P f args h R' :=
  fun w hw => (c w hw).mono fun _ _ ⟨v, he, hk, hv⟩ => ⟨v, he, hk, hr _ _ hv⟩
theorem HCalls.mono {P : Program} {f : FuncId} {args : Array Value} {h : Heap} {R R' : Value → Heap → Prop} (c : HCalls P f args h R) (hr : ∀ v h', R v h' → R' v h') : HCalls P f args h R' :=
  fun w hw => (c w hw).imp (fun ⟨v, w', h1, h2, h3⟩ => ⟨v, w', h1, h2, hr _ _ h3⟩) fun ⟨h1, h2⟩ => ⟨h1, h2.mono fun _ _ ⟨v, he, hk, hv⟩ => ⟨v, he, hk, hr _ _ hv⟩⟩
theorem HEnt.of_body {P : Program} {f : FuncId} {fn : Func} {args : Array Value} {h : Heap} {R : Value → Heap → Prop} (hf : P.funcs[f]? = some fn) (hb : fn.body.isSome = true) (hn : (fn.name == "runtime.NumGoroutine") = false)
    (c : HBody P f args h R) : HEnt P f args h R :=
  fun w hw => ⟨by
    have hb' : fn.body.isNone = false := by cases h : fn.body <;> simp_all
    unfold callFunc
    simp only [Sem.run_bind, run_program, Result.andThen_ok, hf, hn, Bool.false_eq_true, if_false, hb', Sem.run_pure], c w hw⟩

/-- a panic that nobody has stopped, its value no nil -/
def Raised (chain : List PanicEntry) : Prop := ∃ t v, chain = [{ v := .iface t v, recovered := false }]
/-- how a call ends that may panic -/
def EndP (w : World) (R : Value → Heap → Prop) (Rp : Heap → Prop) (e : Ending) (w' : World) : Prop :=
  (∃ v, e = .returned v ∧ Kin w w' ∧ R v w'.heap) ∨ ∃ chain, e = .panicked chain ∧ Raised chain ∧ Kin w w' ∧ Rp w'.heap
/-- THE CONTRACT of a function that may panic: Rp says how the heap is then. -/
def HCallsP (P : Program) (f : FuncId) (args : Array Value) (h : Heap) (R : Value → Heap → Prop) (Rp : Heap → Prop) : Prop :=
  ∀ w : World, w.heap = h → (callFunc f args).run P w = .ok (.enter f args) w ∧ Calls P f args w (EndP w R Rp)
theorem EndP.mono {w w' : World} {R R' : Value → Heap → Prop} {Rp Rp' : Heap → Prop} {e : Ending} (c : EndP w R Rp e w') (hr : ∀ v h', R v h' → R' v h') (hp : ∀ h', Rp h' → Rp' h') : EndP w R' Rp' e w' :=
  c.imp (fun ⟨v, he, hk, hv⟩ => ⟨v, he, hk, hr _ _ hv⟩) fun ⟨ch, he, hc, hk, hv⟩ => ⟨ch, he, hc, hk, hp _ hv⟩
theorem HCallsP.mono {P : Program} {f : FuncId} {args : Array Value} {h : Heap} {R R' : Value → Heap → Prop} {Rp Rp' : Heap → Prop} (c : HCallsP P f args h R Rp) (hr : ∀ v h', R v h' → R' v h') (hp : ∀ h', Rp h' → Rp' h') : HCallsP P f args h R' Rp' :=
  fun w hw => ⟨(c w hw).1, (c w hw).2.mono fun _ _ e => e.mono hr hp⟩
theorem HCallsP.of_body {P : Program} {f : FuncId} {fn : Func} {args : Array Value} {h : Heap} {R : Value → Heap → Prop} {Rp : Heap → Prop} (hf : P.funcs[f]? = some fn) (hb : fn.body.isSome = true) (hn : (fn.name == "runtime.NumGoroutine") = false)
    (c : ∀ w : World, w.heap = h → Calls P f args w (EndP w R Rp)) : HCallsP P f args h R Rp :=
  fun w hw => ⟨by
    have hb' : fn.body.isNone = false := by cases h : fn.body <;> simp_all
    unfold callFunc
    simp only [Sem.run_bind, run_program, Result.andThen_ok, hf, hn, Bool.false_eq_true, if_false, hb', Sem.run_pure], c w hw⟩

/-- THE CONTRACT of a call of a loop's yield: the round that it asks for comes to its end. -/
def HYield (P : Program) (l : Nat) (args : Array Value) (h : Heap) (R : Value → Heap → Prop) : Prop :=
  ∀ w : World, w.heap = h → ∃ f tmps assign body, (Instr.yield l args).run P w = .ok (.round l f tmps assign body) w ∧
    RoundIn Fence.wide 0 P l f tmps assign body w fun e w' => ∃ v, e = .returned v ∧ Kin w w' ∧ R v w'.heap

/-- the cells of a type's zero value -/
def zeroC (P : Program) (t : TypeId) : Array Value := (((P.info? t).bind (·.zero)).getD (.tuple #[])).cells

/-! ### shapes of values -/
inductive Sh where
  | int (k : IntKind)
  | bool
  | str
  | ptr
  | slice
  | map
  | any
  | agg (n : Nat)
  | struct (fs : List Sh)
  | tuple (fs : List Sh)

mutual
/-- some value of a shape -/
def withSh : Sh → (Value → Prop) → Prop
  | .int k, f => ∃ n : Int, f (.int k n)
  | .bool, f => ∃ b : Bool, f (.bool b)
  | .str, f => ∃ s : ByteArray, f (.string s)
  | .ptr, f => ∃ a : Option Addr, f (.pointer a)
  | .slice, f => ∃ (a : Option Addr) (l c : Nat), f (.slice a l c)
  | .map, f => ∃ m : Option Nat, f (.map m)
  | .any, f => ∃ v : Value, f v
  | .agg n, f => ∃ cs : Array Value, cs.size = n ∧ f (.agg cs)
  | .struct fs, f => withShs fs fun vs => f (.agg vs.toArray)
  | .tuple fs, f => withShs fs fun vs => f (.tuple vs.toArray)
/-- some values of shapes, one behind the other -/
def withShs : List Sh → (List Value → Prop) → Prop
  | [], f => f []
  | s :: r, f => withSh s fun v => withShs r fun vs => f (v :: vs)
end
mutual
theorem withSh_some : ∀ {s : Sh} {f : Value → Prop}, withSh s f → ∃ v, f v
  | .int _, _, h | .bool, _, h | .str, _, h | .ptr, _, h | .map, _, h | .any, _, h => by
    simp only [withSh] at h; obtain ⟨_, h⟩ := h; exact ⟨_, h⟩
  | .slice, _, h => by simp only [withSh] at h; obtain ⟨_, _, _, h⟩ := h; exact ⟨_, h⟩
  | .agg _, _, h => by simp only [withSh] at h; obtain ⟨_, _, h⟩ := h; exact ⟨_, h⟩
  | .struct _, _, h => by simp only [withSh] at h; exact let ⟨vs, h⟩ := withShs_some h; ⟨_, h⟩
  | .tuple _, _, h => by simp only [withSh] at h; exact let ⟨vs, h⟩ := withShs_some h; ⟨_, h⟩
theorem withShs_some : ∀ {l : List Sh} {f : List Value → Prop}, withShs l f → ∃ vs, f vs
  | [], _, h => ⟨_, h⟩
  | _ :: _, _, h => by
    simp only [withShs] at h
    obtain ⟨v, h⟩ := withSh_some h
    exact let ⟨vs, h⟩ := withShs_some h; ⟨_, h⟩
end

/-! ### environments -/
/-- The temporaries that are known: how many there are; what was written, the last first (what was never written is undef). -/
structure Env where
  length : Nat
  said : List (Nat × Option Value)
def Env.find : List (Nat × Option Value) → Nat → Option Value
  | [], _ => some undef
  | (m, v) :: r, n => match Nat.beq m n with
    | true => v
    | false => Env.find r n
def Env.get : Env → Nat → Option Value
  | ⟨s, l⟩, n => match Nat.blt n s with
    | true => Env.find l n
    | false => none
def Env.set : Env → Nat → Option Value → Env
  | ⟨s, l⟩, n, v => ⟨s, (n, v) :: l⟩
def Env.put (e : Env) : Option Nat → Option Value → Env
  | some d, v => Env.set e d v
  | none, _ => e
/-- What the environment says of the temporaries. -/
def Agree (e : Env) (t : Array Value) : Prop := e.length = t.size ∧ ∀ n v, Env.get e n = some v → t.getD n undef = v

theorem Env.set_length (e : Env) (n : Nat) (v : Option Value) : (Env.set e n v).length = e.length := rfl
theorem blt_iff {n s : Nat} : Nat.blt n s = true ↔ n < s := by
  unfold Nat.blt; exact ⟨Nat.le_of_ble_eq_true, Nat.ble_eq_true_of_le⟩
theorem Env.get_of_lt {e : Env} {n : Nat} (h : n < e.length) : Env.get e n = Env.find e.said n := by
  obtain ⟨s, l⟩ := e
  have hb : Nat.blt n s = true := blt_iff.2 h
  show (match Nat.blt n s with | true => Env.find l n | false => none) = _
  rw [hb]
theorem Env.get_of_ge {e : Env} {n : Nat} (h : ¬ n < e.length) : Env.get e n = none := by
  obtain ⟨s, l⟩ := e
  have hb : Nat.blt n s = false := by rw [← Bool.not_eq_true]; exact fun hb => h (blt_iff.1 hb)
  show (match Nat.blt n s with | true => Env.find l n | false => none) = _
  rw [hb]
theorem Env.get_set_same (e : Env) (n : Nat) (v : Option Value) (h : n < e.length) : Env.get (Env.set e n v) n = v := by
  rw [Env.get_of_lt (by rw [Env.set_length]; exact h)]
  show Env.find ((n, v) :: e.said) n = v
  unfold Env.find
  have : Nat.beq n n = true := by simp
  rw [this]
theorem Env.get_set_ne (e : Env) (n m : Nat) (v : Option Value) (h : n ≠ m) : Env.get (Env.set e n v) m = Env.get e m := by
  by_cases hm : m < e.length
  · rw [Env.get_of_lt hm, Env.get_of_lt (by rw [Env.set_length]; exact hm)]
    show Env.find ((n, v) :: e.said) m = _
    conv => lhs; unfold Env.find
    have : Nat.beq n m = false := by rw [← Bool.not_eq_true]; exact fun e => h (Nat.eq_of_beq_eq_true e)
    rw [this]
  · rw [Env.get_of_ge hm, Env.get_of_ge (by rw [Env.set_length]; exact hm)]
theorem Env.get_lt {e : Env} {n : Nat} {v : Value} (h : Env.get e n = some v) : n < e.length := by
  by_cases hm : n < e.length
  · exact hm
  · rw [Env.get_of_ge hm] at h; cases h

theorem Agree.set {e : Env} {t : Array Value} (h : Agree e t) (n : Nat) (v : Value) (u : Option Value) (hu : u = none ∨ u = some v) : Agree (Env.set e n u) (t.setIfInBounds n v) := by
  refine ⟨by simp [Env.set_length, h.1], fun m x hm => ?_⟩
  by_cases hnm : n = m
  · subst hnm
    have hlt := Env.get_lt hm
    rw [Env.set_length] at hlt
    rw [Env.get_set_same e n u hlt] at hm
    rcases hu with rfl | rfl
    · cases hm
    · obtain rfl := Option.some.inj hm
      have : n < t.size := by rw [← h.1]; exact hlt
      simp [this]
  · rw [Env.get_set_ne _ _ _ _ hnm] at hm
    have := h.2 m x hm
    rw [Array.getD_eq_getD_getElem?] at this ⊢
    rw [Array.getElem?_setIfInBounds_ne hnm]; exact this
theorem Agree.put {e : Env} {a : Act} (h : Agree e a.tmps) (d : Option Nat) (v : Value) : Agree (Env.put e d (some v)) (a.put d v).tmps := by
  cases d with
  | none => exact h
  | some d => exact h.set d v _ (.inr rfl)
/-- What is forgotten agrees all the same. -/
theorem Agree.weaken {e e' : Env} {t : Array Value} (h : Agree e t) (hl : e'.length = e.length) (hg : ∀ n v, Env.get e' n = some v → Env.get e n = some v) : Agree e' t :=
  ⟨hl.trans h.1, fun n v hn => h.2 n v (hg n v hn)⟩

def opv (e : Env) : Operand → Option Value
  | .tmp t => Env.get e t
  | .const v => some v
  | .global g => some (.pointer (some ⟨g, 0, none⟩))
  | .func f => some (.func (.func f) #[] #[])
theorem opv_eval {e : Env} {a : Act} (h : Agree e a.tmps) {x : Operand} {v : Value} (hx : opv e x = some v) : a.eval x = v := by
  cases x with
  | tmp t => exact h.2 t v hx
  | const u => exact Option.some.inj hx
  | global g => exact Option.some.inj hx
  | func f => exact Option.some.inj hx

def opvs (e : Env) : List Operand → Option (List Value)
  | [] => some []
  | x :: l => match opv e x, opvs e l with
    | some v, some vs => some (v :: vs)
    | _, _ => none
theorem opvs_eval {e : Env} {a : Act} (h : Agree e a.tmps) : ∀ {l : List Operand} {vs : List Value}, opvs e l = some vs → l.map a.eval = vs
  | [], vs, hl => by simp [opvs] at hl; simp [← hl]
  | x :: l, vs, hl => by
    simp only [opvs] at hl
    split at hl
    · rename_i v vs' hv hvs
      obtain rfl := Option.some.inj hl
      simp [opv_eval h hv, opvs_eval h hvs]
    · cases hl

/-- the environment, laid open -/
def withEnv (e : Env) (K : Env → Prop) : Prop := match e with
  | ⟨s, l⟩ => K ⟨s, l⟩
theorem withEnv_eq (e : Env) (K : Env → Prop) : withEnv e K = K e := rfl

/-- a test; what is tested stands last, so that the kernel compares it first -/
def brL (p q : Prop) (b : Bool) : Prop := match b with
  | true => p
  | false => q
/-- a test -/
abbrev br (b : Bool) (p q : Prop) : Prop := brL p q b
theorem br_iff {b : Bool} {p q : Prop} : br b p q ↔ (b = true → p) ∧ (b = false → q) := by cases b <;> simp [br, brL]
theorem br_of {b : Bool} {p q : Prop} (h1 : b = true → p) (h2 : b = false → q) : br b p q := br_iff.2 ⟨h1, h2⟩
theorem br_imp {b : Bool} {p q r : Prop} (h : br b p q) (hp : b = true → p → r) (hq : b = false → q → r) : r := by cases b; exact hq rfl h; exact hp rfl h
/-- c && x where both are read -/
abbrev bsel (c x y : Bool) : Bool := match c with
  | true => x
  | false => y

end Go.Vc

namespace Go.Vc

/-! ### words of the conditions -/
def shlI (k : IntKind) (x y : Int) : Int := k.wrap (x * 2 ^ (min y.toNat k.bits))
def shrI (k : IntKind) (x y : Int) : Int := x.fdiv (2 ^ (min y.toNat k.bits))
def andI (k : IntKind) (x y : Int) : Int := k.wrap (BitVec.ofInt k.bits x &&& BitVec.ofInt k.bits y).toNat
def orI (k : IntKind) (x y : Int) : Int := k.wrap (BitVec.ofInt k.bits x ||| BitVec.ofInt k.bits y).toNat
def xorI (k : IntKind) (x y : Int) : Int := k.wrap (BitVec.ofInt k.bits x ^^^ BitVec.ofInt k.bits y).toNat
def andNotI (k : IntKind) (x y : Int) : Int := k.wrap (BitVec.ofInt k.bits x &&& ~~~(BitVec.ofInt k.bits y)).toNat
def notI (k : IntKind) (x : Int) : Int := xorI k (if k.signed then -1 else k.max) x
def minI (x y : Int) : Int := if y < x then y else x
def maxI (x y : Int) : Int := if y > x then y else x
/-- the byte at a place of a text -/
def bt (s : ByteArray) (i : Int) : Int := ((s.data.getD i.toNat 0).toNat : Int)
def seq (a b : ByteArray) : Bool := a.toList == b.toList
def slt (a b : ByteArray) : Bool := Op.bytesLess a.toList b.toList
/-- where a cut of a slice begins -/
def cutAt (m l sz : Nat) (a : Option Addr) : Option Addr := if m = l then a else a.map (·.add (l * sz))

/-- the cells from an address on -/
def CellsAt (h : Heap) (a : Addr) (l : List Value) : Prop := ∀ i v, l[i]? = some v → cell h (a.add i) = some v
/-- the same, spelt out, from the i-th on -/
def cellsFrom (h : Heap) (a : Addr) : Nat → List Value → (Prop → Prop)
  | _, [], p => p
  | i, v :: l, p => cell h (a.add i) = some v ∧ cellsFrom h a (i + 1) l p
/-- the bytes of a slice -/
def bytesV (bs : ByteArray) : List Value := bs.data.toList.map fun b => .int .u8 b.toNat

theorem cellsFrom_spec {h : Heap} {a : Addr} : ∀ {l : List Value} {i : Nat} {p : Prop}, cellsFrom h a i l p → (∀ j v, l[j]? = some v → cell h (a.add (i + j)) = some v) ∧ p
  | [], _, _, H => ⟨by simp, H⟩
  | v :: l, i, _, H => by
    obtain ⟨h1, h2⟩ := H
    obtain ⟨h3, h4⟩ := cellsFrom_spec h2
    refine ⟨fun j u hj => ?_, h4⟩
    cases j with
    | zero => simp at hj; subst hj; exact h1
    | succ j => have := h3 j u (by simpa using hj); rwa [show i + (j + 1) = i + 1 + j by omega]

/-- in which order the operations of a region that draws are looked at: a quiet one that may come now; the only one that may come now; the only two -/
inductive Mix where
  | done
  | quiet (i : Nat) (r : Mix)
  | one (i : Nat) (r : Mix)
  | two (i : Nat) (r : Mix) (j : Nat) (s : Mix)
  | three (i : Nat) (r : Mix) (j : Nat) (s : Mix) (k : Nat) (t : Mix)
  /-- one behind all that reads, in every order: it may write what the others read -/
  | last (i : Nat) (r : Mix)
def Mix.len : Mix → Nat
  | .done => 0
  | .quiet _ r => r.len + 1
  | .one _ r => r.len + 1
  | .two _ r _ _ => r.len + 1
  | .three _ r _ _ _ _ => r.len + 1
  | .last _ r => r.len + 1
def Mix.exempt : Mix → List Nat
  | .done => []
  | .quiet _ r => r.exempt
  | .one _ r => r.exempt
  | .two _ r _ s => r.exempt ++ s.exempt
  | .three _ r _ s _ u => r.exempt ++ (s.exempt ++ u.exempt)
  | .last i r => i :: r.exempt

structure Ann where
  /-- slots whose assignment gets a name of its own -/
  bind : List Nat := []
  /-- slots that are read out of cells which are not written out -/
  opq : List Nat := []
  /-- loops, by the number of their first region: the slots that a round hands on -/
  loops : List (Nat × List (Nat × Sh)) := []
  /-- regions behind which the ways meet: the slots that are handed on -/
  cuts : List (Nat × List (Nat × Sh)) := []
  /-- regions that draw: how (0: the heap stays; 1: it may grow), and how many operations are the quiet head -/
  draws : List (Nat × Nat × Nat) := []
  /-- regions that draw, of the third kind -/
  mixes : List (Nat × Mix) := []
  /-- regions that are never come to -/
  stops : List Nat := []
  /-- the functions whose calls may panic; none: there is nothing that panics -/
  pans : Option (List FuncId) := none
  /-- ranges over functions, by the first region of their body: the slots that yield's arguments come to -/
  rngs : List (Nat × List (Nat × Sh)) := []
  /-- slots that come to hold a function that is known: which, and how many variables it holds -/
  fns : List (Nat × FuncId × Nat) := []
  /-- where a range over a map tells its entry: the slot, the types of its key and of what is there -/
  ents : List (Nat × FuncId × Nat) := []
  /-- calls of a loop's yield are taken -/
  yld : Bool := false
  /-- how the heap is where a panic goes out -/
  pan : Heap → Prop := fun _ => False

/-- no yield -/
@[reducible] def Ann.still (A : Ann) : Ann := { A with yld := false }
def fnOf : List (Nat × FuncId × Nat) → Option Nat → Option (FuncId × Nat)
  | _, none => none
  | [], some _ => none
  | (m, x) :: r, some d => match Nat.beq m d with
    | true => some x
    | false => fnOf r (some d)
def capsV : Nat → (List Value → Prop) → Prop
  | 0, K => K []
  | n + 1, K => ∃ ad : Addr, capsV n fun l => K (.pointer (some ad) :: l)
def fnV (f : FuncId) (n : Nat) (v : Value) (K : Value → Prop) : Prop := capsV n fun l => v = .func (.func f) #[] l.toArray ∧ K (.func (.func f) #[] l.toArray)
/-- what a range goes over -/
def fnG (l : List (Nat × FuncId × Nat)) (g : Operand) (v : Value) (K : Value → Prop) : Prop := match g with
  | .tmp d => match fnOf l (some d) with
    | some (f, n) => fnV f n v K
    | none => K v
  | _ => K v
theorem capsV_out : ∀ (n : Nat) {K : List Value → Prop}, capsV n K → ∃ l, K l
  | 0, _, h => ⟨[], h⟩
  | n + 1, _, ⟨_, h⟩ => let ⟨_, h⟩ := capsV_out n h; ⟨_, h⟩
theorem fnV_out {f : FuncId} {n : Nat} {v : Value} {K : Value → Prop} (h : fnV f n v K) : K v := by
  obtain ⟨l, h1, h2⟩ := capsV_out n h
  rw [h1]; exact h2
theorem fnG_out {l : List (Nat × FuncId × Nat)} {g : Operand} {v : Value} {K : Value → Prop} (h : fnG l g v K) : K v := by
  unfold fnG at h
  split at h
  · split at h
    · exact fnV_out h
    · exact h
  · exact h
def bindV : Value → (Value → Prop) → Prop
  | .int k n, f => ∀ m : Int, m = n → f (.int k m)
  | .bool b, f => ∀ c : Bool, c = b → f (.bool c)
  | .string s, f => ∀ t : ByteArray, t = s → f (.string t)
  | .pointer a, f => ∀ b : Option Addr, b = a → f (.pointer b)
  | .slice a l c, f => ∀ (a' : Option Addr) (l' c' : Nat), a' = a → l' = l → c' = c → f (.slice a' l' c')
  | v, f => f v
theorem bindV_out {v : Value} {f : Value → Prop} (h : bindV v f) : f v := by
  cases v <;> simp only [bindV] at h
  case int => exact h _ rfl
  case bool => exact h _ rfl
  case string => exact h _ rfl
  case pointer => exact h _ rfl
  case slice => exact h _ _ _ rfl rfl rfl
  all_goals exact h

section
variable (P : Program)
def flatF (sh : TypeId → Sh) : List Field → Option (List Sh)
  | [] => some []
  | f :: r => match sh f.type, flatF sh r with
    | .agg _, _ => none
    | .struct l, some m => some (l ++ m)
    | s, some m => some (s :: m)
    | _, none => none
def shOf : Nat → TypeId → Sh
  | 0, _ => .any
  | n + 1, t => match P.underlying t with
    | some (.int k) => .int k
    | some .bool => .bool
    | some .string => .str
    | some (.pointer _) => .ptr
    | some (.slice _) => .slice
    | some (.map _ _) => .map
    | some (.struct fs) => match flatF (shOf n) fs.toList with
      | some l => .struct l
      | none => .agg (P.cellsOf t)
    | some (.array _ _) => .agg (P.cellsOf t)
    | some (.tuple ts) => .tuple (ts.toList.map (shOf n))
    | _ => .any
def sh (t : TypeId) : Sh := shOf P 5 t
end

/-- a load of a variable of type t -/
def ldK (P : Program) (t : TypeId) (h : Heap) (ad : Addr) (K : Option Value → Prop) : Prop :=
  match P.underlying t with
  | some (.struct _) | some (.array _ _) => match sh P t with
    | .struct fs => withShs fs fun vs => cellsFrom h ad 0 vs (vs.length = P.cellsOf t ∧ K (some (.agg vs.toArray)))
    | .agg _ => ∃ cs : Array Value, cs.size = P.cellsOf t ∧ CellsAt h ad cs.toList ∧ K (some (.agg cs))
    | _ => False
  | some _ => withSh (sh P t) fun v => cell h ad = some v ∧ K (some v)
  | none => False

def ifK (k k' : IntKind) (p : Prop) : Prop := if k = k' then p else False
theorem ifK_out {k k' : IntKind} {p : Prop} (h : ifK k k' p) : k = k' ∧ p := by unfold ifK at h; split at h; exact ⟨‹_›, h⟩; exact h.elim
def vcInt (op : BinOp) (k : IntKind) (a : Int) (k' : IntKind) (b : Int) (K : Option Value → Prop) : Prop :=
  match op with
  | .shl => 0 ≤ b ∧ K (some (.int k (shlI k a b)))
  | .shr => 0 ≤ b ∧ K (some (.int k (shrI k a b)))
  | .add => ifK k k' (K (some (.int k (k.wrap (a + b)))))
  | .sub => ifK k k' (K (some (.int k (k.wrap (a - b)))))
  | .mul => ifK k k' (K (some (.int k (k.wrap (a * b)))))
  | .quo => ifK k k' (b ≠ 0 ∧ K (some (.int k (k.wrap (a.tdiv b)))))
  | .rem => ifK k k' (b ≠ 0 ∧ K (some (.int k (a.tmod b))))
  | .and => ifK k k' (K (some (.int k (andI k a b))))
  | .or => ifK k k' (K (some (.int k (orI k a b))))
  | .xor => ifK k k' (K (some (.int k (xorI k a b))))
  | .andNot => ifK k k' (K (some (.int k (andNotI k a b))))
  | .eql => ifK k k' (K (some (.bool (a == b))))
  | .neq => ifK k k' (K (some (.bool (a != b))))
  | .lss => ifK k k' (K (some (.bool (decide (a < b)))))
  | .leq => ifK k k' (K (some (.bool (decide (a ≤ b)))))
  | .gtr => ifK k k' (K (some (.bool (decide (a > b)))))
  | .geq => ifK k k' (K (some (.bool (decide (a ≥ b)))))

def vcStr (op : BinOp) (a b : ByteArray) (K : Option Value → Prop) : Prop :=
  match op with
  | .add => a.size + b.size ≤ 9223372036854775807 ∧ K (some (.string (a ++ b)))
  | .eql => K (some (.bool (seq a b)))
  | .neq => K (some (.bool (!(seq a b))))
  | .lss => K (some (.bool (slt a b)))
  | .leq => K (some (.bool (slt a b || seq a b)))
  | .gtr => K (some (.bool (!(slt a b || seq a b))))
  | .geq => K (some (.bool (!(slt a b))))
  | _ => False

/-- '==' of what is neither a number nor a text: a bool, a pointer or a slice or a map against nil, a row of numbers of one kind. -/
def vcEql (P : Program) (t : TypeId) (h : Heap) (x y : Value) (K : Bool → Prop) : Prop :=
  match x, y with
  | .bool a, .bool b => K (a == b)
  | .pointer a, .pointer none => K a.isNone
  | .pointer a, .pointer (some b) => ∃ c : Bool, (∀ w : World, Ext h w.heap → (Op.equal t (.pointer a) (.pointer (some b))).run P w = .ok c w) ∧ P.eqGuardType P.depth t = false ∧ K c
  | .slice a _ _, .slice none _ _ => K a.isNone
  | .map a, .map none => K a.isNone
  | .func _ _ _, .nilFunc => K false
  | .nilFunc, .nilFunc => K true
  | .iface _ _, .nilIface => K false
  | .agg xs, .agg ys => ∃ b : Bool, (∀ w : World, (Op.equal t (.agg xs) (.agg ys)).run P w = .ok b w) ∧ P.eqGuardType P.depth t = false ∧ K b
  | _, _ => False

/-- The type fits the value, as '==' asks. -/
def fitsB : TypeDesc → Value → Bool
  | .bool, .bool _ | .pointer _, .pointer _ | .slice _, .slice _ _ _ | .map _ _, .map _ | .func _ _ _, .func _ _ _ | .func _ _ _, .nilFunc | .interface _, .iface _ _ => true
  | _, .agg _ => true
  | _, _ => false
/-- '==' at a type that fits. -/
def vcEqlAt (P : Program) (t : TypeId) (h : Heap) (x y : Value) (K : Bool → Prop) : Prop :=
  match P.underlying t with
  | some d => match fitsB d x with
    | true => vcEql P t h x y K
    | false => False
  | none => False
/-- A description of one-celled variables -/
def plainD : TypeDesc → Bool
  | .struct _ | .array _ _ => false
  | _ => true

def vcPure (P : Program) (A : Ann) (o : Oper) (e : Env) (h : Heap) (K : Option Value → Prop) : Prop :=
  match o.op with
  | .move x => match opv e x with
    | some v => match fnOf A.fns o.dst with
      | some (f, n) => fnV f n v fun u => K (some u)
      | none => K (some v)
    | none => False
  | .assign x => match opv e x with
    | some v => match fnOf A.fns o.dst with
      | some (f, n) => fnV f n v fun u => K (some u)
      | none => match o.dst with
        | some d => match A.bind.contains d with
          | true => bindV v fun u => K (some u)
          | false => K (some v)
        | none => K (some v)
    | none => False
  | .pick c x y => match opv e c with
    | some (.bool b) => match opv e x, opv e y with
      | some (.bool u), some (.bool v) => K (some (.bool (bsel b u v)))
      | some u, some v => br b (K (some u)) (K (some v))
      | some u, none => br b (K (some u)) False
      | none, some v => br b False (K (some v))
      | none, none => False
    | _ => False
  | .load t x => match opv e x with
    | some (.pointer (some ad)) => ldK P t h ad K
    | _ => False
  | .nilCheck x => match opv e x with
    | some (.pointer a) => ∃ ad, a = some ad ∧ K (some (.pointer (some ad)))
    | some (.func (.func f) u v) => K (some (.func (.func f) u v))
    | _ => False
  | .binOp op t x y _ => match opv e x, opv e y with
    | some (.int k a), some (.int k' b) => vcInt op k a k' b K
    | some (.string a), some (.string b) => vcStr op a b K
    | some u, some v => match op with
      | .eql => vcEqlAt P t h u v fun b => K (some (.bool b))
      | .neq => vcEqlAt P t h u v fun b => K (some (.bool (!b)))
      | _ => False
    | _, _ => False
  | .unOp op _ x => match op, opv e x with
    | .neg, some (.int k n) => K (some (.int k (k.wrap (0 - n))))
    | .xor, some (.int k n) => K (some (.int k (notI k n)))
    | .not, some (.bool b) => K (some (.bool (!b)))
    | _, _ => False
  | .convert s d x => match opv e x with
    | some (.int _ n) => match P.underlying s, P.underlying d with
      | some _, some (.int k) => K (some (.int k (k.wrap n)))
      | _, _ => False
    | some (.string b) => match P.underlying s, P.underlying d with
      | some (.string), some (.string) => K (some (.string b))
      | _, _ => False
    | some (.slice a l _) => match P.underlying s, P.underlying d with
      | some (.slice el), some (.string) => match P.underlying el with
        | some (.int .u8) => ∃ bs : ByteArray, bs.size = l ∧ (∀ ad, a = some ad → CellsAt h ad (bytesV bs)) ∧ (a = none → l = 0) ∧ K (some (.string bs))
        | _ => False
      | _, _ => False
    | _ => False
  | .slice t x lo hi mx => match mx with
    | some q => match opv e x, opv e q with
      | some (.slice a _ m), some (.int _ v) => match P.underlying t with
        | some (.slice el) => match P.underlying el with
          | none => False
          | some _ => match (match lo with | none => some (Value.int .i64 0) | some p => opv e p), hi with
          | some (.int _ l), some y => match opv e y with
            | some (.int _ u) => 0 ≤ l ∧ l ≤ u ∧ u ≤ v ∧ v ≤ m ∧ K (some (.slice (cutAt v.toNat l.toNat (P.cellsOf el) a) (u.toNat - l.toNat) (v.toNat - l.toNat)))
            | _ => False
          | _, _ => False
        | _ => False
      | _, _ => False
    | none => match opv e x with
      | some (.string s) => match P.underlying t with
        | some (.string) =>
          match (match lo with | none => some (Value.int .i64 0) | some p => opv e p), (match hi with | none => some (Value.int .i64 s.size) | some p => opv e p) with
          | some (.int _ l), some (.int _ u) => 0 ≤ l ∧ l ≤ u ∧ u ≤ s.size ∧ K (some (.string (s.extract l.toNat u.toNat)))
          | _, _ => False
        | _ => False
      | some (.slice a n m) => match P.underlying t with
        | some (.slice el) => match P.underlying el with
          | none => False
          | some _ => match (match lo with | none => some (Value.int .i64 0) | some p => opv e p), hi with
          | some (.int _ l), none => 0 ≤ l ∧ l ≤ n ∧ K (some (.slice (cutAt m l.toNat (P.cellsOf el) a) (n - l.toNat) (m - l.toNat)))
          | some (.int _ l), some q => match opv e q with
            | some (.int _ u) => 0 ≤ l ∧ l ≤ u ∧ u ≤ m ∧ K (some (.slice (cutAt m l.toNat (P.cellsOf el) a) (u.toNat - l.toNat) (m - l.toNat)))
            | _ => False
          | _, _ => False
        | _ => False
      | some (.pointer (some ad)) => match P.underlying t with
        | some (.array n el) => match P.underlying el with
          | none => False
          | some _ => match (match lo with | none => some (Value.int .i64 0) | some p => opv e p), (match hi with | none => some (Value.int .i64 n) | some p => opv e p) with
          | some (.int _ l), some (.int _ u) => 0 ≤ l ∧ l ≤ u ∧ u ≤ n ∧ K (some (.slice (cutAt n l.toNat (P.cellsOf el) (some ad)) (u.toNat - l.toNat) (n - l.toNat)))
          | _, _ => False
        | _ => False
      | _ => False
  | .fieldAddr t x f => match opv e x with
    | some (.pointer (some ad)) => match P.underlying t with
      | some (.struct fs) => match fs[f]? with
        | some fl => match P.cellsOf fl.type with
          | 0 => False
          | _ + 1 => K (some (.pointer (some (ad.add fl.offset))))
        | none => False
      | _ => False
    | _ => False
  | .field t x f => match opv e x with
    | some (.agg cs) => match P.underlying t with
      | some (.struct fs) => match fs[f]? with
        | some fl => match P.underlying fl.type with
          | some (.struct _) | some (.array _ _) => K (some (.agg ((cs.toList.drop fl.offset).take (P.cellsOf fl.type)).toArray))
          | some _ => match o.dst with
            | some d => match A.opq.contains d with
              | true => withSh (sh P fl.type) fun v => cs[fl.offset]? = some v ∧ K (some v)
              | false => match cs.toList[fl.offset]? with
                | some v => K (some v)
                | none => False
            | none => False
          | none => False
        | none => False
      | _ => False
    | _ => False
  | .index t x i => match opv e i with
    | some (.int _ n) => match opv e x with
      | some (.string s) => match P.underlying t with
        | some (.string) => 0 ≤ n ∧ n < s.size ∧ K (some (.int .u8 (bt s n)))
        | _ => False
      | some (.agg cs) => match P.underlying t with
        | some (.array len el) => match P.underlying el with
          | some (.struct _) | some (.array _ _) => 0 ≤ n ∧ n < len ∧ K (some (.agg ((cs.toList.drop (n.toNat * P.cellsOf el)).take (P.cellsOf el)).toArray))
          | some _ => 0 ≤ n ∧ n < len ∧ withSh (sh P el) fun v => cs[n.toNat * P.cellsOf el]? = some v ∧ K (some v)
          | none => False
        | _ => False
      | _ => False
    | _ => False
  | .indexAddr t x i => match opv e i with
    | some (.int _ n) => match opv e x with
      | some (.slice a l _) => match P.underlying t with
        | some (.slice el) => match P.underlying el with
          | none => False
          | some _ => ∃ ad, a = some ad ∧ 0 ≤ n ∧ n < l ∧ K (some (.pointer (some (ad.add (n.toNat * P.cellsOf el)))))
        | _ => False
      | some (.pointer (some ad)) => match P.underlying t with
        | some (.array len el) => match P.underlying el with
          | none => False
          | some _ => 0 ≤ n ∧ n < len ∧ K (some (.pointer (some (ad.add (n.toNat * P.cellsOf el)))))
        | _ => False
      | _ => False
    | _ => False
  | .extract x ix => match opv e x with
    | some (.tuple vs) => match vs.toList[ix]? with
      | some v => K (some v)
      | none => False
    | _ => False
  | .makeInterface t x => match opv e x with
    | some v => match P.underlying t with
      | some (.interface _) => False
      | some _ => K (some (.iface t v))
      | none => False
    | none => False
  | .sliceToArrayPointer t x => match opv e x with
    | some (.slice a l _) => match P.underlying t with
      | some (.array n _) => n ≤ l ∧ ∃ ad, a = some ad ∧ K (some (.pointer (some ad)))
      | _ => False
    | _ => False
  | .makeFunc fn u v => match opvs e u.toList, opvs e v.toList with
    | some us, some vs => K (some (.func fn us.toArray vs.toArray))
    | _, _ => False
  | .call c => match c.callee with
    | .builtin .len => match c.argTypes.toList, opvs e c.args.toList with
      | t :: _, some (v :: _) => match P.underlying t, v with
        | some .string, .string s => K (some (.int .i64 s.size))
        | some (.slice _), .slice _ n _ => K (some (.int .i64 n))
        | some (.array n _), _ => K (some (.int .i64 n))
        | _, _ => False
      | _, _ => False
    | .builtin .cap => match c.argTypes.toList, opvs e c.args.toList with
      | t :: _, some (v :: _) => match P.underlying t, v with
        | some (.slice _), .slice _ _ n => K (some (.int .i64 n))
        | _, _ => False
      | _, _ => False
    | .builtin .min => match opvs e c.args.toList with
      | some [.int k x, .int _ y] => K (some (.int k (minI x y)))
      | some [.int k x, .int _ y, .int _ z] => K (some (.int k (minI (minI x y) z)))
      | _ => False
    | .builtin .max => match opvs e c.args.toList with
      | some [.int k x, .int _ y] => K (some (.int k (maxI x y)))
      | some [.int k x, .int _ y, .int _ z] => K (some (.int k (maxI (maxI x y) z)))
      | _ => False
    | _ => False
  | _ => False

end Go.Vc

namespace Go.Vc
variable {P : Program}

theorem run_und {t : TypeId} {d : TypeDesc} (h : P.underlying t = some d) (w : World) : (underlying t).run P w = .ok d w := by
  unfold underlying; rw [Sem.run_bind]; simp [h]
theorem info_of_und {t : TypeId} {d : TypeDesc} (h : P.underlying t = some d) : ∃ i, P.info? t = some i := by
  unfold Program.underlying at h
  split at h
  · exact ⟨_, ‹_›⟩
  · exact ⟨_, ‹_›⟩
  · cases h
theorem run_size {t : TypeId} {d : TypeDesc} (h : P.underlying t = some d) (w : World) : (sizeOf t).run P w = .ok (P.cellsOf t) w := by
  obtain ⟨i, hi⟩ := info_of_und h
  unfold sizeOf typeInfo; simp [Sem.run_bind, hi, Program.cellsOf]
theorem run_isAgg_true {t : TypeId} {d : TypeDesc} (h : P.underlying t = some d) (hd : plainD d = false) (w : World) : (isAgg t).run P w = .ok true w := by
  unfold isAgg; rw [Sem.run_bind, run_und h]; cases d <;> simp_all [plainD]
theorem run_isAgg_false {t : TypeId} {d : TypeDesc} (h : P.underlying t = some d) (hd : plainD d = true) (w : World) : (isAgg t).run P w = .ok false w := by
  unfold isAgg; rw [Sem.run_bind, run_und h]; cases d <;> simp_all [plainD]

theorem CellsAt.ext {h h' : Heap} {a : Addr} {l : List Value} (c : CellsAt h a l) (x : Ext h h') : CellsAt h' a l := fun i v hv => x.some (c i v hv)

theorem run_cells {w : World} {a : Addr} {l : List Value} (h : CellsAt w.heap a l) : (loadCells a l.length).run P w = .ok l.toArray w :=
  run_loadCells_list (P := P) w a l (fun j v hv => h j v hv)

theorem run_ld {t : TypeId} {h : Heap} {ad : Addr} {K : Option Value → Prop} (H : ldK P t h ad K) :
    ∃ v, K (some v) ∧ ∀ w : World, Ext h w.heap → (loadVar t ad).run P w = .ok v w := by
  have agg : ∀ (d : TypeDesc), P.underlying t = some d → plainD d = false → (match sh P t with
    | .struct fs => withShs fs fun vs => cellsFrom h ad 0 vs (vs.length = P.cellsOf t ∧ K (some (.agg vs.toArray)))
    | .agg _ => ∃ cs : Array Value, cs.size = P.cellsOf t ∧ CellsAt h ad cs.toList ∧ K (some (.agg cs))
    | _ => False) → ∃ v, K (some v) ∧ ∀ w : World, Ext h w.heap → (loadVar t ad).run P w = .ok v w := by
    intro d hd hp H
    split at H
    · obtain ⟨vs, H⟩ := withShs_some H
      obtain ⟨hc, hl, hk⟩ := cellsFrom_spec H
      refine ⟨_, hk, fun w hx => ?_⟩
      have hc' : CellsAt w.heap ad vs := fun i v hv => hx.some (by have := hc i v hv; rwa [Nat.zero_add] at this)
      have hr := run_cells (P := P) hc'
      unfold loadVar
      simp [Sem.run_bind, run_isAgg_true hd hp, run_size hd, ← hl, hr]
    · obtain ⟨cs, hs, hc, hk⟩ := H
      refine ⟨_, hk, fun w hx => ?_⟩
      have hr := run_cells (P := P) (hc.ext hx)
      simp only [Array.length_toList] at hr
      unfold loadVar
      simp [Sem.run_bind, run_isAgg_true hd hp, run_size hd, ← hs, hr]
    · exact H.elim
  unfold ldK at H
  split at H
  · rename_i fs hd; exact agg _ hd rfl H
  · rename_i n el hd; exact agg _ hd rfl H
  · rename_i d h1 h2 hd
    obtain ⟨v, hc, hk⟩ := withSh_some H
    refine ⟨v, hk, fun w hx => ?_⟩
    have hp : plainD d = true := by cases d <;> simp_all [plainD]
    have hc' : w.cell? ad = some v := hx.some hc
    unfold loadVar
    simp [Sem.run_bind, run_isAgg_false hd hp, hc']
  · exact H.elim

theorem run_part {t : TypeId} {cs : Array Value} {off : Nat} {d : TypeDesc} (hd : P.underlying t = some d) (hp : plainD d = false) (w : World) :
    (part t cs off).run P w = .ok (.agg ((cs.toList.drop off).take (P.cellsOf t)).toArray) w := by
  unfold part
  simp only [Sem.run_bind, run_isAgg_true hd hp, Result.andThen_ok, if_true, run_size hd, Sem.run_pure]
  congr 2
  apply Array.ext'
  simp [List.extract_eq_take_drop]
theorem run_part_plain {t : TypeId} {cs : Array Value} {off : Nat} {d : TypeDesc} {v : Value} (hd : P.underlying t = some d) (hp : plainD d = true) (hv : cs[off]? = some v) (w : World) :
    (part t cs off).run P w = .ok v w := by
  unfold part
  simp [Sem.run_bind, run_isAgg_false hd hp, hv]

/-- The operations of a walk that are values at once. -/
def Gives (P : Program) (s : Sem Value) (h : Heap) (v : Value) : Prop := ∀ w : World, Ext h w.heap → s.run P w = .ok v w

theorem run_int {op : BinOp} {t : TypeId} {k k' : IntKind} {a b : Int} {K : Option Value → Prop} (H : vcInt op k a k' b K) :
    ∃ v, K (some v) ∧ ∀ w, (binOp op t (.int k a) (.int k' b)).run P w = .ok v w := by
  cases op <;> simp only [vcInt] at H
  case shl => exact ⟨_, H.2, fun w => by simp [binOp, Op.shift, Int.not_lt.2 H.1, shlI]⟩
  case shr => exact ⟨_, H.2, fun w => by simp [binOp, Op.shift, Int.not_lt.2 H.1, shrI]⟩
  case quo => obtain ⟨rfl, h0, hk⟩ := ifK_out H; exact ⟨_, hk, fun w => by simp [binOp, Op.intDiv, h0]⟩
  case rem => obtain ⟨rfl, h0, hk⟩ := ifK_out H; exact ⟨_, hk, fun w => by simp [binOp, Op.intDiv, h0]⟩
  all_goals
    obtain ⟨rfl, hk⟩ := ifK_out H
    exact ⟨_, hk, fun w => by simp [binOp, Op.intArith, Op.intBits, Op.intCmp, andI, orI, xorI, andNotI]⟩

theorem run_str {op : BinOp} {t : TypeId} {a b : ByteArray} {K : Option Value → Prop} (H : vcStr op a b K) :
    ∃ v, K (some v) ∧ ∀ w, (binOp op t (.string a) (.string b)).run P w = .ok v w := by
  cases op <;> simp only [vcStr] at H
  case add =>
    refine ⟨_, H.2, fun w => ?_⟩
    have : ¬ (((a.size + b.size : Nat) : Int) > IntKind.i64.max) := by
      have h := H.1
      have : IntKind.i64.max = 9223372036854775807 := by decide
      omega
    simp only [binOp, Op.stringOp]
    rw [if_neg this]; simp
  all_goals first | exact H.elim | exact ⟨_, H, fun w => by simp [binOp, Op.stringOp, seq, slt]⟩

end Go.Vc

namespace Go.Vc
set_option linter.unusedSimpArgs false
variable {P : Program}

theorem vcEql_sound {t : TypeId} {h : Heap} {x y : Value} {ox oy : Operand} {K : Bool → Prop} (H : vcEqlAt P t h x y K) :
    ∃ b, K b ∧ ∀ (op : BinOp) w, Ext h w.heap → (eqGuard op t ox oy x y).run P w = .ok () w ∧ (binOp .eql t x y).run P w = .ok (.bool b) w ∧ (binOp .neq t x y).run P w = .ok (.bool (!b)) w := by
  unfold vcEqlAt at H
  split at H
  case h_2 => exact H.elim
  rename_i d hu
  split at H
  case h_2 => exact H.elim
  rename_i hd
  have go : ∀ b, (∀ n w, (Op.equalIn (n + 1) t x y).run P w = .ok b w) → (∀ op w, (eqGuard op t ox oy x y).run P w = .ok () w) → ((∀ w, (Op.equal t x y).run P w = .ok b w) → ∀ w, (binOp .eql t x y).run P w = .ok (.bool b) w ∧ (binOp .neq t x y).run P w = .ok (.bool (!b)) w) → K b → ∃ b, K b ∧ ∀ (op : BinOp) w, Ext h w.heap → (eqGuard op t ox oy x y).run P w = .ok () w ∧ (binOp .eql t x y).run P w = .ok (.bool b) w ∧ (binOp .neq t x y).run P w = .ok (.bool (!b)) w :=
    fun b h1 h2 h4 h3 => ⟨b, h3, fun op w _ => ⟨h2 op w, h4 (fun w => h1 9999 w) w⟩⟩
  unfold vcEql at H
  split at H
  · cases d <;> simp [fitsB] at hd
    exact go _ (fun n w => by simp [Op.equalIn, run_und hu]) (fun op w => by unfold eqGuard; cases op <;> simp) (fun h w => by constructor <;> simp [binOp, h w]) H
  · cases d <;> simp [fitsB] at hd
    rename_i p _
    exact go _ (fun n w => by cases p <;> simp [Op.equalIn, run_und hu]) (fun op w => by unfold eqGuard; cases op <;> simp) (fun h w => by constructor <;> simp [binOp, h w]) H
  · obtain ⟨b, hr, hg, hk⟩ := H
    exact ⟨b, hk, fun op w hw => ⟨by unfold eqGuard; cases op <;> simp [hg], by simp [binOp, hr w hw], by simp [binOp, hr w hw]⟩⟩
  · cases d <;> simp [fitsB] at hd
    rename_i p _ _ _ _ _
    exact go _ (fun n w => by cases p <;> simp [Op.equalIn, run_und hu]) (fun op w => by unfold eqGuard; cases op <;> simp) (fun h w => by constructor <;> simp [binOp, h w]) H
  · cases d <;> simp [fitsB] at hd
    rename_i p _ _
    exact go _ (fun n w => by cases p <;> simp [Op.equalIn, run_und hu]) (fun op w => by unfold eqGuard; cases op <;> simp) (fun h w => by constructor <;> simp [binOp, h w]) H
  · cases d <;> simp [fitsB] at hd
    exact go _ (fun n w => by simp [Op.equalIn, run_und hu]) (fun op w => by unfold eqGuard; cases op <;> simp) (fun h w => by constructor <;> simp [binOp, h w]) H
  · cases d <;> simp [fitsB] at hd
    exact go _ (fun n w => by simp [Op.equalIn, run_und hu]) (fun op w => by unfold eqGuard; cases op <;> simp) (fun h w => by constructor <;> simp [binOp, h w]) H
  · cases d <;> simp [fitsB] at hd
    exact go _ (fun n w => by simp [Op.equalIn, run_und hu]) (fun op w => by unfold eqGuard; cases op <;> simp) (fun h w => by constructor <;> simp [binOp, h w]) H
  · obtain ⟨b, hr, hg, hk⟩ := H
    exact ⟨b, hk, fun op w _ => ⟨by unfold eqGuard; cases op <;> simp [hg], by simp [binOp, hr w], by simp [binOp, hr w]⟩⟩
  · exact H.elim

theorem foldl_bytes (l : List UInt8) (d : Array UInt8) : l.foldl (fun s b => (⟨s.data.push b⟩ : ByteArray)) ⟨d⟩ = ⟨d ++ l.toArray⟩ := by
  induction l generalizing d with
  | nil => simp
  | cons b l ih => simp only [List.foldl_cons, ih]; congr 1; apply Array.ext'; simp

theorem run_bytesToString {w : World} {a : Option Addr} {l c : Nat} (bs : ByteArray) (hl : bs.size = l) (hc : ∀ ad, a = some ad → CellsAt w.heap ad (bytesV bs)) (hn : a = none → l = 0) :
    (Conv.bytesToString (.slice a l c)).run P w = .ok (.string bs) w := by
  cases a with
  | none =>
    have : bs = .empty := by
      have h := hn rfl
      rw [h] at hl
      cases bs with | mk d => simp [ByteArray.size] at hl; subst hl; rfl
    simp [Conv.bytesToString, this]
  | some ad =>
    have hr := run_cells (P := P) (hc ad rfl)
    have hlen : (bytesV bs).length = l := by simp [bytesV, ← hl]
    rw [hlen] at hr
    have h2 := foldl_bytes bs.data.toList #[]
    simp [Conv.bytesToString, hr, bytesV, ByteArray.push, ByteArray.empty, ByteArray.emptyWithCapacity]
    have h3 := Array.foldl_toList (f := fun (b : ByteArray) a => (⟨b.data.push a⟩ : ByteArray)) (init := ⟨#[]⟩) (xs := bs.data)
    rw [h2] at h3
    have h4 : (⟨#[] ++ bs.data.toList.toArray⟩ : ByteArray) = bs := by simp
    exact (h4.symm.trans h3).symm

theorem run_sliceBounds {w : World} {b : Bool} {n c : Nat} {lo hi : Option Value} (l u : Int) (hl : (lo = none ∧ l = 0) ∨ ∃ k, lo = some (.int k l)) (hu : (hi = none ∧ u = n) ∨ ∃ k, hi = some (.int k u)) (h0 : 0 ≤ l) (h1 : l ≤ u)
    (h2 : u ≤ c ∨ (hi = none ∧ u = n)) : (Instr.sliceBounds b n c lo hi none).run P w = .ok (l.toNat, u.toNat, c) w := by
  have hi' : ∀ k (y : Int) (z : Nat) code, 0 ≤ y → y ≤ z → (Instr.sliceBound (.int k y) z code).run P w = .ok y.toNat w := by
    intro k y z code g0 g1
    simp [Instr.sliceBound, asIntOf, g0, g1]
  unfold Instr.sliceBounds
  rcases hu with ⟨rfl, hu⟩ | ⟨ku, rfl⟩
  · subst hu
    rcases hl with ⟨rfl, rfl⟩ | ⟨kl, rfl⟩
    · simp
    · simp [hi' _ _ _ _ h0 h1]
  · have h2' : u ≤ c := by rcases h2 with h | ⟨h, _⟩; exact h; cases h
    have hu0 : 0 ≤ u := by omega
    rcases hl with ⟨rfl, rfl⟩ | ⟨kl, rfl⟩
    · simp [hi' _ _ _ _ hu0 h2']
    · have hlu : l ≤ (u.toNat : Int) := by omega
      simp [hi' _ _ _ _ hu0 h2', hi' _ _ _ _ h0 hlu]
theorem run_sliceBounds3 {w : World} {b : Bool} {n c : Nat} {lo : Option Value} {ku kv : IntKind} (l u v : Int) (hl : (lo = none ∧ l = 0) ∨ ∃ k, lo = some (.int k l)) (h0 : 0 ≤ l) (h1 : l ≤ u)
    (h2 : u ≤ v) (h3 : v ≤ c) : (Instr.sliceBounds b n c lo (some (.int ku u)) (some (.int kv v))).run P w = .ok (l.toNat, u.toNat, v.toNat) w := by
  have hi' : ∀ k (y : Int) (z : Nat) code, 0 ≤ y → y ≤ z → (Instr.sliceBound (.int k y) z code).run P w = .ok y.toNat w := by
    intro k y z code g0 g1
    simp [Instr.sliceBound, asIntOf, g0, g1]
  unfold Instr.sliceBounds
  have g1 : u ≤ (v.toNat : Int) := by omega
  have g2 : l ≤ (u.toNat : Int) := by omega
  rcases hl with ⟨rfl, rfl⟩ | ⟨kl, rfl⟩
  · simp [hi' _ _ _ _ (show 0 ≤ v by omega) h3, hi' _ _ _ _ (show 0 ≤ u by omega) g1]
  · simp [hi' _ _ _ _ (show 0 ≤ v by omega) h3, hi' _ _ _ _ (show 0 ≤ u by omega) g1, hi' _ _ _ _ h0 g2]
theorem sliceLo {e : Env} {a : Act} {lo : Option Operand} {k : IntKind} {l : Int} (hA : Agree e a.tmps) (h : (match lo with | none => some (Value.int .i64 0) | some p => opv e p) = some (.int k l)) :
    (lo.map a.eval = none ∧ l = 0) ∨ ∃ k, lo.map a.eval = some (.int k l) := by
  cases lo with
  | none => simp at h; exact .inl ⟨rfl, h.2.symm⟩
  | some p => exact .inr ⟨k, by simp [opv_eval hA h]⟩
theorem sliceHi {e : Env} {a : Act} {hi : Option Operand} {k : IntKind} {u : Int} {n : Nat} (hA : Agree e a.tmps) (h : (match hi with | none => some (Value.int .i64 n) | some p => opv e p) = some (.int k u)) :
    (hi.map a.eval = none ∧ u = n) ∨ ∃ k, hi.map a.eval = some (.int k u) := by
  cases hi with
  | none => simp at h; exact .inl ⟨rfl, h.2.symm⟩
  | some p => exact .inr ⟨k, by simp [opv_eval hA h]⟩

theorem vcPure_sound {A : Ann} {o : Oper} {e : Env} {h : Heap} {K : Option Value → Prop} {a : Act} (hA : Agree e a.tmps) (H : vcPure P A o e h K) :
    ∃ v, K (some v) ∧ ∀ w : World, Ext h w.heap → (execOp a.eval o).run P w = .ok (.value v) w := by
  obtain ⟨dst, op, ty, pos, after, guard⟩ := o
  cases op with
  | move x =>
    simp only [vcPure] at H
    split at H
    · rename_i v hv
      have hk : K (some v) := by
        split at H
        · exact fnV_out (K := fun u => K (some u)) H
        · exact H
      exact ⟨v, hk, fun w _ => by simp [execOp, opv_eval hA hv]⟩
    · exact H.elim
  | assign x =>
    simp only [vcPure] at H
    split at H
    · rename_i v hv
      have hk : K (some v) := by
        split at H
        · exact fnV_out (K := fun u => K (some u)) H
        · split at H
          · split at H
            · exact bindV_out H
            · exact H
          · exact H
      exact ⟨v, hk, fun w _ => by simp [execOp, opv_eval hA hv]⟩
    · exact H.elim
  | pick c x y =>
    simp only [vcPure] at H
    split at H
    · rename_i b hb
      have hc := opv_eval hA hb
      split at H
      · rename_i u v hu hv
        have h1 := opv_eval hA hu
        have h2 := opv_eval hA hv
        refine ⟨_, H, fun w _ => ?_⟩
        cases b <;> simp [execOp, hc, asBool, h1, h2, bsel]
      · rename_i u v _ hu hv
        have h1 := opv_eval hA hu
        have h2 := opv_eval hA hv
        cases b
        · exact ⟨v, H, fun w _ => by simp [execOp, hc, asBool, h2]⟩
        · exact ⟨u, H, fun w _ => by simp [execOp, hc, asBool, h1]⟩
      · rename_i u hu hv
        have h1 := opv_eval hA hu
        cases b
        · exact H.elim
        · exact ⟨u, H, fun w _ => by simp [execOp, hc, asBool, h1]⟩
      · rename_i v hu hv
        have h2 := opv_eval hA hv
        cases b
        · exact ⟨v, H, fun w _ => by simp [execOp, hc, asBool, h2]⟩
        · exact H.elim
      · exact H.elim
    · exact H.elim
  | load t x =>
    simp only [vcPure] at H
    split at H
    · rename_i ad hv
      obtain ⟨v, hk, hr⟩ := run_ld H
      exact ⟨v, hk, fun w hw => by simp [execOp, opv_eval hA hv, Instr.loadAt, Instr.sureAddr, Sem.run_bind, hr w hw]⟩
    · exact H.elim
  | nilCheck x =>
    simp only [vcPure] at H
    split at H
    · rename_i p hv
      obtain ⟨ad, rfl, hk⟩ := H
      exact ⟨_, hk, fun w _ => by simp [execOp, opv_eval hA hv]⟩
    · rename_i f u v hv
      exact ⟨_, H, fun w _ => by simp [execOp, opv_eval hA hv]⟩
    · exact H.elim
  | binOp op t x y yt =>
    simp only [vcPure] at H
    split at H
    · rename_i k p k' q hx hy
      obtain ⟨v, hk, hr⟩ := run_int (P := P) (t := t) H
      refine ⟨v, hk, fun w _ => ?_⟩
      simp [execOp, opv_eval hA hx, opv_eval hA hy, eqGuard, Sem.run_bind, hr w]
    · rename_i p q hx hy
      obtain ⟨v, hk, hr⟩ := run_str (P := P) (t := t) H
      refine ⟨v, hk, fun w _ => ?_⟩
      simp [execOp, opv_eval hA hx, opv_eval hA hy, eqGuard, Sem.run_bind, hr w]
    · rename_i u v hnn hss hx hy
      cases op <;> simp only at H
      case eql =>
        obtain ⟨b, hk, hr⟩ := vcEql_sound (ox := x) (oy := y) H
        exact ⟨_, hk, fun w hw => by simp [execOp, opv_eval hA hx, opv_eval hA hy, (hr .eql w hw).1, (hr .eql w hw).2.1]⟩
      case neq =>
        obtain ⟨b, hk, hr⟩ := vcEql_sound (ox := x) (oy := y) H
        exact ⟨_, hk, fun w hw => by simp [execOp, opv_eval hA hx, opv_eval hA hy, (hr .neq w hw).1, (hr .neq w hw).2.2]⟩
      all_goals exact H.elim
    · exact H.elim
  | unOp op t x =>
    simp only [vcPure] at H
    split at H
    · rename_i k n hx; exact ⟨_, H, fun w _ => by simp [execOp, opv_eval hA hx, Op.unary, Op.intArith]⟩
    · rename_i k n hx; exact ⟨_, H, fun w _ => by simp [execOp, opv_eval hA hx, Op.unary, Op.intBits, notI, xorI]⟩
    · rename_i b hx; exact ⟨_, H, fun w _ => by simp [execOp, opv_eval hA hx, Op.unary]⟩
    · exact H.elim
  | convert s d x =>
    simp only [vcPure] at H
    split at H
    · rename_i k n hx
      split at H
      · rename_i d1 k1 h1 h2
        exact ⟨_, H, fun w _ => by simp [execOp, opv_eval hA hx, convert, run_und h1, run_und h2, Conv.intToInt]⟩
      · exact H.elim
    · rename_i b hx
      split at H
      · rename_i h1 h2
        exact ⟨_, H, fun w _ => by simp [execOp, opv_eval hA hx, convert, run_und h1, run_und h2]⟩
      · exact H.elim
    · rename_i p l c hx
      split at H
      · rename_i el h1 h2
        split at H
        · rename_i h3
          obtain ⟨bs, hl, hc, hn, hk⟩ := H
          refine ⟨_, hk, fun w hw => ?_⟩
          have := run_bytesToString (P := P) (w := w) (a := p) (l := l) (c := c) bs hl (fun ad h => (hc ad h).ext hw) hn
          simp [execOp, opv_eval hA hx, convert, run_und h1, run_und h2, run_und h3, this]
        · exact H.elim
      · exact H.elim
    · exact H.elim
  | slice t x lo hi mx =>
    simp only [vcPure] at H
    split at H
    · rename_i q
      split at H
      case h_2 => exact H.elim
      rename_i p n m kv v hx hq
      split at H
      case h_2 => exact H.elim
      rename_i el ht
      split at H
      · exact H.elim
      rename_i d hd
      split at H
      case h_2 => exact H.elim
      rename_i kl l y hl
      split at H
      case h_2 => exact H.elim
      rename_i ku u hu
      obtain ⟨h0, h1, h2, h3, hk⟩ := H
      refine ⟨_, hk, fun w _ => ?_⟩
      have := run_sliceBounds3 (P := P) (b := true) (w := w) (n := n) (c := m) (lo := lo.map a.eval) (ku := ku) (kv := kv) l u v (sliceLo hA hl) h0 h1 h2 h3
      simp [execOp, opv_eval hA hx, opv_eval hA hq, opv_eval hA hu, Instr.sliceAt, run_und ht, Instr.slice, this, run_size hd, cutAt]
    split at H
    · rename_i s hx
      split at H
      · rename_i ht
        split at H
        · rename_i kl l ku u hl hu
          obtain ⟨h0, h1, h2, hk⟩ := H
          refine ⟨_, hk, fun w _ => ?_⟩
          have := run_sliceBounds (P := P) (b := false) (w := w) (n := s.size) (c := s.size) (lo := lo.map a.eval) (hi := hi.map a.eval) l u (sliceLo hA hl) (sliceHi hA hu) h0 h1 (.inl h2)
          simp [execOp, opv_eval hA hx, Instr.sliceAt, run_und ht, Instr.slice, this]
        · exact H.elim
      · exact H.elim
    · rename_i p n m hx
      split at H
      · rename_i el ht
        split at H
        · exact H.elim
        rename_i d hd
        split at H
        · rename_i kl l hl
          obtain ⟨h0, h1, hk⟩ := H
          refine ⟨_, hk, fun w _ => ?_⟩
          have := run_sliceBounds (P := P) (b := true) (w := w) (n := n) (c := m) (lo := lo.map a.eval) (hi := none) l n (sliceLo hA hl) (.inl ⟨rfl, rfl⟩) h0 h1 (.inr ⟨rfl, rfl⟩)
          simp [execOp, opv_eval hA hx, Instr.sliceAt, run_und ht, Instr.slice, this, run_size hd, cutAt]
        · rename_i kl l q hl
          split at H
          · rename_i ku u hq
            obtain ⟨h0, h1, h2, hk⟩ := H
            refine ⟨_, hk, fun w _ => ?_⟩
            have := run_sliceBounds (P := P) (b := true) (w := w) (n := n) (c := m) (lo := lo.map a.eval) (hi := some (a.eval q)) l u (sliceLo hA hl) (.inr ⟨ku, by rw [opv_eval hA hq]⟩) h0 h1 (.inl h2)
            simp [execOp, opv_eval hA hx, Instr.sliceAt, run_und ht, Instr.slice, this, run_size hd, cutAt]
          · exact H.elim
        · exact H.elim
      · exact H.elim
    · rename_i ad hx
      split at H
      · rename_i n el ht
        split at H
        · exact H.elim
        rename_i d hd
        split at H
        · rename_i kl l ku u hl hu
          obtain ⟨h0, h1, h2, hk⟩ := H
          refine ⟨_, hk, fun w _ => ?_⟩
          have := run_sliceBounds (P := P) (b := false) (w := w) (n := n) (c := n) (lo := lo.map a.eval) (hi := hi.map a.eval) l u (sliceLo hA hl) (sliceHi hA hu) h0 h1 (.inl h2)
          have hc : (some (if n = l.toNat then ad else ad.add (l.toNat * P.cellsOf el))) = cutAt n l.toNat (P.cellsOf el) (some ad) := by unfold cutAt; split <;> rfl
          simp only [execOp, opv_eval hA hx, Instr.sliceAt, Instr.sureAddr, Sem.run_bind, run_und ht, Result.andThen_ok, Sem.run_pure, Option.map_none, this, run_size hd]
          rw [← hc]
        · exact H.elim
      · exact H.elim
    · exact H.elim
  | fieldAddr t x f =>
    simp only [vcPure] at H
    split at H
    · rename_i ad hx
      split at H
      · rename_i fs ht
        split at H
        · rename_i fl hf
          split at H
          · exact H.elim
          · rename_i n hn
            refine ⟨_, H, fun w _ => ?_⟩
            have hs : (sizeOf fl.type).run P w = .ok (n + 1) w := by
              have : ∃ i, P.info? fl.type = some i ∧ i.size = n + 1 := by
                unfold Program.cellsOf at hn
                cases hi : P.info? fl.type with
                | none => simp [hi] at hn
                | some i => exact ⟨i, rfl, by simpa [hi] using hn⟩
              obtain ⟨i, hi, hn'⟩ := this
              unfold sizeOf typeInfo; simp [Sem.run_bind, hi, hn']
            simp [execOp, opv_eval hA hx, Instr.fieldAt, Instr.sureAddr, run_und ht, hf, fieldPlace, hs]
        · exact H.elim
      · exact H.elim
    · exact H.elim
  | field t x f =>
    simp only [vcPure] at H
    split at H
    case h_2 => exact H.elim
    rename_i cs hx
    split at H
    case h_2 => exact H.elim
    rename_i fs ht
    split at H
    case h_2 => exact H.elim
    rename_i fl hf
    split at H
    · rename_i d hd
      exact ⟨_, H, fun w _ => by simp [execOp, opv_eval hA hx, Instr.field, run_und ht, hf, asAgg, run_part hd rfl]⟩
    · rename_i d hd
      exact ⟨_, H, fun w _ => by simp [execOp, opv_eval hA hx, Instr.field, run_und ht, hf, asAgg, run_part hd rfl]⟩
    · rename_i d h1 h2 hd
      have hp : plainD d = true := by cases d <;> simp_all [plainD]
      split at H
      · split at H
        · obtain ⟨v, hv, hk⟩ := withSh_some H
          exact ⟨v, hk, fun w _ => by simp [execOp, opv_eval hA hx, Instr.field, run_und ht, hf, asAgg, run_part_plain hd hp hv]⟩
        · split at H
          · rename_i v hv
            have hv' : cs[fl.offset]? = some v := by simpa using hv
            exact ⟨v, H, fun w _ => by simp [execOp, opv_eval hA hx, Instr.field, run_und ht, hf, asAgg, run_part_plain hd hp hv']⟩
          · exact H.elim
      · exact H.elim
    · exact H.elim
  | index t x i =>
    simp only [vcPure] at H
    split at H
    case h_2 => exact H.elim
    rename_i k n hi
    split at H
    · rename_i s hx
      split at H
      case h_2 => exact H.elim
      rename_i ht
      obtain ⟨h0, h1, hk⟩ := H
      have hb : s[n.toNat]? = some (s.data.getD n.toNat 0) := by
        have hl : n.toNat < s.size := by omega
        have hl2 : n.toNat < s.data.size := hl
        rw [show s[n.toNat]? = s.data[n.toNat]? from by simp [getElem?, decidableGetElem?, hl2, hl]; rfl]
        rw [Array.getD_eq_getD_getElem?, Array.getElem?_eq_getElem hl2]; rfl
      refine ⟨_, hk, fun w _ => ?_⟩
      simp [execOp, opv_eval hA hi, opv_eval hA hx, Instr.index, asIntOf, run_und ht, h0, hb, bt]
    · rename_i cs hx
      split at H
      case h_2 => exact H.elim
      rename_i len el ht
      split at H
      · rename_i d hd
        obtain ⟨h0, h1, hk⟩ := H
        exact ⟨_, hk, fun w _ => by simp [execOp, opv_eval hA hi, opv_eval hA hx, Instr.index, asIntOf, run_und ht, h0, h1, run_size hd, run_part hd rfl]⟩
      · rename_i d hd
        obtain ⟨h0, h1, hk⟩ := H
        exact ⟨_, hk, fun w _ => by simp [execOp, opv_eval hA hi, opv_eval hA hx, Instr.index, asIntOf, run_und ht, h0, h1, run_size hd, run_part hd rfl]⟩
      · rename_i d g1 g2 hd
        obtain ⟨h0, h1, H⟩ := H
        have hp : plainD d = true := by cases d <;> simp_all [plainD]
        obtain ⟨v, hv, hk⟩ := withSh_some H
        exact ⟨v, hk, fun w _ => by simp [execOp, opv_eval hA hi, opv_eval hA hx, Instr.index, asIntOf, run_und ht, h0, h1, run_size hd, run_part_plain hd hp hv]⟩
      · exact H.elim
    · exact H.elim
  | indexAddr t x i =>
    simp only [vcPure] at H
    split at H
    case h_2 => exact H.elim
    rename_i k n hi
    split at H
    · rename_i p l c hx
      split at H
      case h_2 => exact H.elim
      rename_i el ht
      split at H
      · exact H.elim
      rename_i d hd
      obtain ⟨ad, rfl, h0, h1, hk⟩ := H
      exact ⟨_, hk, fun w _ => by simp [execOp, opv_eval hA hi, opv_eval hA hx, Instr.indexAt, asIntOf, run_und ht, h0, h1, run_size hd]⟩
    · rename_i ad hx
      split at H
      case h_2 => exact H.elim
      rename_i len el ht
      split at H
      · exact H.elim
      rename_i d hd
      obtain ⟨h0, h1, hk⟩ := H
      exact ⟨_, hk, fun w _ => by simp [execOp, opv_eval hA hi, opv_eval hA hx, Instr.indexAt, Instr.sureAddr, asIntOf, run_und ht, h0, h1, run_size hd]⟩
    · exact H.elim
  | extract x ix =>
    simp only [vcPure] at H
    split at H
    case h_2 => exact H.elim
    rename_i vs hx
    split at H
    case h_2 => exact H.elim
    rename_i v hv
    have hv' : vs[ix]? = some v := by simpa using hv
    exact ⟨v, H, fun w _ => by simp [execOp, opv_eval hA hx, Instr.extract, hv']⟩
  | makeInterface t x =>
    simp only [vcPure] at H
    split at H
    case h_2 => exact H.elim
    rename_i v hx
    split at H
    · exact H.elim
    · rename_i d hn hd
      refine ⟨_, H, fun w _ => ?_⟩
      have : ∀ ms, d ≠ .interface ms := fun ms h => hn ms (by rw [← h])
      simp only [execOp, opv_eval hA hx, Instr.makeInterface, Sem.run_bind, run_und hd, Result.andThen_ok]
      cases d <;> simp_all
    · exact H.elim
  | sliceToArrayPointer t x =>
    simp only [vcPure] at H
    split at H
    case h_2 => exact H.elim
    rename_i p l c hx
    split at H
    case h_2 => exact H.elim
    rename_i n el ht
    obtain ⟨hle, ad, rfl, hk⟩ := H
    exact ⟨_, hk, fun w _ => by simp [execOp, opv_eval hA hx, Instr.arrayAt, run_und ht, Nat.not_lt.2 hle]⟩
  | makeFunc fn u v =>
    simp only [vcPure] at H
    split at H
    case h_2 => exact H.elim
    rename_i us vs hu hv
    refine ⟨_, H, fun w _ => ?_⟩
    have e1 : u.map a.eval = us.toArray := by apply Array.ext'; simpa using opvs_eval hA hu
    have e2 : v.map a.eval = vs.toArray := by apply Array.ext'; simpa using opvs_eval hA hv
    simp [execOp, Instr.makeFunc, e1, e2]
  | call c =>
    obtain ⟨callee, args, tys⟩ := c
    simp only [vcPure] at H
    split at H
    · split at H
      case h_2 => exact H.elim
      rename_i t ts v vs ht hv
      have e1 := opvs_eval hA hv
      obtain ⟨x, args', rfl⟩ : ∃ x l, args = (x :: l).toArray := by
        cases h : args.toList with
        | nil => rw [h] at e1; simp at e1
        | cons x l => exact ⟨x, l, by apply Array.ext'; simpa using h⟩
      obtain rfl : tys = (t :: ts).toArray := by apply Array.ext'; simpa using ht
      simp only [List.toList_toArray, List.map_cons, List.cons.injEq] at e1
      obtain ⟨e1, e2⟩ := e1
      split at H
      · rename_i hu; exact ⟨_, H, fun w _ => by simp [execOp, resolve, invoke, builtin, Builtin.len_, e1, run_und hu, goInt]⟩
      · rename_i hu; exact ⟨_, H, fun w _ => by simp [execOp, resolve, invoke, builtin, Builtin.len_, e1, run_und hu, goInt]⟩
      · rename_i hu; exact ⟨_, H, fun w _ => by simp [execOp, resolve, invoke, builtin, Builtin.len_, e1, run_und hu, goInt]⟩
      · exact H.elim
    · split at H
      case h_2 => exact H.elim
      rename_i t ts v vs ht hv
      have e1 := opvs_eval hA hv
      obtain ⟨x, args', rfl⟩ : ∃ x l, args = (x :: l).toArray := by
        cases h : args.toList with
        | nil => rw [h] at e1; simp at e1
        | cons x l => exact ⟨x, l, by apply Array.ext'; simpa using h⟩
      obtain rfl : tys = (t :: ts).toArray := by apply Array.ext'; simpa using ht
      simp only [List.toList_toArray, List.map_cons, List.cons.injEq] at e1
      obtain ⟨e1, e2⟩ := e1
      split at H
      · rename_i hu; exact ⟨_, H, fun w _ => by simp [execOp, resolve, invoke, builtin, Builtin.cap_, e1, run_und hu, goInt]⟩
      · exact H.elim
    · split at H
      · rename_i hv
        have e1 := opvs_eval hA hv
        exact ⟨_, H, fun w _ => by simp [execOp, resolve, invoke, builtin, Builtin.min_, Array.toList_map, e1, Builtin.min2, minI]⟩
      · rename_i hv
        have e1 := opvs_eval hA hv
        exact ⟨_, H, fun w _ => by simp [execOp, resolve, invoke, builtin, Builtin.min_, Array.toList_map, e1, Builtin.min2, minI]; rfl⟩
      · exact H.elim
    · split at H
      · rename_i hv
        have e1 := opvs_eval hA hv
        exact ⟨_, H, fun w _ => by simp [execOp, resolve, invoke, builtin, Builtin.max_, Array.toList_map, e1, Builtin.max2, maxI]⟩
      · rename_i hv
        have e1 := opvs_eval hA hv
        exact ⟨_, H, fun w _ => by simp [execOp, resolve, invoke, builtin, Builtin.max_, Array.toList_map, e1, Builtin.max2, maxI]⟩
      · exact H.elim
    · exact H.elim
  | _ => exact H.elim
end Go.Vc
