import Derived.WalkKit
import Derived.KernelRfl
import Derived.CallsIn
import Derived.StillTail
import Derived.Deep.Quiet
import Derived.ScopeJumps


namespace Go.Vd

abbrev Heap := Array Obj
/-- the head of a block -/
@[reducible] def at0 (b : Nat) : Addr := ⟨b, 0, none⟩

def cell (h : Heap) (a : Addr) : Option Value :=
  match h[a.block]? with
  | some (.cells c _ _) => if a.spot.isSome then none else c[a.off]?
  | _ => none
def frz (h : Heap) (a : Addr) : Bool :=
  match h[a.block]? with
  | some (.cells _ _ (lo, hi)) => lo ≤ a.off && a.off < hi
  | _ => false
theorem cell_eq (w : World) (a : Addr) : w.cell? a = cell w.heap a := rfl
theorem frz_eq (w : World) (a : Addr) : w.frozen? a = frz w.heap a := rfl

/-- The streams and the tape are as they were. -/
structure Kin (w w' : World) : Prop where
  os : w'.os = w.os
  tape : w'.tape = w.tape
  output : w'.output = w.output
  drawn : w.drawn ≤ w'.drawn
theorem Kin.refl (w : World) : Kin w w := ⟨rfl, rfl, rfl, by first | exact Nat.le_refl _ | exact Nat.le_succ _⟩
theorem Kin.trans {a b c : World} (h : Kin a b) (k : Kin b c) : Kin a c := ⟨k.os.trans h.os, k.tape.trans h.tape, k.output.trans h.output, Nat.le_trans h.drawn k.drawn⟩

/-- h' is h with more blocks behind it. -/
structure Ext (h h' : Heap) : Prop where
  size : h.size ≤ h'.size
  block : ∀ k, k < h.size → h'[k]? = h[k]?
theorem Ext.refl (h : Heap) : Ext h h := ⟨Nat.le_refl _, fun _ _ => rfl⟩
theorem Ext.trans {a b c : Heap} (h : Ext a b) (k : Ext b c) : Ext a c :=
  ⟨Nat.le_trans h.size k.size, fun i hi => (k.block i (Nat.lt_of_lt_of_le hi h.size)).trans (h.block i hi)⟩
theorem lt_of_cell {h : Heap} {a : Addr} {v : Value} (hc : cell h a = some v) : a.block < h.size := by
  by_cases hlt : a.block < h.size
  · exact hlt
  · have hn : h[a.block]? = none := by simp; omega
    simp [cell, hn] at hc
theorem Ext.cell {h h' : Heap} (x : Ext h h') {a : Addr} (hb : a.block < h.size) : cell h' a = cell h a := by
  unfold Vd.cell; rw [x.block _ hb]
theorem Ext.some {h h' : Heap} (x : Ext h h') {a : Addr} {v : Value} (hc : Vd.cell h a = some v) : Vd.cell h' a = some v :=
  (x.cell (lt_of_cell hc)).trans hc
theorem Ext.frz {h h' : Heap} (x : Ext h h') {a : Addr} (hb : a.block < h.size) : frz h' a = frz h a := by
  unfold Vd.frz; rw [x.block _ hb]
theorem Ext.push (h : Heap) (o : Obj) : Ext h (h.push o) := ⟨by simp, fun k hk => by rw [Array.getElem?_push, if_neg (by omega)]⟩

/-- Entered over the heap h, the function returns a value and leaves a heap, as R says; nothing else of the world has turned but the count of draws. -/
def HBody (P : Program) (f : FuncId) (args : Array Value) (h : Heap) (R : Value → Heap → Prop) : Prop :=
  ∀ w : World, w.heap = h → Calls P f args w fun e w' => ∃ v, e = .returned v ∧ Kin w w' ∧ R v w'.heap
/-- THE CONTRACT: the same of a call of it: of a function with a Go body, or of one that the model answers by itself. -/
def HCalls (P : Program) (f : FuncId) (args : Array Value) (h : Heap) (R : Value → Heap → Prop) : Prop :=
  ∀ w : World, w.heap = h → (∃ v w', (callFunc f args).run P w = .ok (.value v) w' ∧ Kin w w' ∧ R v w'.heap) ∨
    ((callFunc f args).run P w = .ok (.enter f args) w ∧ Calls P f args w fun e w' => ∃ v, e = .returned v ∧ Kin w w' ∧ R v w'.heap)

/-- The same of a function that is entered. -/
def HEnt (P : Program) (f : FuncId) (args : Array Value) (h : Heap) (R : Value → Heap → Prop) : Prop :=
  ∀ w : World, w.heap = h → (callFunc f args).run P w = .ok (.enter f args) w ∧ Calls P f args w fun e w' => ∃ v, e = .returned v ∧ Kin w w' ∧ R v w'.heap
theorem HEnt.mono {P : Program} {f : FuncId} {args : Array Value} {h : Heap} {R R' : Value → Heap → Prop} (c : HEnt P f args h R) (hr : ∀ v h', R v h' → R' v h') : HEnt P f args h R' :=
  fun w hw => ⟨(c w hw).1, (c w hw).2.mono fun _ _ ⟨v, he, hk, hv⟩ => ⟨v, he, hk, hr _ _ hv⟩⟩
/-- A contract at a call. -/
theorem HEnt.use {P : Program} {f : FuncId} {args : Array Value} {h : Heap} {R R' : Value → Heap → Prop} (c : HEnt P f args h R) (hr : ∀ v h', R v h' → R' v h') : HCalls P f args h R' :=
  fun w hw => .inr ((c.mono hr) w hw)
theorem HBody.mono {P : Program} {f : FuncId} {args : Array Value} {h : Heap} {R R' : Value → Heap → Prop} (c : HBody P f args h R) (hr : ∀ v h', R v h' → R' v h') : HBody P f args h R' :=
  fun w hw => (c w hw).mono fun _ _ ⟨v, he, hk, hv⟩ => ⟨v, he, hk, hr _ _ hv⟩
theorem HCalls.mono {P : Program} {f : FuncId} {args : Array Value} {h : Heap} {R R' : Value → Heap → Prop} (c : HCalls P f args h R) (hr : ∀ v h', R v h' → R' v h') : HCalls P f args h R' :=
  fun w hw => (c w hw).imp (fun ⟨v, w', h1, h2, h3⟩ => ⟨v, w', h1, h2, hr _ _ h3⟩) fun ⟨h1, h2⟩ => ⟨h1, h2.mono fun _ _ ⟨v, he, hk, hv⟩ => ⟨v, he, hk, hr _ _ hv⟩⟩
theorem HEnt.of_body {P : Program} {f : FuncId} {fn : Func} {args : Array Value} {h : Heap} {R : Value → Heap → Prop} (hf : P.funcs[f]? = some fn) (hb : fn.body.isSome = true) (hn : (fn.name == "runtime.NumGoroutine") = false)
    (c : HBody P f args h R) : HEnt P f args h R :=
  fun w hw => ⟨by
    have hb' : fn.body.isNone = false := by cases h : fn.body <;> simp_all
    unfold callFunc
    simp only [Sem.run_bind, run_program, Result.andThen_ok, hf, hn, Bool.false_eq_true, if_false, hb', Sem.run_pure], c w hw⟩

/-- a panic that nobody has stopped, its value no nil -/
def Raised (chain : List PanicEntry) : Prop := ∃ t v, chain = [{ v := .iface t v, recovered := false }]
/-- how a call ends that may panic -/
def EndP (w : World) (R : Value → Heap → Prop) (Rp : Heap → Prop) (e : Ending) (w' : World) : Prop :=
  (∃ v, e = .returned v ∧ Kin w w' ∧ R v w'.heap) ∨ ∃ chain, e = .panicked chain ∧ Raised chain ∧ Kin w w' ∧ Rp w'.heap
/-- THE CONTRACT of a function that may panic: Rp says how the heap is then. -/
def HCallsP (P : Program) (f : FuncId) (args : Array Value) (h : Heap) (R : Value → Heap → Prop) (Rp : Heap → Prop) : Prop :=
  ∀ w : World, w.heap = h → (callFunc f args).run P w = .ok (.enter f args) w ∧ Calls P f args w (EndP w R Rp)
theorem EndP.mono {w w' : World} {R R' : Value → Heap → Prop} {Rp Rp' : Heap → Prop} {e : Ending} (c : EndP w R Rp e w') (hr : ∀ v h', R v h' → R' v h') (hp : ∀ h', Rp h' → Rp' h') : EndP w R' Rp' e w' :=
  c.imp (fun ⟨v, he, hk, hv⟩ => ⟨v, he, hk, hr _ _ hv⟩) fun ⟨ch, he, hc, hk, hv⟩ => ⟨ch, he, hc, hk, hp _ hv⟩
theorem HCallsP.mono {P : Program} {f : FuncId} {args : Array Value} {h : Heap} {R R' : Value → Heap → Prop} {Rp Rp' : Heap → Prop} (c : HCallsP P f args h R Rp) (hr : ∀ v h', R v h' → R' v h') (hp : ∀ h', Rp h' → Rp' h') : HCallsP P f args h R' Rp' :=
  fun w hw => ⟨(c w hw).1, (c w hw).2.mono fun _ _ e => e.mono hr hp⟩
theorem HCallsP.of_body {P : Program} {f : FuncId} {fn : Func} {args : Array Value} {h : Heap} {R : Value → Heap → Prop} {Rp : Heap → Prop} (hf : P.funcs[f]? = some fn) (hb : fn.body.isSome = true) (hn : (fn.name == "runtime.NumGoroutine") = false)
    (c : ∀ w : World, w.heap = h → Calls P f args w (EndP w R Rp)) : HCallsP P f args h R Rp :=
  fun w hw => ⟨by
    have hb' : fn.body.isNone = false := by cases h : fn.body <;> simp_all
    unfold callFunc
    simp only [Sem.run_bind, run_program, Result.andThen_ok, hf, hn, Bool.false_eq_true, if_false, hb', Sem.run_pure], c w hw⟩

/-- THE CONTRACT of a call of a loop's yield: the round that it asks for comes to its end. -/
def HYield (P : Program) (l : Nat) (args : Array Value) (h : Heap) (R : Value → Heap → Prop) : Prop :=
  ∀ w : World, w.heap = h → ∃ f tmps assign body, (Instr.yield l args).run P w = .ok (.round l f tmps assign body) w ∧
    RoundIn Fence.wide 0 P l f tmps assign body w fun e w' => ∃ v, e = .returned v ∧ Kin w w' ∧ R v w'.heap

/-- the cells of a type's zero value -/
def zeroC (P : Program) (t : TypeId) : Array Value := (((P.info? t).bind (·.zero)).getD (.tuple #[])).cells

/-! ### shapes of values -/
inductive Sh where
  | int (k : IntKind)
  | bool
  | str
  | ptr
  | slice
  | map
  | any
  | agg (n : Nat)
  | struct (fs : List Sh)
  | tuple (fs : List Sh)

mutual
/-- some value of a shape -/
def withSh : Sh → (Value → Prop) → Prop
  | .int k, f => ∃ n : Int, f (.int k n)
  | .bool, f => ∃ b : Bool, f (.bool b)
  | .str, f => ∃ s : ByteArray, f (.string s)
  | .ptr, f => ∃ a : Option Addr, f (.pointer a)
  | .slice, f => ∃ (a : Option Addr) (l c : Nat), f (.slice a l c)
  | .map, f => ∃ m : Option Nat, f (.map m)
  | .any, f => ∃ v : Value, f v
  | .agg n, f => ∃ cs : Array Value, cs.size = n ∧ f (.agg cs)
  | .struct fs, f => withShs fs fun vs => f (.agg vs.toArray)
  | .tuple fs, f => withShs fs fun vs => f (.tuple vs.toArray)
/-- some values of shapes, one behind the other -/
def withShs : List Sh → (List Value → Prop) → Prop
  | [], f => f []
  | s :: r, f => withSh s fun v => withShs r fun vs => f (v :: vs)
end
mutual
theorem withSh_some : ∀ {s : Sh} {f : Value → Prop}, withSh s f → ∃ v, f v
  | .int _, _, h | .bool, _, h | .str, _, h | .ptr, _, h | .map, _, h | .any, _, h => by
    simp only [withSh] at h; obtain ⟨_, h⟩ := h; exact ⟨_, h⟩
  | .slice, _, h => by simp only [withSh] at h; obtain ⟨_, _, _, h⟩ := h; exact ⟨_, h⟩
  | .agg _, _, h => by simp only [withSh] at h; obtain ⟨_, _, h⟩ := h; exact ⟨_, h⟩
  | .struct _, _, h => by simp only [withSh] at h; exact let ⟨vs, h⟩ := withShs_some h; ⟨_, h⟩
  | .tuple _, _, h => by simp only [withSh] at h; exact let ⟨vs, h⟩ := withShs_some h; ⟨_, h⟩
theorem withShs_some : ∀ {l : List Sh} {f : List Value → Prop}, withShs l f → ∃ vs, f vs
  | [], _, h => ⟨_, h⟩
  | _ :: _, _, h => by
    simp only [withShs] at h
    obtain ⟨v, h⟩ := withSh_some h
    exact let ⟨vs, h⟩ := withShs_some h; ⟨_, h⟩
end

/-! ### environments -/
/-- The temporaries that are known: how many there are; what was written, the last first (what was never written is undef). -/
structure Env where
  length : Nat
  said : List (Nat × Option Value)
def Env.find : List (Nat × Option Value) → Nat → Option Value
  | [], _ => some undef
  | (m, v) :: r, n => match Nat.beq m n with
    | true => v
    | false => Env.find r n
def Env.get : Env → Nat → Option Value
  | ⟨s, l⟩, n => match Nat.blt n s with
    | true => Env.find l n
    | false => none
def Env.set : Env → Nat → Option Value → Env
  | ⟨s, l⟩, n, v => ⟨s, (n, v) :: l⟩
def Env.put (e : Env) : Option Nat → Option Value → Env
  | some d, v => Env.set e d v
  | none, _ => e
/-- What the environment says of the temporaries. -/
def Agree (e : Env) (t : Array Value) : Prop := e.length = t.size ∧ ∀ n v, Env.get e n = some v → t.getD n undef = v

theorem Env.set_length (e : Env) (n : Nat) (v : Option Value) : (Env.set e n v).length = e.length := rfl
theorem blt_iff {n s : Nat} : Nat.blt n s = true ↔ n < s := by
  unfold Nat.blt; exact ⟨Nat.le_of_ble_eq_true, Nat.ble_eq_true_of_le⟩
theorem Env.get_of_lt {e : Env} {n : Nat} (h : n < e.length) : Env.get e n = Env.find e.said n := by
  obtain ⟨s, l⟩ := e
  have hb : Nat.blt n s = true := blt_iff.2 h
  show (match Nat.blt n s with | true => Env.find l n | false => none) = _
  rw [hb]
theorem Env.get_of_ge {e : Env} {n : Nat} (h : ¬ n < e.length) : Env.get e n = none := by
  obtain ⟨s, l⟩ := e
  have hb : Nat.blt n s = false := by rw [← Bool.not_eq_true]; exact fun hb => h (blt_iff.1 hb)
  show (match Nat.blt n s with | true => Env.find l n | false => none) = _
  rw [hb]
theorem Env.get_set_same (e : Env) (n : Nat) (v : Option Value) (h : n < e.length) : Env.get (Env.set e n v) n = v := by
  rw [Env.get_of_lt (by rw [Env.set_length]; exact h)]
  show Env.find ((n, v) :: e.said) n = v
  unfold Env.find
  have : Nat.beq n n = true := by simp
  rw [this]
theorem Env.get_set_ne (e : Env) (n m : Nat) (v : Option Value) (h : n ≠ m) : Env.get (Env.set e n v) m = Env.get e m := by
  by_cases hm : m < e.length
  · rw [Env.get_of_lt hm, Env.get_of_lt (by rw [Env.set_length]; exact hm)]
    show Env.find ((n, v) :: e.said) m = _
    conv => lhs; unfold Env.find
    have : Nat.beq n m = false := by rw [← Bool.not_eq_true]; exact fun e => h (Nat.eq_of_beq_eq_true e)
    rw [this]
  · rw [Env.get_of_ge hm, Env.get_of_ge (by rw [Env.set_length]; exact hm)]
theorem Env.get_lt {e : Env} {n : Nat} {v : Value} (h : Env.get e n = some v) : n < e.length := by
  by_cases hm : n < e.length
  · exact hm
  · rw [Env.get_of_ge hm] at h; cases h

theorem Agree.set {e : Env} {t : Array Value} (h : Agree e t) (n : Nat) (v : Value) (u : Option Value) (hu : u = none ∨ u = some v) : Agree (Env.set e n u) (t.setIfInBounds n v) := by
  refine ⟨by simp [Env.set_length, h.1], fun m x hm => ?_⟩
  by_cases hnm : n = m
  · subst hnm
    have hlt := Env.get_lt hm
    rw [Env.set_length] at hlt
    rw [Env.get_set_same e n u hlt] at hm
    rcases hu with rfl | rfl
    · cases hm
    · obtain rfl := Option.some.inj hm
      have : n < t.size := by rw [← h.1]; exact hlt
      simp [this]
  · rw [Env.get_set_ne _ _ _ _ hnm] at hm
    have := h.2 m x hm
    rw [Array.getD_eq_getD_getElem?] at this ⊢
    rw [Array.getElem?_setIfInBounds_ne hnm]; exact this
theorem Agree.put {e : Env} {a : Act} (h : Agree e a.tmps) (d : Option Nat) (v : Value) : Agree (Env.put e d (some v)) (a.put d v).tmps := by
  cases d with
  | none => exact h
  | some d => exact h.set d v _ (.inr rfl)
/-- What is forgotten agrees all the same. -/
theorem Agree.weaken {e e' : Env} {t : Array Value} (h : Agree e t) (hl : e'.length = e.length) (hg : ∀ n v, Env.get e' n = some v → Env.get e n = some v) : Agree e' t :=
  ⟨hl.trans h.1, fun n v hn => h.2 n v (hg n v hn)⟩

def opv (e : Env) : Operand → Option Value
  | .tmp t => Env.get e t
  | .const v => some v
  | .global g => some (.pointer (some ⟨g, 0, none⟩))
  | .func f => some (.func (.func f) #[] #[])
theorem opv_eval {e : Env} {a : Act} (h : Agree e a.tmps) {x : Operand} {v : Value} (hx : opv e x = some v) : a.eval x = v := by
  cases x with
  | tmp t => exact h.2 t v hx
  | const u => exact Option.some.inj hx
  | global g => exact Option.some.inj hx
  | func f => exact Option.some.inj hx

def opvs (e : Env) : List Operand → Option (List Value)
  | [] => some []
  | x :: l => match opv e x, opvs e l with
    | some v, some vs => some (v :: vs)
    | _, _ => none
theorem opvs_eval {e : Env} {a : Act} (h : Agree e a.tmps) : ∀ {l : List Operand} {vs : List Value}, opvs e l = some vs → l.map a.eval = vs
  | [], vs, hl => by simp [opvs] at hl; simp [← hl]
  | x :: l, vs, hl => by
    simp only [opvs] at hl
    split at hl
    · rename_i v vs' hv hvs
      obtain rfl := Option.some.inj hl
      simp [opv_eval h hv, opvs_eval h hvs]
    · cases hl

/-- the environment, laid open -/
def withEnv (e : Env) (K : Env → Prop) : Prop := match e with
  | ⟨s, l⟩ => K ⟨s, l⟩
theorem withEnv_eq (e : Env) (K : Env → Prop) : withEnv e K = K e := rfl

/-- a test; what is tested stands last, so that the kernel compares it first -/
def brL (p q : Prop) (b : Bool) : Prop := match b with
  | true => p
  | false => q
/-- a test -/
abbrev br (b : Bool) (p q : Prop) : Prop := brL p q b
theorem br_iff {b : Bool} {p q : Prop} : br b p q ↔ (b = true → p) ∧ (b = false → q) := by cases b <;> simp [br, brL]
theorem br_of {b : Bool} {p q : Prop} (h1 : b = true → p) (h2 : b = false → q) : br b p q := br_iff.2 ⟨h1, h2⟩
theorem br_imp {b : Bool} {p q r : Prop} (h : br b p q) (hp : b = true → p → r) (hq : b = false → q → r) : r := by cases b; exact hq rfl h; exact hp rfl h
/-- c && x where both are read -/
abbrev bsel (c x y : Bool) : Bool := match c with
  | true => x
  | false => y

end Go.Vd


namespace Go.Vd

/-! ### words of the conditions -/
def shlI (k : IntKind) (x y : Int) : Int := k.wrap (x * 2 ^ (min y.toNat k.bits))
def shrI (k : IntKind) (x y : Int) : Int := x.fdiv (2 ^ (min y.toNat k.bits))
def andI (k : IntKind) (x y : Int) : Int := k.wrap (BitVec.ofInt k.bits x &&& BitVec.ofInt k.bits y).toNat
def orI (k : IntKind) (x y : Int) : Int := k.wrap (BitVec.ofInt k.bits x ||| BitVec.ofInt k.bits y).toNat
def xorI (k : IntKind) (x y : Int) : Int := k.wrap (BitVec.ofInt k.bits x ^^^ BitVec.ofInt k.bits y).toNat
def andNotI (k : IntKind) (x y : Int) : Int := k.wrap (BitVec.ofInt k.bits x &&& ~~~(BitVec.ofInt k.bits y)).toNat
def notI (k : IntKind) (x : Int) : Int := xorI k (if k.signed then -1 else k.max) x
def minI (x y : Int) : Int := if y < x then y else x
def maxI (x y : Int) : Int := if y > x then y else x
/-- the byte at a place of a text -/
def bt (s : ByteArray) (i : Int) : Int := ((s.data.getD i.toNat 0).toNat : Int)
def seq (a b : ByteArray) : Bool := a.toList == b.toList
def slt (a b : ByteArray) : Bool := Op.bytesLess a.toList b.toList
/-- where a cut of a slice begins -/
def cutAt (m l sz : Nat) (a : Option Addr) : Option Addr := if m = l then a else a.map (·.add (l * sz))

/-- the cells from an address on -/
def CellsAt (h : Heap) (a : Addr) (l : List Value) : Prop := ∀ i v, l[i]? = some v → cell h (a.add i) = some v
/-- the same, spelt out, from the i-th on -/
def cellsFrom (h : Heap) (a : Addr) : Nat → List Value → (Prop → Prop)
  | _, [], p => p
  | i, v :: l, p => cell h (a.add i) = some v ∧ cellsFrom h a (i + 1) l p
/-- the bytes of a slice -/
def bytesV (bs : ByteArray) : List Value := bs.data.toList.map fun b => .int .u8 b.toNat

theorem cellsFrom_spec {h : Heap} {a : Addr} : ∀ {l : List Value} {i : Nat} {p : Prop}, cellsFrom h a i l p → (∀ j v, l[j]? = some v → cell h (a.add (i + j)) = some v) ∧ p
  | [], _, _, H => ⟨by simp, H⟩
  | v :: l, i, _, H => by
    obtain ⟨h1, h2⟩ := H
    obtain ⟨h3, h4⟩ := cellsFrom_spec h2
    refine ⟨fun j u hj => ?_, h4⟩
    cases j with
    | zero => simp at hj; subst hj; exact h1
    | succ j => have := h3 j u (by simpa using hj); rwa [show i + (j + 1) = i + 1 + j by omega]

/-- in which order the operations of a region that draws are looked at: a quiet one that may come now; the only one that may come now; the only two -/
inductive Mix where
  | done
  | quiet (i : Nat) (r : Mix)
  | one (i : Nat) (r : Mix)
  | two (i : Nat) (r : Mix) (j : Nat) (s : Mix)
  | three (i : Nat) (r : Mix) (j : Nat) (s : Mix) (k : Nat) (t : Mix)
  /-- one behind all that reads, in every order: it may write what the others read -/
  | last (i : Nat) (r : Mix)
def Mix.len : Mix → Nat
  | .done => 0
  | .quiet _ r => r.len + 1
  | .one _ r => r.len + 1
  | .two _ r _ _ => r.len + 1
  | .three _ r _ _ _ _ => r.len + 1
  | .last _ r => r.len + 1
def Mix.exempt : Mix → List Nat
  | .done => []
  | .quiet _ r => r.exempt
  | .one _ r => r.exempt
  | .two _ r _ s => r.exempt ++ s.exempt
  | .three _ r _ s _ u => r.exempt ++ (s.exempt ++ u.exempt)
  | .last i r => i :: r.exempt

structure Ann where
  /-- slots whose assignment gets a name of its own -/
  bind : List Nat := []
  /-- slots that are read out of cells which are not written out -/
  opq : List Nat := []
  /-- loops, by the number of their first region: the slots that a round hands on -/
  loops : List (Nat × List (Nat × Sh)) := []
  /-- regions behind which the ways meet: the slots that are handed on -/
  cuts : List (Nat × List (Nat × Sh)) := []
  /-- regions that draw: how (0: the heap stays; 1: it may grow), and how many operations are the quiet head -/
  draws : List (Nat × Nat × Nat) := []
  /-- regions that draw, of the third kind -/
  mixes : List (Nat × Mix) := []
  /-- regions that are never come to -/
  stops : List Nat := []
  /-- the functions whose calls may panic; none: there is nothing that panics -/
  pans : Option (List FuncId) := none
  /-- ranges over functions, by the first region of their body: the slots that yield's arguments come to -/
  rngs : List (Nat × List (Nat × Sh)) := []
  /-- slots that come to hold a function that is known: which, and how many variables it holds -/
  fns : List (Nat × FuncId × Nat) := []
  /-- where a range over a map tells its entry: the slot, the types of its key and of what is there -/
  ents : List (Nat × FuncId × Nat) := []
  /-- calls of a loop's yield are taken -/
  yld : Bool := false
  /-- how the heap is where a panic goes out -/
  pan : Heap → Prop := fun _ => False

/-- no yield -/
@[reducible] def Ann.still (A : Ann) : Ann := { A with yld := false }
def fnOf : List (Nat × FuncId × Nat) → Option Nat → Option (FuncId × Nat)
  | _, none => none
  | [], some _ => none
  | (m, x) :: r, some d => match Nat.beq m d with
    | true => some x
    | false => fnOf r (some d)
def capsV : Nat → (List Value → Prop) → Prop
  | 0, K => K []
  | n + 1, K => ∃ ad : Addr, capsV n fun l => K (.pointer (some ad) :: l)
def fnV (f : FuncId) (n : Nat) (v : Value) (K : Value → Prop) : Prop := capsV n fun l => v = .func (.func f) #[] l.toArray ∧ K (.func (.func f) #[] l.toArray)
/-- what a range goes over -/
def fnG (l : List (Nat × FuncId × Nat)) (g : Operand) (v : Value) (K : Value → Prop) : Prop := match g with
  | .tmp d => match fnOf l (some d) with
    | some (f, n) => fnV f n v K
    | none => K v
  | _ => K v
theorem capsV_out : ∀ (n : Nat) {K : List Value → Prop}, capsV n K → ∃ l, K l
  | 0, _, h => ⟨[], h⟩
  | n + 1, _, ⟨_, h⟩ => let ⟨_, h⟩ := capsV_out n h; ⟨_, h⟩
theorem fnV_out {f : FuncId} {n : Nat} {v : Value} {K : Value → Prop} (h : fnV f n v K) : K v := by
  obtain ⟨l, h1, h2⟩ := capsV_out n h
  rw [h1]; exact h2
theorem fnG_out {l : List (Nat × FuncId × Nat)} {g : Operand} {v : Value} {K : Value → Prop} (h : fnG l g v K) : K v := by
  unfold fnG at h
  split at h
  · split at h
    · exact fnV_out h
    · exact h
  · exact h
def bindV : Value → (Value → Prop) → Prop
  | .int k n, f => ∀ m : Int, m = n → f (.int k m)
  | .bool b, f => ∀ c : Bool, c = b → f (.bool c)
  | .string s, f => ∀ t : ByteArray, t = s → f (.string t)
  | .pointer a, f => ∀ b : Option Addr, b = a → f (.pointer b)
  | .slice a l c, f => ∀ (a' : Option Addr) (l' c' : Nat), a' = a → l' = l → c' = c → f (.slice a' l' c')
  | v, f => f v
theorem bindV_out {v : Value} {f : Value → Prop} (h : bindV v f) : f v := by
  cases v <;> simp only [bindV] at h
  case int => exact h _ rfl
  case bool => exact h _ rfl
  case string => exact h _ rfl
  case pointer => exact h _ rfl
  case slice => exact h _ _ _ rfl rfl rfl
  all_goals exact h

section
variable (P : Program)
def flatF (sh : TypeId → Sh) : List Field → Option (List Sh)
  | [] => some []
  | f :: r => match sh f.type, flatF sh r with
    | .agg _, _ => none
    | .struct l, some m => some (l ++ m)
    | s, some m => some (s :: m)
    | _, none => none
def shOf : Nat → TypeId → Sh
  | 0, _ => .any
  | n + 1, t => match P.underlying t with
    | some (.int k) => .int k
    | some .bool => .bool
    | some .string => .str
    | some (.pointer _) => .ptr
    | some (.slice _) => .slice
    | some (.map _ _) => .map
    | some (.struct fs) => match flatF (shOf n) fs.toList with
      | some l => .struct l
      | none => .agg (P.cellsOf t)
    | some (.array _ _) => .agg (P.cellsOf t)
    | some (.tuple ts) => .tuple (ts.toList.map (shOf n))
    | _ => .any
def sh (t : TypeId) : Sh := shOf P 5 t
end

/-- a load of a variable of type t -/
def ldK (P : Program) (t : TypeId) (h : Heap) (ad : Addr) (K : Option Value → Prop) : Prop :=
  match P.underlying t with
  | some (.struct _) | some (.array _ _) => match sh P t with
    | .struct fs => withShs fs fun vs => cellsFrom h ad 0 vs (vs.length = P.cellsOf t ∧ K (some (.agg vs.toArray)))
    | .agg _ => ∃ cs : Array Value, cs.size = P.cellsOf t ∧ CellsAt h ad cs.toList ∧ K (some (.agg cs))
    | _ => False
  | some _ => withSh (sh P t) fun v => cell h ad = some v ∧ K (some v)
  | none => False

def ifK (k k' : IntKind) (p : Prop) : Prop := if k = k' then p else False
theorem ifK_out {k k' : IntKind} {p : Prop} (h : ifK k k' p) : k = k' ∧ p := by unfold ifK at h; split at h; exact ⟨‹_›, h⟩; exact h.elim
def vcInt (op : BinOp) (k : IntKind) (a : Int) (k' : IntKind) (b : Int) (K : Option Value → Prop) : Prop :=
  match op with
  | .shl => 0 ≤ b ∧ K (some (.int k (shlI k a b)))
  | .shr => 0 ≤ b ∧ K (some (.int k (shrI k a b)))
  | .add => ifK k k' (K (some (.int k (k.wrap (a + b)))))
  | .sub => ifK k k' (K (some (.int k (k.wrap (a - b)))))
  | .mul => ifK k k' (K (some (.int k (k.wrap (a * b)))))
  | .quo => ifK k k' (b ≠ 0 ∧ K (some (.int k (k.wrap (a.tdiv b)))))
  | .rem => ifK k k' (b ≠ 0 ∧ K (some (.int k (a.tmod b))))
  | .and => ifK k k' (K (some (.int k (andI k a b))))
  | .or => ifK k k' (K (some (.int k (orI k a b))))
  | .xor => ifK k k' (K (some (.int k (xorI k a b))))
  | .andNot => ifK k k' (K (some (.int k (andNotI k a b))))
  | .eql => ifK k k' (K (some (.bool (a == b))))
  | .neq => ifK k k' (K (some (.bool (a != b))))
  | .lss => ifK k k' (K (some (.bool (decide (a < b)))))
  | .leq => ifK k k' (K (some (.bool (decide (a ≤ b)))))
  | .gtr => ifK k k' (K (some (.bool (decide (a > b)))))
  | .geq => ifK k k' (K (some (.bool (decide (a ≥ b)))))

def vcStr (op : BinOp) (a b : ByteArray) (K : Option Value → Prop) : Prop :=
  match op with
  | .add => a.size + b.size ≤ 9223372036854775807 ∧ K (some (.string (a ++ b)))
  | .eql => K (some (.bool (seq a b)))
  | .neq => K (some (.bool (!(seq a b))))
  | .lss => K (some (.bool (slt a b)))
  | .leq => K (some (.bool (slt a b || seq a b)))
  | .gtr => K (some (.bool (!(slt a b || seq a b))))
  | .geq => K (some (.bool (!(slt a b))))
  | _ => False

/-- '==' of what is neither a number nor a text: a bool, a pointer or a slice or a map against nil, a row of numbers of one kind. -/
def vcEql (P : Program) (t : TypeId) (h : Heap) (x y : Value) (K : Bool → Prop) : Prop :=
  match x, y with
  | .bool a, .bool b => K (a == b)
  | .pointer a, .pointer none => K a.isNone
  | .pointer a, .pointer (some b) => ∃ c : Bool, (∀ w : World, Ext h w.heap → (Op.equal t (.pointer a) (.pointer (some b))).run P w = .ok c w) ∧ P.eqGuardType P.depth t = false ∧ K c
  | .slice a _ _, .slice none _ _ => K a.isNone
  | .map a, .map none => K a.isNone
  | .func _ _ _, .nilFunc => K false
  | .nilFunc, .nilFunc => K true
  | .iface _ _, .nilIface => K false
  | .agg xs, .agg ys => ∃ b : Bool, (∀ w : World, (Op.equal t (.agg xs) (.agg ys)).run P w = .ok b w) ∧ P.eqGuardType P.depth t = false ∧ K b
  | _, _ => False

/-- The type fits the value, as '==' asks. -/
def fitsB : TypeDesc → Value → Bool
  | .bool, .bool _ | .pointer _, .pointer _ | .slice _, .slice _ _ _ | .map _ _, .map _ | .func _ _ _, .func _ _ _ | .func _ _ _, .nilFunc | .interface _, .iface _ _ => true
  | _, .agg _ => true
  | _, _ => false
/-- '==' at a type that fits. -/
def vcEqlAt (P : Program) (t : TypeId) (h : Heap) (x y : Value) (K : Bool → Prop) : Prop :=
  match P.underlying t with
  | some d => match fitsB d x with
    | true => vcEql P t h x y K
    | false => False
  | none => False
/-- A description of one-celled variables -/
def plainD : TypeDesc → Bool
  | .struct _ | .array _ _ => false
  | _ => true

def vcPure (P : Program) (A : Ann) (o : Oper) (e : Env) (h : Heap) (K : Option Value → Prop) : Prop :=
  match o.op with
  | .move x => match opv e x with
    | some v => match fnOf A.fns o.dst with
      | some (f, n) => fnV f n v fun u => K (some u)
      | none => K (some v)
    | none => False
  | .assign x => match opv e x with
    | some v => match fnOf A.fns o.dst with
      | some (f, n) => fnV f n v fun u => K (some u)
      | none => match o.dst with
        | some d => match A.bind.contains d with
          | true => bindV v fun u => K (some u)
          | false => K (some v)
        | none => K (some v)
    | none => False
  | .pick c x y => match opv e c with
    | some (.bool b) => match opv e x, opv e y with
      | some (.bool u), some (.bool v) => K (some (.bool (bsel b u v)))
      | some u, some v => br b (K (some u)) (K (some v))
      | some u, none => br b (K (some u)) False
      | none, some v => br b False (K (some v))
      | none, none => False
    | _ => False
  | .load t x => match opv e x with
    | some (.pointer (some ad)) => ldK P t h ad K
    | _ => False
  | .nilCheck x => match opv e x with
    | some (.pointer a) => ∃ ad, a = some ad ∧ K (some (.pointer (some ad)))
    | some (.func (.func f) u v) => K (some (.func (.func f) u v))
    | _ => False
  | .binOp op t x y _ => match opv e x, opv e y with
    | some (.int k a), some (.int k' b) => vcInt op k a k' b K
    | some (.string a), some (.string b) => vcStr op a b K
    | some u, some v => match op with
      | .eql => vcEqlAt P t h u v fun b => K (some (.bool b))
      | .neq => vcEqlAt P t h u v fun b => K (some (.bool (!b)))
      | _ => False
    | _, _ => False
  | .unOp op _ x => match op, opv e x with
    | .neg, some (.int k n) => K (some (.int k (k.wrap (0 - n))))
    | .xor, some (.int k n) => K (some (.int k (notI k n)))
    | .not, some (.bool b) => K (some (.bool (!b)))
    | _, _ => False
  | .convert s d x => match opv e x with
    | some (.int _ n) => match P.underlying s, P.underlying d with
      | some _, some (.int k) => K (some (.int k (k.wrap n)))
      | _, _ => False
    | some (.string b) => match P.underlying s, P.underlying d with
      | some (.string), some (.string) => K (some (.string b))
      | _, _ => False
    | some (.slice a l _) => match P.underlying s, P.underlying d with
      | some (.slice el), some (.string) => match P.underlying el with
        | some (.int .u8) => ∃ bs : ByteArray, bs.size = l ∧ (∀ ad, a = some ad → CellsAt h ad (bytesV bs)) ∧ (a = none → l = 0) ∧ K (some (.string bs))
        | _ => False
      | _, _ => False
    | _ => False
  | .slice t x lo hi mx => match mx with
    | some q => match opv e x, opv e q with
      | some (.slice a _ m), some (.int _ v) => match P.underlying t with
        | some (.slice el) => match P.underlying el with
          | none => False
          | some _ => match (match lo with | none => some (Value.int .i64 0) | some p => opv e p), hi with
          | some (.int _ l), some y => match opv e y with
            | some (.int _ u) => 0 ≤ l ∧ l ≤ u ∧ u ≤ v ∧ v ≤ m ∧ K (some (.slice (cutAt v.toNat l.toNat (P.cellsOf el) a) (u.toNat - l.toNat) (v.toNat - l.toNat)))
            | _ => False
          | _, _ => False
        | _ => False
      | _, _ => False
    | none => match opv e x with
      | some (.string s) => match P.underlying t with
        | some (.string) =>
          match (match lo with | none => some (Value.int .i64 0) | some p => opv e p), (match hi with | none => some (Value.int .i64 s.size) | some p => opv e p) with
          | some (.int _ l), some (.int _ u) => 0 ≤ l ∧ l ≤ u ∧ u ≤ s.size ∧ K (some (.string (s.extract l.toNat u.toNat)))
          | _, _ => False
        | _ => False
      | some (.slice a n m) => match P.underlying t with
        | some (.slice el) => match P.underlying el with
          | none => False
          | some _ => match (match lo with | none => some (Value.int .i64 0) | some p => opv e p), hi with
          | some (.int _ l), none => 0 ≤ l ∧ l ≤ n ∧ K (some (.slice (cutAt m l.toNat (P.cellsOf el) a) (n - l.toNat) (m - l.toNat)))
          | some (.int _ l), some q => match opv e q with
            | some (.int _ u) => 0 ≤ l ∧ l ≤ u ∧ u ≤ m ∧ K (some (.slice (cutAt m l.toNat (P.cellsOf el) a) (u.toNat - l.toNat) (m - l.toNat)))
            | _ => False
          | _, _ => False
        | _ => False
      | some (.pointer (some ad)) => match P.underlying t with
        | some (.array n el) => match P.underlying el with
          | none => False
          | some _ => match (match lo with | none => some (Value.int .i64 0) | some p => opv e p), (match hi with | none => some (Value.int .i64 n) | some p => opv e p) with
          | some (.int _ l), some (.int _ u) => 0 ≤ l ∧ l ≤ u ∧ u ≤ n ∧ K (some (.slice (cutAt n l.toNat (P.cellsOf el) (some ad)) (u.toNat - l.toNat) (n - l.toNat)))
          | _, _ => False
        | _ => False
      | _ => False
  | .fieldAddr t x f => match opv e x with
    | some (.pointer (some ad)) => match P.underlying t with
      | some (.struct fs) => match fs[f]? with
        | some fl => match P.cellsOf fl.type with
          | 0 => False
          | _ + 1 => K (some (.pointer (some (ad.add fl.offset))))
        | none => False
      | _ => False
    | _ => False
  | .field t x f => match opv e x with
    | some (.agg cs) => match P.underlying t with
      | some (.struct fs) => match fs[f]? with
        | some fl => match P.underlying fl.type with
          | some (.struct _) | some (.array _ _) => K (some (.agg ((cs.toList.drop fl.offset).take (P.cellsOf fl.type)).toArray))
          | some _ => match o.dst with
            | some d => match A.opq.contains d with
              | true => withSh (sh P fl.type) fun v => cs[fl.offset]? = some v ∧ K (some v)
              | false => match cs.toList[fl.offset]? with
                | some v => K (some v)
                | none => False
            | none => False
          | none => False
        | none => False
      | _ => False
    | _ => False
  | .index t x i => match opv e i with
    | some (.int _ n) => match opv e x with
      | some (.string s) => match P.underlying t with
        | some (.string) => 0 ≤ n ∧ n < s.size ∧ K (some (.int .u8 (bt s n)))
        | _ => False
      | some (.agg cs) => match P.underlying t with
        | some (.array len el) => match P.underlying el with
          | some (.struct _) | some (.array _ _) => 0 ≤ n ∧ n < len ∧ K (some (.agg ((cs.toList.drop (n.toNat * P.cellsOf el)).take (P.cellsOf el)).toArray))
          | some _ => 0 ≤ n ∧ n < len ∧ withSh (sh P el) fun v => cs[n.toNat * P.cellsOf el]? = some v ∧ K (some v)
          | none => False
        | _ => False
      | _ => False
    | _ => False
  | .indexAddr t x i => match opv e i with
    | some (.int _ n) => match opv e x with
      | some (.slice a l _) => match P.underlying t with
        | some (.slice el) => match P.underlying el with
          | none => False
          | some _ => ∃ ad, a = some ad ∧ 0 ≤ n ∧ n < l ∧ K (some (.pointer (some (ad.add (n.toNat * P.cellsOf el)))))
        | _ => False
      | some (.pointer (some ad)) => match P.underlying t with
        | some (.array len el) => match P.underlying el with
          | none => False
          | some _ => 0 ≤ n ∧ n < len ∧ K (some (.pointer (some (ad.add (n.toNat * P.cellsOf el)))))
        | _ => False
      | _ => False
    | _ => False
  | .extract x ix => match opv e x with
    | some (.tuple vs) => match vs.toList[ix]? with
      | some v => K (some v)
      | none => False
    | _ => False
  | .makeInterface t x => match opv e x with
    | some v => match P.underlying t with
      | some (.interface _) => False
      | some _ => K (some (.iface t v))
      | none => False
    | none => False
  | .sliceToArrayPointer t x => match opv e x with
    | some (.slice a l _) => match P.underlying t with
      | some (.array n _) => n ≤ l ∧ ∃ ad, a = some ad ∧ K (some (.pointer (some ad)))
      | _ => False
    | _ => False
  | .makeFunc fn u v => match opvs e u.toList, opvs e v.toList with
    | some us, some vs => K (some (.func fn us.toArray vs.toArray))
    | _, _ => False
  | .call c => match c.callee with
    | .builtin .len => match c.argTypes.toList, opvs e c.args.toList with
      | t :: _, some (v :: _) => match P.underlying t, v with
        | some .string, .string s => K (some (.int .i64 s.size))
        | some (.slice _), .slice _ n _ => K (some (.int .i64 n))
        | some (.array n _), _ => K (some (.int .i64 n))
        | _, _ => False
      | _, _ => False
    | .builtin .cap => match c.argTypes.toList, opvs e c.args.toList with
      | t :: _, some (v :: _) => match P.underlying t, v with
        | some (.slice _), .slice _ _ n => K (some (.int .i64 n))
        | _, _ => False
      | _, _ => False
    | .builtin .min => match opvs e c.args.toList with
      | some [.int k x, .int _ y] => K (some (.int k (minI x y)))
      | some [.int k x, .int _ y, .int _ z] => K (some (.int k (minI (minI x y) z)))
      | _ => False
    | .builtin .max => match opvs e c.args.toList with
      | some [.int k x, .int _ y] => K (some (.int k (maxI x y)))
      | some [.int k x, .int _ y, .int _ z] => K (some (.int k (maxI (maxI x y) z)))
      | _ => False
    | _ => False
  | _ => False

end Go.Vd


namespace Go.Vd
variable {P : Program}

theorem run_und {t : TypeId} {d : TypeDesc} (h : P.underlying t = some d) (w : World) : (underlying t).run P w = .ok d w := by
  unfold underlying; rw [Sem.run_bind]; simp [h]
theorem info_of_und {t : TypeId} {d : TypeDesc} (h : P.underlying t = some d) : ∃ i, P.info? t = some i := by
  unfold Program.underlying at h
  split at h
  · exact ⟨_, ‹_›⟩
  · exact ⟨_, ‹_›⟩
  · cases h
theorem run_size {t : TypeId} {d : TypeDesc} (h : P.underlying t = some d) (w : World) : (sizeOf t).run P w = .ok (P.cellsOf t) w := by
  obtain ⟨i, hi⟩ := info_of_und h
  unfold sizeOf typeInfo; simp [Sem.run_bind, hi, Program.cellsOf]
theorem run_isAgg_true {t : TypeId} {d : TypeDesc} (h : P.underlying t = some d) (hd : plainD d = false) (w : World) : (isAgg t).run P w = .ok true w := by
  unfold isAgg; rw [Sem.run_bind, run_und h]; cases d <;> simp_all [plainD]
theorem run_isAgg_false {t : TypeId} {d : TypeDesc} (h : P.underlying t = some d) (hd : plainD d = true) (w : World) : (isAgg t).run P w = .ok false w := by
  unfold isAgg; rw [Sem.run_bind, run_und h]; cases d <;> simp_all [plainD]

theorem CellsAt.ext {h h' : Heap} {a : Addr} {l : List Value} (c : CellsAt h a l) (x : Ext h h') : CellsAt h' a l := fun i v hv => x.some (c i v hv)

theorem run_cells {w : World} {a : Addr} {l : List Value} (h : CellsAt w.heap a l) : (loadCells a l.length).run P w = .ok l.toArray w :=
  run_loadCells_list (P := P) w a l (fun j v hv => h j v hv)

theorem run_ld {t : TypeId} {h : Heap} {ad : Addr} {K : Option Value → Prop} (H : ldK P t h ad K) :
    ∃ v, K (some v) ∧ ∀ w : World, Ext h w.heap → (loadVar t ad).run P w = .ok v w := by
  have agg : ∀ (d : TypeDesc), P.underlying t = some d → plainD d = false → (match sh P t with
    | .struct fs => withShs fs fun vs => cellsFrom h ad 0 vs (vs.length = P.cellsOf t ∧ K (some (.agg vs.toArray)))
    | .agg _ => ∃ cs : Array Value, cs.size = P.cellsOf t ∧ CellsAt h ad cs.toList ∧ K (some (.agg cs))
    | _ => False) → ∃ v, K (some v) ∧ ∀ w : World, Ext h w.heap → (loadVar t ad).run P w = .ok v w := by
    intro d hd hp H
    split at H
    · obtain ⟨vs, H⟩ := withShs_some H
      obtain ⟨hc, hl, hk⟩ := cellsFrom_spec H
      refine ⟨_, hk, fun w hx => ?_⟩
      have hc' : CellsAt w.heap ad vs := fun i v hv => hx.some (by have := hc i v hv; rwa [Nat.zero_add] at this)
      have hr := run_cells (P := P) hc'
      unfold loadVar
      simp [Sem.run_bind, run_isAgg_true hd hp, run_size hd, ← hl, hr]
    · obtain ⟨cs, hs, hc, hk⟩ := H
      refine ⟨_, hk, fun w hx => ?_⟩
      have hr := run_cells (P := P) (hc.ext hx)
      simp only [Array.length_toList] at hr
      unfold loadVar
      simp [Sem.run_bind, run_isAgg_true hd hp, run_size hd, ← hs, hr]
    · exact H.elim
  unfold ldK at H
  split at H
  · rename_i fs hd; exact agg _ hd rfl H
  · rename_i n el hd; exact agg _ hd rfl H
  · rename_i d h1 h2 hd
    obtain ⟨v, hc, hk⟩ := withSh_some H
    refine ⟨v, hk, fun w hx => ?_⟩
    have hp : plainD d = true := by cases d <;> simp_all [plainD]
    have hc' : w.cell? ad = some v := hx.some hc
    unfold loadVar
    simp [Sem.run_bind, run_isAgg_false hd hp, hc']
  · exact H.elim

theorem run_part {t : TypeId} {cs : Array Value} {off : Nat} {d : TypeDesc} (hd : P.underlying t = some d) (hp : plainD d = false) (w : World) :
    (part t cs off).run P w = .ok (.agg ((cs.toList.drop off).take (P.cellsOf t)).toArray) w := by
  unfold part
  simp only [Sem.run_bind, run_isAgg_true hd hp, Result.andThen_ok, if_true, run_size hd, Sem.run_pure]
  congr 2
  apply Array.ext'
  simp [List.extract_eq_take_drop]
theorem run_part_plain {t : TypeId} {cs : Array Value} {off : Nat} {d : TypeDesc} {v : Value} (hd : P.underlying t = some d) (hp : plainD d = true) (hv : cs[off]? = some v) (w : World) :
    (part t cs off).run P w = .ok v w := by
  unfold part
  simp [Sem.run_bind, run_isAgg_false hd hp, hv]

/-- The operations of a walk that are values at once. -/
def Gives (P : Program) (s : Sem Value) (h : Heap) (v : Value) : Prop := ∀ w : World, Ext h w.heap → s.run P w = .ok v w

theorem run_int {op : BinOp} {t : TypeId} {k k' : IntKind} {a b : Int} {K : Option Value → Prop} (H : vcInt op k a k' b K) :
    ∃ v, K (some v) ∧ ∀ w, (binOp op t (.int k a) (.int k' b)).run P w = .ok v w := by
  cases op <;> simp only [vcInt] at H
  case shl => exact ⟨_, H.2, fun w => by simp [binOp, Op.shift, Int.not_lt.2 H.1, shlI]⟩
  case shr => exact ⟨_, H.2, fun w => by simp [binOp, Op.shift, Int.not_lt.2 H.1, shrI]⟩
  case quo => obtain ⟨rfl, h0, hk⟩ := ifK_out H; exact ⟨_, hk, fun w => by simp [binOp, Op.intDiv, h0]⟩
  case rem => obtain ⟨rfl, h0, hk⟩ := ifK_out H; exact ⟨_, hk, fun w => by simp [binOp, Op.intDiv, h0]⟩
  all_goals
    obtain ⟨rfl, hk⟩ := ifK_out H
    exact ⟨_, hk, fun w => by simp [binOp, Op.intArith, Op.intBits, Op.intCmp, andI, orI, xorI, andNotI]⟩

theorem run_str {op : BinOp} {t : TypeId} {a b : ByteArray} {K : Option Value → Prop} (H : vcStr op a b K) :
    ∃ v, K (some v) ∧ ∀ w, (binOp op t (.string a) (.string b)).run P w = .ok v w := by
  cases op <;> simp only [vcStr] at H
  case add =>
    refine ⟨_, H.2, fun w => ?_⟩
    have : ¬ (((a.size + b.size : Nat) : Int) > IntKind.i64.max) := by
      have h := H.1
      have : IntKind.i64.max = 9223372036854775807 := by decide
      omega
    simp only [binOp, Op.stringOp]
    rw [if_neg this]; simp
  all_goals first | exact H.elim | exact ⟨_, H, fun w => by simp [binOp, Op.stringOp, seq, slt]⟩

end Go.Vd


namespace Go.Vd
set_option linter.unusedSimpArgs false
variable {P : Program}

theorem vcEql_sound {t : TypeId} {h : Heap} {x y : Value} {ox oy : Operand} {K : Bool → Prop} (H : vcEqlAt P t h x y K) :
    ∃ b, K b ∧ ∀ (op : BinOp) w, Ext h w.heap → (eqGuard op t ox oy x y).run P w = .ok () w ∧ (binOp .eql t x y).run P w = .ok (.bool b) w ∧ (binOp .neq t x y).run P w = .ok (.bool (!b)) w := by
  unfold vcEqlAt at H
  split at H
  case h_2 => exact H.elim
  rename_i d hu
  split at H
  case h_2 => exact H.elim
  rename_i hd
  have go : ∀ b, (∀ n w, (Op.equalIn (n + 1) t x y).run P w = .ok b w) → (∀ op w, (eqGuard op t ox oy x y).run P w = .ok () w) → ((∀ w, (Op.equal t x y).run P w = .ok b w) → ∀ w, (binOp .eql t x y).run P w = .ok (.bool b) w ∧ (binOp .neq t x y).run P w = .ok (.bool (!b)) w) → K b → ∃ b, K b ∧ ∀ (op : BinOp) w, Ext h w.heap → (eqGuard op t ox oy x y).run P w = .ok () w ∧ (binOp .eql t x y).run P w = .ok (.bool b) w ∧ (binOp .neq t x y).run P w = .ok (.bool (!b)) w :=
    fun b h1 h2 h4 h3 => ⟨b, h3, fun op w _ => ⟨h2 op w, h4 (fun w => h1 9999 w) w⟩⟩
  unfold vcEql at H
  split at H
  · cases d <;> simp [fitsB] at hd
    exact go _ (fun n w => by simp [Op.equalIn, run_und hu]) (fun op w => by unfold eqGuard; cases op <;> simp) (fun h w => by constructor <;> simp [binOp, h w]) H
  · cases d <;> simp [fitsB] at hd
    rename_i p _
    exact go _ (fun n w => by cases p <;> simp [Op.equalIn, run_und hu]) (fun op w => by unfold eqGuard; cases op <;> simp) (fun h w => by constructor <;> simp [binOp, h w]) H
  · obtain ⟨b, hr, hg, hk⟩ := H
    exact ⟨b, hk, fun op w hw => ⟨by unfold eqGuard; cases op <;> simp [hg], by simp [binOp, hr w hw], by simp [binOp, hr w hw]⟩⟩
  · cases d <;> simp [fitsB] at hd
    rename_i p _ _ _ _ _
    exact go _ (fun n w => by cases p <;> simp [Op.equalIn, run_und hu]) (fun op w => by unfold eqGuard; cases op <;> simp) (fun h w => by constructor <;> simp [binOp, h w]) H
  · cases d <;> simp [fitsB] at hd
    rename_i p _ _
    exact go _ (fun n w => by cases p <;> simp [Op.equalIn, run_und hu]) (fun op w => by unfold eqGuard; cases op <;> simp) (fun h w => by constructor <;> simp [binOp, h w]) H
  · cases d <;> simp [fitsB] at hd
    exact go _ (fun n w => by simp [Op.equalIn, run_und hu]) (fun op w => by unfold eqGuard; cases op <;> simp) (fun h w => by constructor <;> simp [binOp, h w]) H
  · cases d <;> simp [fitsB] at hd
    exact go _ (fun n w => by simp [Op.equalIn, run_und hu]) (fun op w => by unfold eqGuard; cases op <;> simp) (fun h w => by constructor <;> simp [binOp, h w]) H
  · cases d <;> simp [fitsB] at hd
    exact go _ (fun n w => by simp [Op.equalIn, run_und hu]) (fun op w => by unfold eqGuard; cases op <;> simp) (fun h w => by constructor <;> simp [binOp, h w]) H
  · obtain ⟨b, hr, hg, hk⟩ := H
    exact ⟨b, hk, fun op w _ => ⟨by unfold eqGuard; cases op <;> simp [hg], by simp [binOp, hr w], by simp [binOp, hr w]⟩⟩
  · exact H.elim

theorem foldl_bytes (l : List UInt8) (d : Array UInt8) : l.foldl (fun s b => (⟨s.data.push b⟩ : ByteArray)) ⟨d⟩ = ⟨d ++ l.toArray⟩ := by
  induction l generalizing d with
  | nil => simp
  | cons b l ih => simp only [List.foldl_cons, ih]; congr 1; apply Array.ext'; simp

theorem run_bytesToString {w : World} {a : Option Addr} {l c : Nat} (bs : ByteArray) (hl : bs.size = l) (hc : ∀ ad, a = some ad → CellsAt w.heap ad (bytesV bs)) (hn : a = none → l = 0) :
    (Conv.bytesToString (.slice a l c)).run P w = .ok (.string bs) w := by
  cases a with
  | none =>
    have : bs = .empty := by
      have h := hn rfl
      rw [h] at hl
      cases bs with | mk d => simp [ByteArray.size] at hl; subst hl; rfl
    simp [Conv.bytesToString, this]
  | some ad =>
    have hr := run_cells (P := P) (hc ad rfl)
    have hlen : (bytesV bs).length = l := by simp [bytesV, ← hl]
    rw [hlen] at hr
    have h2 := foldl_bytes bs.data.toList #[]
    simp [Conv.bytesToString, hr, bytesV, ByteArray.push, ByteArray.empty, ByteArray.emptyWithCapacity]
    have h3 := Array.foldl_toList (f := fun (b : ByteArray) a => (⟨b.data.push a⟩ : ByteArray)) (init := ⟨#[]⟩) (xs := bs.data)
    rw [h2] at h3
    have h4 : (⟨#[] ++ bs.data.toList.toArray⟩ : ByteArray) = bs := by simp
    exact (h4.symm.trans h3).symm

theorem run_sliceBounds {w : World} {b : Bool} {n c : Nat} {lo hi : Option Value} (l u : Int) (hl : (lo = none ∧ l = 0) ∨ ∃ k, lo = some (.int k l)) (hu : (hi = none ∧ u = n) ∨ ∃ k, hi = some (.int k u)) (h0 : 0 ≤ l) (h1 : l ≤ u)
    (h2 : u ≤ c ∨ (hi = none ∧ u = n)) : (Instr.sliceBounds b n c lo hi none).run P w = .ok (l.toNat, u.toNat, c) w := by
  have hi' : ∀ k (y : Int) (z : Nat) code, 0 ≤ y → y ≤ z → (Instr.sliceBound (.int k y) z code).run P w = .ok y.toNat w := by
    intro k y z code g0 g1
    simp [Instr.sliceBound, asIntOf, g0, g1]
  unfold Instr.sliceBounds
  rcases hu with ⟨rfl, hu⟩ | ⟨ku, rfl⟩
  · subst hu
    rcases hl with ⟨rfl, rfl⟩ | ⟨kl, rfl⟩
    · simp
    · simp [hi' _ _ _ _ h0 h1]
  · have h2' : u ≤ c := by rcases h2 with h | ⟨h, _⟩; exact h; cases h
    have hu0 : 0 ≤ u := by omega
    rcases hl with ⟨rfl, rfl⟩ | ⟨kl, rfl⟩
    · simp [hi' _ _ _ _ hu0 h2']
    · have hlu : l ≤ (u.toNat : Int) := by omega
      simp [hi' _ _ _ _ hu0 h2', hi' _ _ _ _ h0 hlu]
theorem run_sliceBounds3 {w : World} {b : Bool} {n c : Nat} {lo : Option Value} {ku kv : IntKind} (l u v : Int) (hl : (lo = none ∧ l = 0) ∨ ∃ k, lo = some (.int k l)) (h0 : 0 ≤ l) (h1 : l ≤ u)
    (h2 : u ≤ v) (h3 : v ≤ c) : (Instr.sliceBounds b n c lo (some (.int ku u)) (some (.int kv v))).run P w = .ok (l.toNat, u.toNat, v.toNat) w := by
  have hi' : ∀ k (y : Int) (z : Nat) code, 0 ≤ y → y ≤ z → (Instr.sliceBound (.int k y) z code).run P w = .ok y.toNat w := by
    intro k y z code g0 g1
    simp [Instr.sliceBound, asIntOf, g0, g1]
  unfold Instr.sliceBounds
  have g1 : u ≤ (v.toNat : Int) := by omega
  have g2 : l ≤ (u.toNat : Int) := by omega
  rcases hl with ⟨rfl, rfl⟩ | ⟨kl, rfl⟩
  · simp [hi' _ _ _ _ (show 0 ≤ v by omega) h3, hi' _ _ _ _ (show 0 ≤ u by omega) g1]
  · simp [hi' _ _ _ _ (show 0 ≤ v by omega) h3, hi' _ _ _ _ (show 0 ≤ u by omega) g1, hi' _ _ _ _ h0 g2]
theorem sliceLo {e : Env} {a : Act} {lo : Option Operand} {k : IntKind} {l : Int} (hA : Agree e a.tmps) (h : (match lo with | none => some (Value.int .i64 0) | some p => opv e p) = some (.int k l)) :
    (lo.map a.eval = none ∧ l = 0) ∨ ∃ k, lo.map a.eval = some (.int k l) := by
  cases lo with
  | none => simp at h; exact .inl ⟨rfl, h.2.symm⟩
  | some p => exact .inr ⟨k, by simp [opv_eval hA h]⟩
theorem sliceHi {e : Env} {a : Act} {hi : Option Operand} {k : IntKind} {u : Int} {n : Nat} (hA : Agree e a.tmps) (h : (match hi with | none => some (Value.int .i64 n) | some p => opv e p) = some (.int k u)) :
    (hi.map a.eval = none ∧ u = n) ∨ ∃ k, hi.map a.eval = some (.int k u) := by
  cases hi with
  | none => simp at h; exact .inl ⟨rfl, h.2.symm⟩
  | some p => exact .inr ⟨k, by simp [opv_eval hA h]⟩

theorem vcPure_sound {A : Ann} {o : Oper} {e : Env} {h : Heap} {K : Option Value → Prop} {a : Act} (hA : Agree e a.tmps) (H : vcPure P A o e h K) :
    ∃ v, K (some v) ∧ ∀ w : World, Ext h w.heap → (execOp a.eval o).run P w = .ok (.value v) w := by
  obtain ⟨dst, op, ty, pos, after, guard⟩ := o
  cases op with
  | move x =>
    simp only [vcPure] at H
    split at H
    · rename_i v hv
      have hk : K (some v) := by
        split at H
        · exact fnV_out (K := fun u => K (some u)) H
        · exact H
      exact ⟨v, hk, fun w _ => by simp [execOp, opv_eval hA hv]⟩
    · exact H.elim
  | assign x =>
    simp only [vcPure] at H
    split at H
    · rename_i v hv
      have hk : K (some v) := by
        split at H
        · exact fnV_out (K := fun u => K (some u)) H
        · split at H
          · split at H
            · exact bindV_out H
            · exact H
          · exact H
      exact ⟨v, hk, fun w _ => by simp [execOp, opv_eval hA hv]⟩
    · exact H.elim
  | pick c x y =>
    simp only [vcPure] at H
    split at H
    · rename_i b hb
      have hc := opv_eval hA hb
      split at H
      · rename_i u v hu hv
        have h1 := opv_eval hA hu
        have h2 := opv_eval hA hv
        refine ⟨_, H, fun w _ => ?_⟩
        cases b <;> simp [execOp, hc, asBool, h1, h2, bsel]
      · rename_i u v _ hu hv
        have h1 := opv_eval hA hu
        have h2 := opv_eval hA hv
        cases b
        · exact ⟨v, H, fun w _ => by simp [execOp, hc, asBool, h2]⟩
        · exact ⟨u, H, fun w _ => by simp [execOp, hc, asBool, h1]⟩
      · rename_i u hu hv
        have h1 := opv_eval hA hu
        cases b
        · exact H.elim
        · exact ⟨u, H, fun w _ => by simp [execOp, hc, asBool, h1]⟩
      · rename_i v hu hv
        have h2 := opv_eval hA hv
        cases b
        · exact ⟨v, H, fun w _ => by simp [execOp, hc, asBool, h2]⟩
        · exact H.elim
      · exact H.elim
    · exact H.elim
  | load t x =>
    simp only [vcPure] at H
    split at H
    · rename_i ad hv
      obtain ⟨v, hk, hr⟩ := run_ld H
      exact ⟨v, hk, fun w hw => by simp [execOp, opv_eval hA hv, Instr.loadAt, Instr.sureAddr, Sem.run_bind, hr w hw]⟩
    · exact H.elim
  | nilCheck x =>
    simp only [vcPure] at H
    split at H
    · rename_i p hv
      obtain ⟨ad, rfl, hk⟩ := H
      exact ⟨_, hk, fun w _ => by simp [execOp, opv_eval hA hv]⟩
    · rename_i f u v hv
      exact ⟨_, H, fun w _ => by simp [execOp, opv_eval hA hv]⟩
    · exact H.elim
  | binOp op t x y yt =>
    simp only [vcPure] at H
    split at H
    · rename_i k p k' q hx hy
      obtain ⟨v, hk, hr⟩ := run_int (P := P) (t := t) H
      refine ⟨v, hk, fun w _ => ?_⟩
      simp [execOp, opv_eval hA hx, opv_eval hA hy, eqGuard, Sem.run_bind, hr w]
    · rename_i p q hx hy
      obtain ⟨v, hk, hr⟩ := run_str (P := P) (t := t) H
      refine ⟨v, hk, fun w _ => ?_⟩
      simp [execOp, opv_eval hA hx, opv_eval hA hy, eqGuard, Sem.run_bind, hr w]
    · rename_i u v hnn hss hx hy
      cases op <;> simp only at H
      case eql =>
        obtain ⟨b, hk, hr⟩ := vcEql_sound (ox := x) (oy := y) H
        exact ⟨_, hk, fun w hw => by simp [execOp, opv_eval hA hx, opv_eval hA hy, (hr .eql w hw).1, (hr .eql w hw).2.1]⟩
      case neq =>
        obtain ⟨b, hk, hr⟩ := vcEql_sound (ox := x) (oy := y) H
        exact ⟨_, hk, fun w hw => by simp [execOp, opv_eval hA hx, opv_eval hA hy, (hr .neq w hw).1, (hr .neq w hw).2.2]⟩
      all_goals exact H.elim
    · exact H.elim
  | unOp op t x =>
    simp only [vcPure] at H
    split at H
    · rename_i k n hx; exact ⟨_, H, fun w _ => by simp [execOp, opv_eval hA hx, Op.unary, Op.intArith]⟩
    · rename_i k n hx; exact ⟨_, H, fun w _ => by simp [execOp, opv_eval hA hx, Op.unary, Op.intBits, notI, xorI]⟩
    · rename_i b hx; exact ⟨_, H, fun w _ => by simp [execOp, opv_eval hA hx, Op.unary]⟩
    · exact H.elim
  | convert s d x =>
    simp only [vcPure] at H
    split at H
    · rename_i k n hx
      split at H
      · rename_i d1 k1 h1 h2
        exact ⟨_, H, fun w _ => by simp [execOp, opv_eval hA hx, convert, run_und h1, run_und h2, Conv.intToInt]⟩
      · exact H.elim
    · rename_i b hx
      split at H
      · rename_i h1 h2
        exact ⟨_, H, fun w _ => by simp [execOp, opv_eval hA hx, convert, run_und h1, run_und h2]⟩
      · exact H.elim
    · rename_i p l c hx
      split at H
      · rename_i el h1 h2
        split at H
        · rename_i h3
          obtain ⟨bs, hl, hc, hn, hk⟩ := H
          refine ⟨_, hk, fun w hw => ?_⟩
          have := run_bytesToString (P := P) (w := w) (a := p) (l := l) (c := c) bs hl (fun ad h => (hc ad h).ext hw) hn
          simp [execOp, opv_eval hA hx, convert, run_und h1, run_und h2, run_und h3, this]
        · exact H.elim
      · exact H.elim
    · exact H.elim
  | slice t x lo hi mx =>
    simp only [vcPure] at H
    split at H
    · rename_i q
      split at H
      case h_2 => exact H.elim
      rename_i p n m kv v hx hq
      split at H
      case h_2 => exact H.elim
      rename_i el ht
      split at H
      · exact H.elim
      rename_i d hd
      split at H
      case h_2 => exact H.elim
      rename_i kl l y hl
      split at H
      case h_2 => exact H.elim
      rename_i ku u hu
      obtain ⟨h0, h1, h2, h3, hk⟩ := H
      refine ⟨_, hk, fun w _ => ?_⟩
      have := run_sliceBounds3 (P := P) (b := true) (w := w) (n := n) (c := m) (lo := lo.map a.eval) (ku := ku) (kv := kv) l u v (sliceLo hA hl) h0 h1 h2 h3
      simp [execOp, opv_eval hA hx, opv_eval hA hq, opv_eval hA hu, Instr.sliceAt, run_und ht, Instr.slice, this, run_size hd, cutAt]
    split at H
    · rename_i s hx
      split at H
      · rename_i ht
        split at H
        · rename_i kl l ku u hl hu
          obtain ⟨h0, h1, h2, hk⟩ := H
          refine ⟨_, hk, fun w _ => ?_⟩
          have := run_sliceBounds (P := P) (b := false) (w := w) (n := s.size) (c := s.size) (lo := lo.map a.eval) (hi := hi.map a.eval) l u (sliceLo hA hl) (sliceHi hA hu) h0 h1 (.inl h2)
          simp [execOp, opv_eval hA hx, Instr.sliceAt, run_und ht, Instr.slice, this]
        · exact H.elim
      · exact H.elim
    · rename_i p n m hx
      split at H
      · rename_i el ht
        split at H
        · exact H.elim
        rename_i d hd
        split at H
        · rename_i kl l hl
          obtain ⟨h0, h1, hk⟩ := H
          refine ⟨_, hk, fun w _ => ?_⟩
          have := run_sliceBounds (P := P) (b := true) (w := w) (n := n) (c := m) (lo := lo.map a.eval) (hi := none) l n (sliceLo hA hl) (.inl ⟨rfl, rfl⟩) h0 h1 (.inr ⟨rfl, rfl⟩)
          simp [execOp, opv_eval hA hx, Instr.sliceAt, run_und ht, Instr.slice, this, run_size hd, cutAt]
        · rename_i kl l q hl
          split at H
          · rename_i ku u hq
            obtain ⟨h0, h1, h2, hk⟩ := H
            refine ⟨_, hk, fun w _ => ?_⟩
            have := run_sliceBounds (P := P) (b := true) (w := w) (n := n) (c := m) (lo := lo.map a.eval) (hi := some (a.eval q)) l u (sliceLo hA hl) (.inr ⟨ku, by rw [opv_eval hA hq]⟩) h0 h1 (.inl h2)
            simp [execOp, opv_eval hA hx, Instr.sliceAt, run_und ht, Instr.slice, this, run_size hd, cutAt]
          · exact H.elim
        · exact H.elim
      · exact H.elim
    · rename_i ad hx
      split at H
      · rename_i n el ht
        split at H
        · exact H.elim
        rename_i d hd
        split at H
        · rename_i kl l ku u hl hu
          obtain ⟨h0, h1, h2, hk⟩ := H
          refine ⟨_, hk, fun w _ => ?_⟩
          have := run_sliceBounds (P := P) (b := false) (w := w) (n := n) (c := n) (lo := lo.map a.eval) (hi := hi.map a.eval) l u (sliceLo hA hl) (sliceHi hA hu) h0 h1 (.inl h2)
          have hc : (some (if n = l.toNat then ad else ad.add (l.toNat * P.cellsOf el))) = cutAt n l.toNat (P.cellsOf el) (some ad) := by unfold cutAt; split <;> rfl
          simp only [execOp, opv_eval hA hx, Instr.sliceAt, Instr.sureAddr, Sem.run_bind, run_und ht, Result.andThen_ok, Sem.run_pure, Option.map_none, this, run_size hd]
          rw [← hc]
        · exact H.elim
      · exact H.elim
    · exact H.elim
  | fieldAddr t x f =>
    simp only [vcPure] at H
    split at H
    · rename_i ad hx
      split at H
      · rename_i fs ht
        split at H
        · rename_i fl hf
          split at H
          · exact H.elim
          · rename_i n hn
            refine ⟨_, H, fun w _ => ?_⟩
            have hs : (sizeOf fl.type).run P w = .ok (n + 1) w := by
              have : ∃ i, P.info? fl.type = some i ∧ i.size = n + 1 := by
                unfold Program.cellsOf at hn
                cases hi : P.info? fl.type with
                | none => simp [hi] at hn
                | some i => exact ⟨i, rfl, by simpa [hi] using hn⟩
              obtain ⟨i, hi, hn'⟩ := this
              unfold sizeOf typeInfo; simp [Sem.run_bind, hi, hn']
            simp [execOp, opv_eval hA hx, Instr.fieldAt, Instr.sureAddr, run_und ht, hf, fieldPlace, hs]
        · exact H.elim
      · exact H.elim
    · exact H.elim
  | field t x f =>
    simp only [vcPure] at H
    split at H
    case h_2 => exact H.elim
    rename_i cs hx
    split at H
    case h_2 => exact H.elim
    rename_i fs ht
    split at H
    case h_2 => exact H.elim
    rename_i fl hf
    split at H
    · rename_i d hd
      exact ⟨_, H, fun w _ => by simp [execOp, opv_eval hA hx, Instr.field, run_und ht, hf, asAgg, run_part hd rfl]⟩
    · rename_i d hd
      exact ⟨_, H, fun w _ => by simp [execOp, opv_eval hA hx, Instr.field, run_und ht, hf, asAgg, run_part hd rfl]⟩
    · rename_i d h1 h2 hd
      have hp : plainD d = true := by cases d <;> simp_all [plainD]
      split at H
      · split at H
        · obtain ⟨v, hv, hk⟩ := withSh_some H
          exact ⟨v, hk, fun w _ => by simp [execOp, opv_eval hA hx, Instr.field, run_und ht, hf, asAgg, run_part_plain hd hp hv]⟩
        · split at H
          · rename_i v hv
            have hv' : cs[fl.offset]? = some v := by simpa using hv
            exact ⟨v, H, fun w _ => by simp [execOp, opv_eval hA hx, Instr.field, run_und ht, hf, asAgg, run_part_plain hd hp hv']⟩
          · exact H.elim
      · exact H.elim
    · exact H.elim
  | index t x i =>
    simp only [vcPure] at H
    split at H
    case h_2 => exact H.elim
    rename_i k n hi
    split at H
    · rename_i s hx
      split at H
      case h_2 => exact H.elim
      rename_i ht
      obtain ⟨h0, h1, hk⟩ := H
      have hb : s[n.toNat]? = some (s.data.getD n.toNat 0) := by
        have hl : n.toNat < s.size := by omega
        have hl2 : n.toNat < s.data.size := hl
        rw [show s[n.toNat]? = s.data[n.toNat]? from by simp [getElem?, decidableGetElem?, hl2, hl]; rfl]
        rw [Array.getD_eq_getD_getElem?, Array.getElem?_eq_getElem hl2]; rfl
      refine ⟨_, hk, fun w _ => ?_⟩
      simp [execOp, opv_eval hA hi, opv_eval hA hx, Instr.index, asIntOf, run_und ht, h0, hb, bt]
    · rename_i cs hx
      split at H
      case h_2 => exact H.elim
      rename_i len el ht
      split at H
      · rename_i d hd
        obtain ⟨h0, h1, hk⟩ := H
        exact ⟨_, hk, fun w _ => by simp [execOp, opv_eval hA hi, opv_eval hA hx, Instr.index, asIntOf, run_und ht, h0, h1, run_size hd, run_part hd rfl]⟩
      · rename_i d hd
        obtain ⟨h0, h1, hk⟩ := H
        exact ⟨_, hk, fun w _ => by simp [execOp, opv_eval hA hi, opv_eval hA hx, Instr.index, asIntOf, run_und ht, h0, h1, run_size hd, run_part hd rfl]⟩
      · rename_i d g1 g2 hd
        obtain ⟨h0, h1, H⟩ := H
        have hp : plainD d = true := by cases d <;> simp_all [plainD]
        obtain ⟨v, hv, hk⟩ := withSh_some H
        exact ⟨v, hk, fun w _ => by simp [execOp, opv_eval hA hi, opv_eval hA hx, Instr.index, asIntOf, run_und ht, h0, h1, run_size hd, run_part_plain hd hp hv]⟩
      · exact H.elim
    · exact H.elim
  | indexAddr t x i =>
    simp only [vcPure] at H
    split at H
    case h_2 => exact H.elim
    rename_i k n hi
    split at H
    · rename_i p l c hx
      split at H
      case h_2 => exact H.elim
      rename_i el ht
      split at H
      · exact H.elim
      rename_i d hd
      obtain ⟨ad, rfl, h0, h1, hk⟩ := H
      exact ⟨_, hk, fun w _ => by simp [execOp, opv_eval hA hi, opv_eval hA hx, Instr.indexAt, asIntOf, run_und ht, h0, h1, run_size hd]⟩
    · rename_i ad hx
      split at H
      case h_2 => exact H.elim
      rename_i len el ht
      split at H
      · exact H.elim
      rename_i d hd
      obtain ⟨h0, h1, hk⟩ := H
      exact ⟨_, hk, fun w _ => by simp [execOp, opv_eval hA hi, opv_eval hA hx, Instr.indexAt, Instr.sureAddr, asIntOf, run_und ht, h0, h1, run_size hd]⟩
    · exact H.elim
  | extract x ix =>
    simp only [vcPure] at H
    split at H
    case h_2 => exact H.elim
    rename_i vs hx
    split at H
    case h_2 => exact H.elim
    rename_i v hv
    have hv' : vs[ix]? = some v := by simpa using hv
    exact ⟨v, H, fun w _ => by simp [execOp, opv_eval hA hx, Instr.extract, hv']⟩
  | makeInterface t x =>
    simp only [vcPure] at H
    split at H
    case h_2 => exact H.elim
    rename_i v hx
    split at H
    · exact H.elim
    · rename_i d hn hd
      refine ⟨_, H, fun w _ => ?_⟩
      have : ∀ ms, d ≠ .interface ms := fun ms h => hn ms (by rw [← h])
      simp only [execOp, opv_eval hA hx, Instr.makeInterface, Sem.run_bind, run_und hd, Result.andThen_ok]
      cases d <;> simp_all
    · exact H.elim
  | sliceToArrayPointer t x =>
    simp only [vcPure] at H
    split at H
    case h_2 => exact H.elim
    rename_i p l c hx
    split at H
    case h_2 => exact H.elim
    rename_i n el ht
    obtain ⟨hle, ad, rfl, hk⟩ := H
    exact ⟨_, hk, fun w _ => by simp [execOp, opv_eval hA hx, Instr.arrayAt, run_und ht, Nat.not_lt.2 hle]⟩
  | makeFunc fn u v =>
    simp only [vcPure] at H
    split at H
    case h_2 => exact H.elim
    rename_i us vs hu hv
    refine ⟨_, H, fun w _ => ?_⟩
    have e1 : u.map a.eval = us.toArray := by apply Array.ext'; simpa using opvs_eval hA hu
    have e2 : v.map a.eval = vs.toArray := by apply Array.ext'; simpa using opvs_eval hA hv
    simp [execOp, Instr.makeFunc, e1, e2]
  | call c =>
    obtain ⟨callee, args, tys⟩ := c
    simp only [vcPure] at H
    split at H
    · split at H
      case h_2 => exact H.elim
      rename_i t ts v vs ht hv
      have e1 := opvs_eval hA hv
      obtain ⟨x, args', rfl⟩ : ∃ x l, args = (x :: l).toArray := by
        cases h : args.toList with
        | nil => rw [h] at e1; simp at e1
        | cons x l => exact ⟨x, l, by apply Array.ext'; simpa using h⟩
      obtain rfl : tys = (t :: ts).toArray := by apply Array.ext'; simpa using ht
      simp only [List.toList_toArray, List.map_cons, List.cons.injEq] at e1
      obtain ⟨e1, e2⟩ := e1
      split at H
      · rename_i hu; exact ⟨_, H, fun w _ => by simp [execOp, resolve, invoke, builtin, Builtin.len_, e1, run_und hu, goInt]⟩
      · rename_i hu; exact ⟨_, H, fun w _ => by simp [execOp, resolve, invoke, builtin, Builtin.len_, e1, run_und hu, goInt]⟩
      · rename_i hu; exact ⟨_, H, fun w _ => by simp [execOp, resolve, invoke, builtin, Builtin.len_, e1, run_und hu, goInt]⟩
      · exact H.elim
    · split at H
      case h_2 => exact H.elim
      rename_i t ts v vs ht hv
      have e1 := opvs_eval hA hv
      obtain ⟨x, args', rfl⟩ : ∃ x l, args = (x :: l).toArray := by
        cases h : args.toList with
        | nil => rw [h] at e1; simp at e1
        | cons x l => exact ⟨x, l, by apply Array.ext'; simpa using h⟩
      obtain rfl : tys = (t :: ts).toArray := by apply Array.ext'; simpa using ht
      simp only [List.toList_toArray, List.map_cons, List.cons.injEq] at e1
      obtain ⟨e1, e2⟩ := e1
      split at H
      · rename_i hu; exact ⟨_, H, fun w _ => by simp [execOp, resolve, invoke, builtin, Builtin.cap_, e1, run_und hu, goInt]⟩
      · exact H.elim
    · split at H
      · rename_i hv
        have e1 := opvs_eval hA hv
        exact ⟨_, H, fun w _ => by simp [execOp, resolve, invoke, builtin, Builtin.min_, Array.toList_map, e1, Builtin.min2, minI]⟩
      · rename_i hv
        have e1 := opvs_eval hA hv
        exact ⟨_, H, fun w _ => by simp [execOp, resolve, invoke, builtin, Builtin.min_, Array.toList_map, e1, Builtin.min2, minI]; rfl⟩
      · exact H.elim
    · split at H
      · rename_i hv
        have e1 := opvs_eval hA hv
        exact ⟨_, H, fun w _ => by simp [execOp, resolve, invoke, builtin, Builtin.max_, Array.toList_map, e1, Builtin.max2, maxI]⟩
      · rename_i hv
        have e1 := opvs_eval hA hv
        exact ⟨_, H, fun w _ => by simp [execOp, resolve, invoke, builtin, Builtin.max_, Array.toList_map, e1, Builtin.max2, maxI]⟩
      · exact H.elim
    · exact H.elim
  | _ => exact H.elim
end Go.Vd


namespace Go.Vd
section
variable {P : Program} {ops : Array Oper} {md : Region.Mode} {C : World → Prop}

def wpAnyLC (P : Program) (md : Region.Mode) (ops : Array Oper) (C : World → Prop) (n : Nat) (L : Array Bool → Act → Prop) : Nat → Array Bool → Act → Prop
  | 0, listed, a => L listed a
  | f + 1, listed, a =>
    Region.ready md ops listed ≠ [] ∧ ∀ i ∈ Region.ready md ops listed, i < n ∧ qOp P ops C i (wpAnyLC P md ops C n L f (listed.setIfInBounds i true)) a

theorem wpAny_of_headC {n g : Nat} {L : Array Bool → Act → Prop} {Q' : Exit → Act → World → Prop} (hL : ∀ listed a w, C w → L listed a → wpAny P md ops Q' g listed a w) :
    ∀ (f : Nat) (listed : Array Bool) (a : Act) (w : World), C w → wpAnyLC P md ops C n L f listed a → wpAny P md ops Q' (f + g) listed a w
  | 0, listed, a, w, hw, h => by rw [Nat.zero_add]; exact hL _ _ _ hw h
  | f + 1, listed, a, w, hw, h => by
    rw [show f + 1 + g = (f + g) + 1 by omega]
    exact ⟨fun h0 => absurd h0 h.1, fun i hi => wpOp_of_qOp hw (fun a' w' hw' h' => wpAny_of_headC hL f _ a' w' hw' h') (h.2 i hi).2⟩

theorem wpAnyLC_first {n i : Nat} {oi : Oper} {v : Value} {L : Array Bool → Act → Prop} (hi : ops[i]? = some oi) (hsel : ∀ (j : Nat) (o : Oper) cs b, ops[j]? = some o → o.op ≠ .select cs b)
    (hs : Region.sinkB md ops n = true) (hc : Region.chainB md ops n = true) (hn : n < ops.size) (hin : i < n)
    (hdone : ∀ listed a, L listed a → ∀ j ∈ Region.ready md ops listed, n ≤ j) :
    ∀ (f : Nat) (listed : Array Bool) (a : Act), HeadInv md ops n listed →
      (∀ j oj, ops[j]? = some oj → j ≠ i → listed.getD j true = false → (∀ e ∈ oj.after, Region.binds md e = true → e.on ≠ i) → oi.apart ops oj = true) →
      i ∈ Region.ready md ops listed → YieldsIn P ops C oi v a →
      wpAnyLC P md ops C n L f (listed.setIfInBounds i true) (a.put oi.dst v) → wpAnyLC P md ops C n L (f + 1) listed a := by
  intro f
  induction f with
  | zero =>
    intro listed a inv _ hr hy H
    have hun := (mem_ready.1 hr).1
    refine ⟨fun h => (by rw [h] at hr; cases hr), fun j hj => ?_⟩
    have hjn : j < n := by
      rcases Nat.lt_or_ge j n with h | h
      · exact h
      · exact absurd hj (tail_waits hs hc hn inv _ i rfl hin hun j h)
    refine ⟨hjn, ?_⟩
    by_cases hji : j = i
    · subst hji; exact hy.qOp hi H
    · have := hdone _ _ H j (ready_mono hj hji)
      omega
  | succ f ih =>
    intro listed a inv hfree hr hy H
    have hun := (mem_ready.1 hr).1
    refine ⟨fun h => (by rw [h] at hr; cases hr), fun j hj => ?_⟩
    have hjn : j < n := by
      rcases Nat.lt_or_ge j n with h | h
      · exact h
      · exact absurd hj (tail_waits hs hc hn inv _ i rfl hin hun j h)
    refine ⟨hjn, ?_⟩
    by_cases hji : j = i
    · subst hji; exact hy.qOp hi H
    · have h1 := (H.2 j (ready_mono hj hji)).2
      obtain ⟨hjun, oj, hoj, hall⟩ := mem_ready.1 hj
      have hnot : ∀ e ∈ oj.after, Region.binds md e = true → e.on ≠ i := fun e he hb heq => by
        have h1 := hall e he hb
        rw [heq, getD_both hun] at h1
        cases h1
      have h2 := qOp_put hoj (hfree j oj hoj hji hjun hnot) (fun cs b => hsel i oi cs b hi) (fun cs b => hsel j oj cs b hoj) hy h1
      have hfree' : ∀ k ok, ops[k]? = some ok → k ≠ i → (listed.setIfInBounds j true).getD k true = false →
          (∀ e ∈ ok.after, Region.binds md e = true → e.on ≠ i) → oi.apart ops ok = true := fun k ok hk hki hun hno => by
        refine hfree k ok hk hki ?_ hno
        by_cases hjk : j = k
        · subst hjk; exact hjun
        · rw [getD_set_ne true hjk] at hun; exact hun
      refine qOp_mono (fun a' h3 => ih (listed.setIfInBounds j true) a' (inv.set hj hjn) hfree' (ready_mono hr (Ne.symm hji)) h3.1 ?_) h2
      rw [Array.setIfInBounds_comm _ _ hji]
      exact h3.2

theorem wpAnyLC_lex {n g : Nat} {Lq : Act → Prop} (hsel : Region.noSelect ops = true) (hs : Region.sinkB md ops n = true) (hc : Region.chainB md ops n = true) (hn : n < ops.size) :
    ∀ (l : List Oper) (k : Nat) (listed : Array Bool) (a : Act), (∀ j, j < l.length → l[j]? = ops[k + j]?) → k + l.length = n → HeadInv md ops n listed →
    Region.lexHead md ops g l.length k listed = true → wpQuiet P ops C Lq l a →
    wpAnyLC P md ops C n (fun listed' a' => Region.seqB md ops g n listed' = true ∧ Lq a') l.length listed a
  | [], k, listed, a, _, hk, _, hB, h => by
    have : k = n := by simpa using hk
    subst this
    exact ⟨by simpa [Region.lexHead] using hB, h⟩
  | o :: l, k, listed, a, hl, hk, inv, hB, h => by
    have h0 : ops[k]? = some o := by simpa using (hl 0 (by simp)).symm
    simp only [List.length_cons, Region.lexHead, Bool.and_eq_true] at hB
    obtain ⟨⟨hr, hf⟩, hB'⟩ := hB
    have hkn : k < n := by simp only [List.length_cons] at hk; omega
    have hr' : k ∈ Region.ready md ops listed := by simpa using hr
    have hst : qOp P ops C k (wpQuiet P ops C Lq l) a := by unfold qOp; simp only [h0]; exact h
    obtain ⟨v, hy, hK⟩ := yieldsIn_of_qOp h0 hst
    exact wpAnyLC_first h0 (Region.noSelect_spec hsel) hs hc hn hkn (fun listed' a' hL => seqB_ready hL.1) l.length listed a inv (Region.free_spec h0 hf) hr' hy
      (wpAnyLC_lex hsel hs hc hn l (k + 1) _ _ (fun j hj => by have := hl (j + 1) (by simp; omega); simpa [Nat.add_assoc, Nat.add_comm 1 j] using this) (by simp only [List.length_cons] at hk; omega) (inv.set hr' hkn) hB' hK)

/-- A region that draws: the first n operations quiet in the class C, the others in sequence. -/
theorem any_region_quiet {Q : Exit → Act → World → Prop} {a : Act} {w : World} (hB : Region.lexB .any ops = true) (hC : C { w with drawn := w.drawn + 1 })
    (h : wpQuiet P ops C (fun a' => ∀ w', C w' → Q .normal a' w') ops.toList a) : wpAny P .any ops Q ops.size (Array.replicate ops.size false) a { w with drawn := w.drawn + 1 } := by
  simp only [Region.lexB, Bool.and_eq_true] at hB
  refine wpAny_of_quiet (Q := fun a' => ∀ w', C w' → Q .normal a' w') (fun _ w' hw' h => h w' hw') _ _ _ _ hC ?_
  have := wpAnyQ_lex (C := C) (md := .any) hB.1 ops.toList 0 (Array.replicate ops.size false) a (by simp) (by simpa using hB.2) h
  simpa using this
theorem any_region_quiet_tail {Q : Exit → Act → World → Prop} {a : Act} {w : World} {l : List Oper} (n : Nat) (hB : Region.lexTailB .any l.toArray n = true)
    (hC : C { w with drawn := w.drawn + 1 })
    (h : wpQuiet P l.toArray C (fun a' => ∀ w', C w' → wpList P l.toArray Q (l.drop n) a' w') (l.take n) a) : wpAny P .any l.toArray Q l.toArray.size (Array.replicate l.toArray.size false) a { w with drawn := w.drawn + 1 } := by
  simp only [Region.lexTailB, Bool.and_eq_true, decide_eq_true_eq] at hB
  obtain ⟨⟨⟨⟨hsel, hn⟩, hs⟩, hc⟩, hlex⟩ := hB
  have hn' : n < l.length := by simpa using hn
  have htl : (l.take n).length = n := by simp; omega
  have hdl : (l.drop n).length = l.toArray.size - n := by simp
  have inv0 : HeadInv .any l.toArray n (Array.replicate l.toArray.size false) :=
    ⟨by simp, fun j oj _ hl => (by rw [getD_replicate_false] at hl; cases hl), fun t _ ht => getD_in (by simpa using ht) (getD_replicate_false _ _)⟩
  have H := wpAnyLC_lex (md := .any) (g := l.toArray.size - n) hsel hs hc hn (l.take n) 0 _ a (fun j hj => by
    have hj' : j < n := by rw [htl] at hj; exact hj
    simp [hj']) (by simpa using htl) inv0 (by rw [htl]; exact hlex) h
  have := wpAny_of_headC (C := C) (Q' := Q) (g := l.toArray.size - n) (fun listed a' w' hw' hL => by
    have := wpAny_of_seq (md := .any) (Q' := Q) (l.drop n) n listed a' w' (fun j => by simp [List.getElem?_drop]) (by rw [hdl]; exact hL.1) (hL.2 w' hw')
    rwa [hdl] at this) _ _ _ _ hC H
  rw [htl, show n + (l.toArray.size - n) = l.toArray.size by omega] at this
  exact this
end
end Go.Vd


namespace Go.Vd
set_option linter.unusedVariables false

def updC (a : Addr) (v : Value) : Obj → Obj
  | .cells c elem frozen => .cells (if a.spot.isSome then c else c.setIfInBounds a.off v) elem frozen
  | o => o
def setC (h : Heap) (a : Addr) (v : Value) : Heap := h.modify a.block (updC a v)
def setCs (h : Heap) (a : Addr) : Nat → List Value → Heap
  | _, [] => h
  | i, v :: r => setCs (setC h (a.add i) v) a (i + 1) r
/-- a cell that may be written -/
def Wr (h : Heap) (a : Addr) : Prop := (∃ v, cell h a = some v) ∧ frz h a = false
/-- a value of one cell -/
def one : Value → Bool
  | .agg _ | .tuple _ => false
  | _ => true
/-- a new block -/
structure New (h : Heap) (b : Nat) (o : Obj) (h' : Heap) : Prop where
  at_ : b = h.size
  eq : h' = h.push o
/-- cells written -/
def Put (h : Heap) (a : Addr) (vs : List Value) (h' : Heap) : Prop := h' = setCs h a 0 vs

/-- A store of a value into a variable of n cells. -/
def storeK (n : Nat) (h : Heap) (a : Addr) (v : Value) (K : Heap → Prop) : Prop :=
  match v with
  | .agg cs => cs.size = n ∧ (∀ u ∈ cs.toList, one u = true) ∧ (∀ i, i < n → Wr h (a.add i)) ∧ ∀ h', Put h a cs.toList h' → K h'
  | .tuple _ => False
  | v => n = 1 ∧ Wr h a ∧ ∀ h', Put h a [v] h' → K h'
def newK (h : Heap) (o : Obj) (K : Nat → Heap → Prop) : Prop := ∀ b h', New h b o h' → K b h'
def mkCells (z : Array Value) (n : Nat) : Array Value := (Array.range n).map (z[· % z.size]!)

/-- What is appended, or copied: so many elements, these cells. -/
def srcK (h : Heap) (size : Nat) (x : Value) (m : Nat) (news : List Value) : Prop :=
  match x with
  | .slice a l _ => m = l ∧ news.length = l * size ∧ (∀ ad, a = some ad → CellsAt h ad news) ∧ (a = none → news = [])
  | .string s => m = s.size ∧ news = bytesV s
  | _ => False
/-- An append: the slice's address, length, capacity behind it, and the heap. -/
def appK (P : Program) (el : TypeId) (h : Heap) (a : Option Addr) (l c : Nat) (x : Value) (K : Option Addr → Nat → Nat → Heap → Prop) : Prop :=
  ∃ (m : Nat) (news : List Value), srcK h (P.cellsOf el) x m news ∧
    (l + m ≤ c → (∀ u ∈ news, one u = true) ∧ (∀ ad, a = some ad → ∀ i, i < news.length → Wr h ((ad.add (l * P.cellsOf el)).add i)) ∧
      ∀ h', (∀ ad, a = some ad → Put h (ad.add (l * P.cellsOf el)) news h') → (a = none → h' = h) → K a (l + m) c h') ∧
    (c < l + m → ∃ olds : List Value, olds.length = l * P.cellsOf el ∧ (∀ ad, a = some ad → CellsAt h ad olds) ∧ (a = none → olds = []) ∧
      Builtin.nextslicecap (l + m) c * P.bytesOf el ≤ 281474976710656 ∧
      ∀ c' b h', l + m ≤ c' → New h b (.cells (olds.toArray ++ news.toArray ++ Builtin.zeroCells (((P.info? el).bind (·.zero)).getD undef).cells (c' - (l + m))) el) h' → K (some ⟨b, 0, none⟩) (l + m) c' h')
/-- A copy: how many elements, and the heap. -/
def copyK (P : Program) (el : TypeId) (h : Heap) (a : Option Addr) (l : Nat) (x : Value) (K : Int → Heap → Prop) : Prop :=
  ∃ (m : Nat) (news : List Value), (∃ all : List Value, srcK h (P.cellsOf el) x m all ∧ news = all.take (min m l * P.cellsOf el)) ∧
    (∀ u ∈ news, one u = true) ∧ (∀ ad, a = some ad → ∀ i, i < news.length → Wr h (ad.add i)) ∧
    ∀ h', (∀ ad, a = some ad → Put h ad news h') → (a = none → h' = h) → K (min m l : Nat) h'
/-- The bytes that a constant text was made into: their block is marked behind its end. -/
def markO : Obj → Obj
  | .cells c t (lo, hi) => .cells c t (if lo == hi then (c.size, c.size + 1) else (min lo c.size, max hi (c.size + 1)))
  | o => o
def markK (h : Heap) (b : Nat) (K : Heap → Prop) : Prop := (∃ c t fr, h[b]? = some (.cells c t fr)) ∧ ∀ h', h' = h.modify b markO → K h'
/-- Any other operation: it comes to a value. -/
def semK (P : Program) (s : Sem Value) (h : Heap) (K : Value → Heap → Prop) : Prop :=
  ∀ w : World, w.heap = h → ∃ v w', s.run P w = .ok v w' ∧ Kin w w' ∧ K v w'.heap
def semU (P : Program) (s : Sem Unit) (h : Heap) (K : Heap → Prop) : Prop :=
  ∀ w : World, w.heap = h → ∃ w', s.run P w = .ok () w' ∧ Kin w w' ∧ K w'.heap

def catCells : List (Nat × Value) → List Value
  | [] => []
  | (_, v) :: r => v.cells.toList ++ catCells r
/-- the parts are the elements one behind the other, from the k-th on -/
def seqParts (size : Nat) : Nat → List (Nat × Value) → (Prop → Prop)
  | _, [], p => p
  | k, (i, v) :: r, p => match Nat.beq i k with
    | true => match v with
      | .agg cs => cs.size = size ∧ seqParts size (k + 1) r p
      | _ => match size with
        | 1 => seqParts size (k + 1) r p
        | _ => False
    | false => False
def partsV (e : Env) : List (Nat × Operand) → Option (List (Nat × Value))
  | [] => some []
  | (i, x) :: l => match opv e x, partsV e l with
    | some v, some vs => some ((i, v) :: vs)
    | _, _ => none

/-- a struct put together: each part over the zero value's cells (nz: how many these are) -/
def buildK (P : Program) (fs : Array Field) (nz : Nat) : List (Nat × Value) → List Value → (List Value → Prop) → Prop
  | [], z, K => K z
  | (i, v) :: r, z, K => match fs[i]? with
    | some f => match Nat.ble (f.offset + P.cellsOf f.type) nz with
      | true => match v with
        | .agg cs => cs.size = P.cellsOf f.type ∧ buildK P fs nz r (z.take f.offset ++ cs.toList ++ z.drop (f.offset + P.cellsOf f.type)) K
        | v => match P.cellsOf f.type with
          | 1 => buildK P fs nz r (z.set f.offset v) K
          | _ => False
      | false => False
    | none => False
def buildV (P : Program) (t : TypeId) (parts : Option (List (Nat × Value))) (K : Option Value → Prop) : Prop :=
  match parts with
  | some vs => match (P.info? t).bind (·.zero), P.underlying t with
    | some z, some (.struct fs) => match fs.toList.all fun f => (P.info? f.type).isSome with
      | true => buildK P fs z.cells.size vs z.cells.toList fun l => K (some (.agg l.toArray))
      | false => False
    | some z, some (.array n el) => match vs with
      | [] => match P.info? el with
        | some _ => K (some (.agg z.cells))
        | none => False
      | _ => match Nat.beq vs.length n, P.info? el, Nat.beq z.cells.size (n * P.cellsOf el) with
        | true, some _, true => seqParts (P.cellsOf el) 0 vs (K (some (.agg (catCells vs).toArray)))
        | _, _, _ => False
    | _, _ => False
  | none => False

/-- A call's result, by its type. -/
def resK (P : Program) (t : TypeId) (K : Option Value → Heap → Prop) (v : Value) (h : Heap) : Prop := withSh (sh P t) fun u => v = u ∧ K (some u) h

def callK (P : Program) (t : TypeId) (f : Option Value) (args : Option (List Value)) (h : Heap) (K : Option Value → Heap → Prop) : Prop :=
  match f, args with
  | some (.func (.func g) first captured), some vs => HCalls P g (first.toList ++ vs ++ captured.toList).toArray h (resK P t K)
  | _, _ => False

def isIntD : TypeDesc → Bool
  | .int _ => true
  | _ => false
def vcEff (P : Program) (A : Ann) (o : Oper) (e : Env) (h : Heap) (K : Option Value → Heap → Prop) : Prop :=
  match o.op with
  | .alloc t => match (P.info? t).bind (·.zero) with
    | some z => newK h (.cells z.cells t) fun b h' => K (some (.pointer (some ⟨b, 0, none⟩))) h'
    | none => False
  | .box t x => match opv e x with
    | some v => newK h (.cells v.cells t) fun b h' => K (some (.pointer (some ⟨b, 0, none⟩))) h'
    | none => False
  | .store t x y => match opv e x, opv e y with
    | some (.pointer (some ad)), some v => match P.underlying t with
      | some _ => storeK (P.cellsOf t) h ad v fun h' => K none h'
      | none => False
    | _, _ => False
  | .build t parts => buildV P t (partsV e parts.toList) fun v => K v h
  | .buildSlice t len parts => match P.underlying t, partsV e parts.toList with
    | some (.slice el), some vs => match Nat.beq vs.length len, (P.info? el).bind (·.zero) with
      | true, some _ => seqParts (P.cellsOf el) 0 vs (len * P.cellsOf el ≤ 16777216 ∧ newK h (.cells (catCells vs).toArray el) fun b h' => K (some (.slice (some ⟨b, 0, none⟩) len len)) h')
      | _, _ => False
    | _, _ => False
  | .makeSlice t x y => match opv e x, opv e y with
    | some (.int _ l), some (.int _ c) => match P.underlying t with
      | some (.slice el) => match (P.info? el).bind (·.zero) with
        | some z => 0 ≤ l ∧ l ≤ c ∧ P.bytesOf el * c ≤ 281474976710656 ∧ c < 9223372036854775808 ∧
            newK h (.cells (mkCells z.cells (c.toNat * P.cellsOf el)) el) fun b h' => K (some (.slice (some ⟨b, 0, none⟩) l.toNat c.toNat)) h'
        | none => False
      | _ => False
    | _, _ => False
  | .makeMap _ none => newK h (.map #[] 0) fun b h' => K (some (.map (some b))) h'
  | .convert s d x => match P.underlying d with
    | some (.slice el) => match P.underlying el with
      | some (.int .u8) => match P.underlying s with
        | some _ => match opv e x with
          | some (.string b) => ∀ c b' h', b.size ≤ c → New h b' (.cells ((bytesV b).toArray ++ Array.replicate (c - b.size) (.int .u8 0)) el (c, c + 1)) h' → K (some (.slice (some ⟨b', 0, none⟩) b.size c)) h'
          | some (.slice (some ad) l c) => match Nat.beq s d with
            | true => markK h ad.block fun h' => K (some (.slice (some ad) l c)) h'
            | false => False
          | _ => False
        | none => False
      | _ => False
    | _ => vcPure P A o e h fun v => K v h
  | .lookup t x i ok => match opv e x, opv e i with
    | some m, some k => semK P (Instr.lookup t m k ok) h fun v h' => resK P o.type K v h'
    | _, _ => False
  | .mapUpdate t m k x | .insert t m k x => match opv e m, opv e k, opv e x with
    | some m, some k, some v => semU P (Instr.mapUpdate t m k v) h fun h' => K none h'
    | _, _, _ => False
  | .mapEntry t m k => match opv e m, opv e k with
    | some m, some k => match P.underlying t with
      | some (.map _ el) => semK P (Instr.mapEntry t m k) h fun v h' => withSh (sh P el) fun u => ∃ n : Int, v = .tuple #[u, .int .i64 n] ∧ K (some (.tuple #[u, .int .i64 n])) h'
      | _ => False
    | _, _ => False
  | .entryStore t m s x => match opv e m, opv e s, opv e x with
    | some m, some s, some v => semU P (Instr.entryStore t m s v) h fun h' => K none h'
    | _, _, _ => False
  | .range t x => match opv e x with
    | some v => semK P (Instr.range t v) h fun v h' => ∃ b : Nat, v = .pointer (some ⟨b, 0, none⟩) ∧ K (some (.pointer (some ⟨b, 0, none⟩))) h'
    | none => False
  | .next it b => match opv e it with
    | some v => semK P (Instr.next v b o.type) h fun v h' => (v = .tuple #[.bool false] ∧ K (some (.tuple #[.bool false])) h') ∨ (∃ k u : Value, v = .tuple #[.bool true, k, u] ∧ K (some (.tuple #[.bool true, k, u])) h')
    | none => False
  | .entry it => match opv e it, fnOf A.ents o.dst with
    | some v, some (kt, et) => semK P (Instr.entry v) h fun v h' => withSh (sh P kt) fun k => withSh (sh P et) fun u => v = .tuple #[k, u] ∧ K (some (.tuple #[k, u])) h'
    | _, _ => False
  | .sliceToArrayPointer t x => match opv e x with
    | some (.slice a l _) => match P.underlying t with
      | some (.array n _) => n ≤ l ∧ K (some (.pointer a)) h
      | _ => False
    | _ => False
  | .call c => match c.callee with
    | .builtin .append => match c.argTypes.toList, opvs e c.args.toList with
      | [t, u], some [.slice a l cp, x] => match P.underlying t, P.underlying u with
        | some (.slice el), some d => match P.underlying el, isIntD d with
          | some _, false => match Nat.beq (P.bytesOf el) 0, (P.info? el).bind (·.zero) with
            | false, some _ => appK P el h a l cp x fun a' l' c' h' => K (some (.slice a' l' c')) h'
            | _, _ => False
          | _, _ => False
        | _, _ => False
      | _, _ => False
    | .builtin .copy => match c.argTypes.toList, opvs e c.args.toList with
      | t :: _, some [.slice a l _, x] => match P.underlying t with
        | some (.slice el) => match P.underlying el with
          | some _ => match (match x with | .string _ => Nat.beq (P.cellsOf el) 1 | _ => true) with
            | true => copyK P el h a l x fun n h' => K (some (.int .i64 n)) h'
            | false => False
          | none => False
        | _ => False
      | _, _ => False
    | .builtin .delete => match opvs e c.args.toList with
      | some vs => semK P (Builtin.delete_ c.argTypes o.type vs.toArray) h fun v h' => K (some v) h'
      | none => False
    | .builtin .clear => match opvs e c.args.toList with
      | some vs => semK P (Builtin.clear_ c.argTypes o.type vs.toArray) h fun v h' => K (some v) h'
      | none => False
    | .builtin .len => match c.argTypes.toList with
      | t :: _ => match P.underlying t with
        | some (.map _ _) => match opvs e c.args.toList with
          | some vs => semK P (Builtin.len_ c.argTypes o.type vs.toArray) h fun v h' => resK P o.type K v h'
          | none => False
        | _ => vcPure P A o e h fun v => K v h
      | [] => False
    | .value f => callK P o.type (opv e f) (opvs e c.args.toList) h K
    | _ => vcPure P A o e h fun v => K v h
  | _ => vcPure P A o e h fun v => K v h

/-- an operation that may panic -/
def vcEffP (P : Program) (A : Ann) (o : Oper) (e : Env) (h : Heap) (K : Option Value → Heap → Prop) : Prop :=
  match A.yld with
  | true => (match o.op with
    | .call c => match c.callee with
      | .value f => match opv e f, opvs e c.args.toList with
        | some (.func (.yield l) first captured), some vs => HYield P l (first.toList ++ vs).toArray h (resK P o.type K)
        | _, _ => vcEff P A o e h K
      | _ => vcEff P A o e h K
    | _ => vcEff P A o e h K)
  | false => match A.pans with
  | none => vcEff P A o e h K
  | some ps => match o.op with
    | .panic x => match opv e x with
      | some (.iface _ _) => A.pan h
      | _ => False
    | .call c => match c.callee with
      | .value f => match opv e f, opvs e c.args.toList with
        | some (.func (.func g) first captured), some vs => match ps.contains g with
          | true => HCallsP P g (first.toList ++ vs ++ captured.toList).toArray h (resK P o.type K) A.pan
          | false => vcEff P A o e h K
        | _, _ => False
      | _ => vcEff P A o e h K
    | _ => vcEff P A o e h K
/-- Operations in sequence. 'all': the whole region, for the guards. -/
def vcOps (P : Program) (A : Ann) (all : List Oper) : List Oper → Env → Heap → (Env → Heap → Prop) → Prop
  | [], e, h, K => K e h
  | o :: r, e, h, K => match o.guard with
    | none => vcEffP P A o e h fun v h' => withEnv (Env.put e o.dst v) fun e2 => vcOps P A all r e2 h' K
    | some (j, want) => match (all[j]?).bind (·.dst) with
      | some d => match Env.get e d with
        | some (.bool b) => match want with
          | true => br b (vcEffP P A o (Env.set e d (some (.bool true))) h fun v h' => withEnv (Env.put (Env.set e d (some (.bool true))) o.dst v) fun e2 => vcOps P A all r e2 h' K)
              (withEnv (Env.put (Env.set e d (some (.bool false))) o.dst (some undef)) fun e2 => vcOps P A all r e2 h K)
          | false => br b (withEnv (Env.put (Env.set e d (some (.bool true))) o.dst (some undef)) fun e2 => vcOps P A all r e2 h K)
              (vcEffP P A o (Env.set e d (some (.bool false))) h fun v h' => withEnv (Env.put (Env.set e d (some (.bool false))) o.dst v) fun e2 => vcOps P A all r e2 h' K)
        | some (.tuple _) => withEnv (Env.put e o.dst (some undef)) fun e2 => vcOps P A all r e2 h K
        | _ => False
      | none => False

/-- which heaps a region that draws may see: the one that it began with, or that one grown -/
def Cls (ext : Bool) (h h' : Heap) : Prop := match ext with
  | true => Ext h h'
  | false => h' = h
/-- one operation of a quiet head -/
def vcQo (P : Program) (A : Ann) (ext : Bool) (o : Oper) (e : Env) (h : Heap) (K : Option Value → Prop) : Prop :=
  match o.op with
  | .call c => match c.callee with
    | .value f => match opv e f, opvs e c.args.toList with
      | some (.func (.func g) first captured), some vs => withSh (sh P o.type) fun u => (∀ h1, Cls ext h h1 → HEnt P g (first.toList ++ vs ++ captured.toList).toArray h1 fun v h2 => v = u ∧ Cls ext h1 h2) ∧ K (some u)
      | _, _ => False
    | _ => vcPure P A o e h K
  | .lookup t x i ok => match opv e x, opv e i with
    | some m, some k => withSh (sh P o.type) fun u => (∀ w : World, Cls ext h w.heap → (Instr.lookup t m k ok).run P w = .ok u w) ∧ K (some u)
    | _, _ => False
  | .build t parts => buildV P t (partsV e parts.toList) K
  | _ => vcPure P A o e h K
def vcQ (P : Program) (A : Ann) (ext : Bool) (all : List Oper) : List Oper → Env → Heap → (Env → Prop) → Prop
  | [], e, _, K => K e
  | o :: r, e, h, K => match o.guard with
    | none => vcQo P A ext o e h fun v => withEnv (Env.put e o.dst v) fun e2 => vcQ P A ext all r e2 h K
    | some (j, want) => match (all[j]?).bind (·.dst) with
      | some d => match Env.get e d with
        | some (.bool b) => match want with
          | true => br b (vcQo P A ext o (Env.set e d (some (.bool true))) h fun v => withEnv (Env.put (Env.set e d (some (.bool true))) o.dst v) fun e2 => vcQ P A ext all r e2 h K)
              (withEnv (Env.put (Env.set e d (some (.bool false))) o.dst (some undef)) fun e2 => vcQ P A ext all r e2 h K)
          | false => br b (withEnv (Env.put (Env.set e d (some (.bool true))) o.dst (some undef)) fun e2 => vcQ P A ext all r e2 h K)
              (vcQo P A ext o (Env.set e d (some (.bool false))) h fun v => withEnv (Env.put (Env.set e d (some (.bool false))) o.dst v) fun e2 => vcQ P A ext all r e2 h K)
        | some (.tuple _) => withEnv (Env.put e o.dst (some undef)) fun e2 => vcQ P A ext all r e2 h K
        | _ => False
      | none => False

/-! ### code -/
inductive Ex where
  | normal
  | exit (id : Nat)
  | goto (l : Nat)
  | ret

/-- the first region's number -/
def firstRegion : Code → Nat
  | .region id _ _ => id
  | .seq a _ => firstRegion a
  | .block _ b => firstRegion b
  | .loop b => firstRegion b
  | .scope b => firstRegion b
  | _ => 0
/-- the slots that are written -/
def writes : Code → List Nat
  | .region _ ops _ => ops.toList.filterMap (·.dst)
  | .seq a b => writes a ++ writes b
  | .cond _ a b => writes a ++ writes b
  | .block _ b => writes b
  | .loop b => writes b
  | .scope b => writes b
  | _ => []
def kills : List Nat → Env → Env
  | [], e => e
  | d :: r, e => kills r (Env.set e d none)
def ann {α : Type} (l : List (Nat × α)) (n : Nat) : Option α := match l with
  | [] => none
  | (m, x) :: r => match Nat.beq m n with
    | true => some x
    | false => ann r n

/-- for all values of these shapes in these slots -/
def allIn : List (Nat × Sh) → Env → (Env → Prop) → Prop
  | [], e, f => withEnv e f
  | (d, .int k) :: r, e, f => ∀ n : Int, allIn r (Env.set e d (some (.int k n))) f
  | (d, .bool) :: r, e, f => ∀ b : Bool, allIn r (Env.set e d (some (.bool b))) f
  | (d, .str) :: r, e, f => ∀ s : ByteArray, allIn r (Env.set e d (some (.string s))) f
  | (d, .ptr) :: r, e, f => ∀ a : Option Addr, allIn r (Env.set e d (some (.pointer a))) f
  | (d, .slice) :: r, e, f => ∀ (a : Option Addr) (l c : Nat), allIn r (Env.set e d (some (.slice a l c))) f
  | (d, .map) :: r, e, f => ∀ m : Option Nat, allIn r (Env.set e d (some (.map m))) f
  | (d, _) :: r, e, f => ∀ v : Value, allIn r (Env.set e d (some v)) f
/-- what is said of values of these shapes -/
@[reducible] def Inv : List (Nat × Sh) → Type
  | [] => Heap → Prop
  | (_, .int _) :: r => Int → Inv r
  | (_, .bool) :: r => Bool → Inv r
  | (_, .str) :: r => ByteArray → Inv r
  | (_, .ptr) :: r => Option Addr → Inv r
  | (_, .slice) :: r => Option Addr → Nat → Nat → Inv r
  | (_, .map) :: r => Option Nat → Inv r
  | (_, _) :: r => Value → Inv r
@[reducible] def Meas : List (Nat × Sh) → Type
  | [] => Heap → Nat
  | (_, .int _) :: r => Int → Meas r
  | (_, .bool) :: r => Bool → Meas r
  | (_, .str) :: r => ByteArray → Meas r
  | (_, .ptr) :: r => Option Addr → Meas r
  | (_, .slice) :: r => Option Addr → Nat → Nat → Meas r
  | (_, .map) :: r => Option Nat → Meas r
  | (_, _) :: r => Value → Meas r
/-- it holds of the values in the slots -/
def invAt : (l : List (Nat × Sh)) → Inv l → Env → Heap → Prop
  | [], I, _, h => I h
  | (d, .int k) :: r, I, e, h => match Env.get e d with
    | some (.int k' n) => ifK k k' (invAt r (I n) e h)
    | _ => False
  | (d, .bool) :: r, I, e, h => match Env.get e d with
    | some (.bool b) => invAt r (I b) e h
    | _ => False
  | (d, .str) :: r, I, e, h => match Env.get e d with
    | some (.string s) => invAt r (I s) e h
    | _ => False
  | (d, .ptr) :: r, I, e, h => match Env.get e d with
    | some (.pointer a) => invAt r (I a) e h
    | _ => False
  | (d, .slice) :: r, I, e, h => match Env.get e d with
    | some (.slice a l c) => invAt r (I a l c) e h
    | _ => False
  | (d, .map) :: r, I, e, h => match Env.get e d with
    | some (.map m) => invAt r (I m) e h
    | _ => False
  | (d, .any) :: r, I, e, h | (d, .agg _) :: r, I, e, h | (d, .struct _) :: r, I, e, h | (d, .tuple _) :: r, I, e, h => match Env.get e d with
    | some v => invAt r (I v) e h
    | _ => False
/-- the measure there is less than m -/
def measAt : (l : List (Nat × Sh)) → Meas l → Env → Heap → (Nat → Prop) → Prop
  | [], M, _, h, f => f (M h)
  | (d, .int _) :: r, M, e, h, f => match Env.get e d with
    | some (.int _ n) => measAt r (M n) e h f
    | _ => False
  | (d, .bool) :: r, M, e, h, f => match Env.get e d with
    | some (.bool b) => measAt r (M b) e h f
    | _ => False
  | (d, .str) :: r, M, e, h, f => match Env.get e d with
    | some (.string s) => measAt r (M s) e h f
    | _ => False
  | (d, .ptr) :: r, M, e, h, f => match Env.get e d with
    | some (.pointer a) => measAt r (M a) e h f
    | _ => False
  | (d, .slice) :: r, M, e, h, f => match Env.get e d with
    | some (.slice a l c) => measAt r (M a l c) e h f
    | _ => False
  | (d, .map) :: r, M, e, h, f => match Env.get e d with
    | some (.map m) => measAt r (M m) e h f
    | _ => False
  | (d, .any) :: r, M, e, h, f | (d, .agg _) :: r, M, e, h, f | (d, .struct _) :: r, M, e, h, f | (d, .tuple _) :: r, M, e, h, f => match Env.get e d with
    | some v => measAt r (M v) e h f
    | _ => False

/-- An operation that makes a block: the block, and the value by the block's number. -/
def vcA (P : Program) (o : Oper) (e : Env) (f : Obj → (Nat → Value) → Prop) : Prop :=
  match o.op with
  | .box t x => match opv e x with
    | some v => f (.cells v.cells t) fun b => .pointer (some ⟨b, 0, none⟩)
    | none => False
  | .alloc t => match (P.info? t).bind (·.zero) with
    | some z => f (.cells z.cells t) fun b => .pointer (some ⟨b, 0, none⟩)
    | none => False
  | .buildSlice t len parts => match P.underlying t, partsV e parts.toList with
    | some (.slice el), some vs => match Nat.beq vs.length len, (P.info? el).bind (·.zero) with
      | true, some _ => seqParts (P.cellsOf el) 0 vs (len * P.cellsOf el ≤ 16777216 ∧ f (.cells (catCells vs).toArray el) fun b => .slice (some ⟨b, 0, none⟩) len len)
      | _, _ => False
    | _, _ => False
  | _ => False

/-- an operation that is asked for, or not -/
def vcGuard (all : List Oper) (o : Oper) (e : Env) (run skip : Env → Prop) : Prop :=
  match o.guard with
  | none => run e
  | some (j, want) => match (all[j]?).bind (·.dst) with
    | some d => match Env.get e d with
      | some (.bool b) => match want with
        | true => br b (run (Env.set e d (some (.bool true)))) (skip (Env.set e d (some (.bool false))))
        | false => br b (skip (Env.set e d (some (.bool true)))) (run (Env.set e d (some (.bool false))))
      | some (.tuple _) => skip e
      | _ => False
    | none => False
/-- a quiet operation of a mixed region: what it comes to in every memory that may come -/
def vcMq (P : Program) (A : Ann) (Rl : Heap → Heap → Prop) (o : Oper) (e : Env) (h : Heap) (K : Option Value → Prop) : Prop :=
  match o.op with
  | .load t x => match opv e x with
    | some (.pointer (some ad)) => withSh (sh P t) fun u => (∀ w : World, Rl h w.heap → (loadVar t ad).run P w = .ok u w) ∧ K (some u)
    | _ => False
  | .lookup t x i ok => match opv e x, opv e i with
    | some m, some k => withSh (sh P o.type) fun u => (∀ w : World, Rl h w.heap → (Instr.lookup t m k ok).run P w = .ok u w) ∧ K (some u)
    | _, _ => False
  | .build t parts => buildV P t (partsV e parts.toList) K
  | .convert s d x => match opv e x with
    | some (.slice a l c) => match P.underlying d with
      | some .string => withSh .str fun u => (∀ w : World, Rl h w.heap → (convert s d (.slice a l c)).run P w = .ok u w) ∧ K (some u)
      | _ => vcPure P A o e #[] K
    | _ => vcPure P A o e #[] K
  | _ => vcPure P A o e #[] K
def vcM (P : Program) (A : Ann) (Rl : Heap → Heap → Prop) (all : List Oper) : Mix → Env → Heap → (Env → Heap → Prop) → Prop
  | .done, e, h, K => K e h
  | .quiet i r, e, h, K => match all[i]? with
    | none => False
    | some o => vcGuard all o e
        (fun e1 => vcMq P A Rl o e1 h fun v => withEnv (Env.put e1 o.dst v) fun e2 => vcM P A Rl all r e2 h K)
        (fun e1 => withEnv (Env.put e1 o.dst (some undef)) fun e2 => vcM P A Rl all r e2 h K)
  | .one i r, e, h, K => match all[i]? with
    | none => False
    | some o => vcGuard all o e
        (fun e1 => vcEff P A o e1 h fun v h' => Rl h h' ∧ withEnv (Env.put e1 o.dst v) fun e2 => vcM P A Rl all r e2 h' K)
        (fun e1 => withEnv (Env.put e1 o.dst (some undef)) fun e2 => vcM P A Rl all r e2 h K)
  | .two i r j s, e, h, K => match all[i]?, all[j]? with
    | some o, some o' => (vcGuard all o e
        (fun e1 => vcEff P A o e1 h fun v h' => Rl h h' ∧ withEnv (Env.put e1 o.dst v) fun e2 => vcM P A Rl all r e2 h' K)
        (fun e1 => withEnv (Env.put e1 o.dst (some undef)) fun e2 => vcM P A Rl all r e2 h K)) ∧
      vcGuard all o' e
        (fun e1 => vcEff P A o' e1 h fun v h' => Rl h h' ∧ withEnv (Env.put e1 o'.dst v) fun e2 => vcM P A Rl all s e2 h' K)
        (fun e1 => withEnv (Env.put e1 o'.dst (some undef)) fun e2 => vcM P A Rl all s e2 h K)
    | _, _ => False
  | .three i r j s k u, e, h, K => match all[i]?, all[j]?, all[k]? with
    | some o, some o', some o3 => (vcGuard all o e
        (fun e1 => vcEff P A o e1 h fun v h' => Rl h h' ∧ withEnv (Env.put e1 o.dst v) fun e2 => vcM P A Rl all r e2 h' K)
        (fun e1 => withEnv (Env.put e1 o.dst (some undef)) fun e2 => vcM P A Rl all r e2 h K)) ∧
      (vcGuard all o' e
        (fun e1 => vcEff P A o' e1 h fun v h' => Rl h h' ∧ withEnv (Env.put e1 o'.dst v) fun e2 => vcM P A Rl all s e2 h' K)
        (fun e1 => withEnv (Env.put e1 o'.dst (some undef)) fun e2 => vcM P A Rl all s e2 h K)) ∧
      vcGuard all o3 e
        (fun e1 => vcEff P A o3 e1 h fun v h' => Rl h h' ∧ withEnv (Env.put e1 o3.dst v) fun e2 => vcM P A Rl all u e2 h' K)
        (fun e1 => withEnv (Env.put e1 o3.dst (some undef)) fun e2 => vcM P A Rl all u e2 h K)
    | _, _, _ => False
  | .last i r, e, h, K => match all[i]? with
    | none => False
    | some o => vcGuard all o e
        (fun e1 => vcEff P A o e1 h fun v h' => True ∧ withEnv (Env.put e1 o.dst v) fun e2 => vcM P A Rl all r e2 h' K)
        (fun e1 => withEnv (Env.put e1 o.dst (some undef)) fun e2 => vcM P A Rl all r e2 h K)

def vcRegion (P : Program) (A : Ann) (id : Nat) (ops : List Oper) (draw : Bool) (e : Env) (h : Heap) (K : Env → Heap → Prop) : Prop :=
  match draw with
  | false => match A.stops.contains id with
    | true => False
    | false => vcOps P A ops ops e h K
  | true => match ann A.draws id with
    | some (m, n) => match Nat.beq m 3 with
      | true => match ann A.mixes id with
        | some s => ∃ Rl : Heap → Heap → Prop, (∀ h, Rl h h) ∧ (∀ a b c, Rl a b → Rl b c → Rl a c) ∧ vcM P A Rl ops s e h K
        | none => False
      | false => match Nat.beq n ops.length with
      | true => vcQ P A (Nat.beq m 1) ops ops e h fun e' => ∀ h', Cls (Nat.beq m 1) h h' → K e' h'
      | false => match Nat.beq m 2 with
        | false => vcQ P A (Nat.beq m 1) ops (ops.take n) e h fun e' => ∀ h', Cls (Nat.beq m 1) h h' → vcOps P A.still ops (ops.drop n) e' h' K
        | true => match ops[n]? with
          | some o => match o.guard with
            | none => vcQ P A true ops (ops.take n) e h fun e' => vcA P o e' fun ob mk => ∀ b h', h.size ≤ b → Ext h h' → h'[b]? = some ob → withEnv (Env.put e' o.dst (some (mk b))) fun e2 => vcOps P A.still ops (ops.drop (n + 1)) e2 h' K
            | some _ => False
          | none => False
    | none => False

/-- is the label ahead in this row of code? -/
def hasLabel : Code → Nat → Bool
  | .seq a b, l => match hasLabel a l with
    | true => true
    | false => hasLabel b l
  | .label m, l => Nat.beq m l
  | _, _ => false
/-- the first label of a scope -/
def theLabel : Code → Option Nat
  | .seq a b => match theLabel a with
    | some l => some l
    | none => theLabel b
  | .label m => some m
  | _ => none

/-- The condition; 'some l': of what stands behind the label l. -/
def vcS (P : Program) (A : Ann) : Code → Option Nat → (Ex → Env → Heap → Prop) → Env → Heap → Prop
  | .skip, none, Q, e, h => Q .normal e h
  | .label _, none, Q, e, h => Q .normal e h
  | .label m, some l, Q, e, h => match Nat.beq m l with
    | true => Q .normal e h
    | false => False
  | .region id ops draw, none, Q, e, h => vcRegion P A id ops.toList draw e h fun e' h' => Q .normal e' h'
  | .seq a b, none, Q, e, h => match ann A.cuts (firstRegion b) with
    | none => vcS P A a none (fun x e' h' => match x with
      | .normal => vcS P A b none Q e' h'
      | x => Q x e' h') e h
    | some l => ∃ I : Inv l, vcS P A a none (fun x e' h' => match x with
        | .normal => invAt l I e' h'
        | x => Q x e' h') e h ∧
        ∀ h1, allIn l (kills (writes a) e) fun e1 => invAt l I e1 h1 → vcS P A b none Q e1 h1
  | .seq a b, some l, Q, e, h => match hasLabel a l with
    | true => vcS P A a (some l) (fun x e' h' => match x with
      | .normal => vcS P A b none Q e' h'
      | x => Q x e' h') e h
    | false => vcS P A b (some l) Q e h
  | .cond c a b, none, Q, e, h => match opv e c with
    | some (.bool t) => br t (vcS P A a none Q e h) (vcS P A b none Q e h)
    | _ => False
  | .block id b, none, Q, e, h => vcS P A b none (fun x e' h' => match x with
    | .exit i => match Nat.beq i id with
      | true => Q .normal e' h'
      | false => Q (.exit i) e' h'
    | x => Q x e' h') e h
  | .loop b, none, Q, e, h => match ann A.loops (firstRegion b) with
    | some l => ∃ (I : Inv l) (M : Meas l), invAt l I e h ∧ ∀ h1, allIn l (kills (writes b) e) fun e1 => invAt l I e1 h1 →
        measAt l M e1 h1 fun m => vcS P A b none (fun x e' h' => match x with
          | .normal => invAt l I e' h' ∧ measAt l M e' h' (· < m)
          | x => Q x e' h') e1 h1
    | none => False
  | .exit id, none, Q, e, h => Q (.exit id) e h
  | .goto l, none, Q, e, h => Q (.goto l) e h
  | .ret, none, Q, e, h => Q .ret e h
  | .scope b, none, Q, e, h => vcS P A b none (fun x e' h' => match x with
    | .goto l => match theLabel b with
      | some m => match Nat.beq m l with
        | true => vcS P A b (some m) (fun x e' h' => match x with
          | .goto _ => False
          | x => Q x e' h') e' h'
        | false => False
      | none => False
    | x => Q x e' h') e h
  | _, _, _, _, _ => False
@[reducible] def vc (P : Program) (A : Ann) (c : Code) (Q : Ex → Env → Heap → Prop) (e : Env) (h : Heap) : Prop := vcS P A c none Q e h

end Go.Vd


namespace Go.Vd
set_option linter.unusedSimpArgs false
set_option linter.unusedVariables false
variable {P : Program}

theorem setCell_eq (w : World) (a : Addr) (v : Value) : w.setCell a v = { w with heap := setC w.heap a v } := rfl
theorem setC_size (h : Heap) (a : Addr) (v : Value) : (setC h a v).size = h.size := by simp [setC]
theorem setC_get (h : Heap) (a : Addr) (v : Value) (k : Nat) : (setC h a v)[k]? = if a.block = k then (h[k]?).map (updC a v) else h[k]? := by
  simp only [setC, Array.getElem?_modify]
theorem frz_setC (h : Heap) (a b : Addr) (v : Value) : frz (setC h a v) b = frz h b := by
  unfold frz
  rw [setC_get]
  by_cases e : a.block = b.block
  · rw [if_pos e]
    cases hb : h[b.block]? with
    | none => simp
    | some o => cases o <;> simp [updC]
  · rw [if_neg e]
theorem cell_setC_some (h : Heap) (a b : Addr) (v u : Value) (hc : cell h b = some u) : ∃ u', cell (setC h a v) b = some u' := by
  unfold cell at *
  rw [setC_get]
  by_cases e : a.block = b.block
  · rw [if_pos e]
    cases hb : h[b.block]? with
    | none => simp [hb] at hc
    | some o =>
      cases o <;> simp [hb, updC] at hc ⊢
      rename_i c t fr
      obtain ⟨h1, h2⟩ := hc
      refine ⟨h1, ?_⟩
      split
      · exact ⟨u, h2⟩
      · obtain ⟨hlt, _⟩ := Array.getElem?_eq_some_iff.1 h2
        exact ⟨_, Array.getElem?_eq_getElem (by simpa using hlt)⟩
  · rw [if_neg e]; exact ⟨u, hc⟩
theorem Wr.setC {h : Heap} {b : Addr} (hw : Wr h b) (a : Addr) (v : Value) : Wr (Vd.setC h a v) b := by
  obtain ⟨⟨u, hc⟩, hf⟩ := hw
  exact ⟨cell_setC_some h a b v u hc, by rw [frz_setC]; exact hf⟩

theorem run_storeCells (w : World) (a : Addr) : ∀ (vs : List Value) (i : Nat) (h : Heap), (∀ j, j < vs.length → Wr h (a.add (i + j))) → (∀ u ∈ vs, one u = true) →
    (storeCells a vs i).run P { w with heap := h } = .ok () { w with heap := setCs h a i vs }
  | [], i, h, _, _ => by simp [storeCells, setCs]
  | v :: r, i, h, hw, h1 => by
    have hv : v.oneCell' = true := by have := h1 v (by simp); cases v <;> simp_all [one, Value.oneCell']
    obtain ⟨⟨u, hc⟩, hf⟩ := hw 0 (by simp)
    have hc' : ({ w with heap := h } : World).cell? (a.add i) = some u := hc
    have hf' : ({ w with heap := h } : World).frozen? (a.add i) = false := hf
    have ih := run_storeCells w a r (i + 1) (Vd.setC h (a.add i) v) (fun j hj => by
      have := (hw (j + 1) (by simp; omega)).setC (a.add i) v
      rwa [show i + (j + 1) = i + 1 + j by omega] at this) (fun u hu => h1 u (by simp [hu]))
    simp only [storeCells, Sem.run_bind, run_store P _ _ _ _ hv, hc', hf', Bool.false_eq_true, if_false, Result.andThen_ok, setCs]
    exact ih

theorem run_put {w : World} {a : Addr} {vs : List Value} (hw : ∀ j, j < vs.length → Wr w.heap (a.add j)) (h1 : ∀ u ∈ vs, one u = true) :
    (storeCells a vs 0).run P w = .ok () { w with heap := setCs w.heap a 0 vs } := by
  have := run_storeCells (P := P) w a vs 0 w.heap (by simpa using hw) h1
  exact this

theorem Addr.add_zero' (a : Addr) : a.add 0 = a := rfl

theorem run_storeK {t : TypeId} {d : TypeDesc} {h : Heap} {ad : Addr} {v : Value} {K : Heap → Prop} {w : World} (hd : P.underlying t = some d) (hw : w.heap = h) (H : storeK (P.cellsOf t) h ad v K) :
    ∃ h', K h' ∧ (storeVar t ad v).run P w = .ok () { w with heap := h' } := by
  subst hw
  have single : one v = true → v.cells = #[v] → (P.cellsOf t = 1 ∧ Wr w.heap ad ∧ ∀ h', Put w.heap ad [v] h' → K h') → ∃ h', K h' ∧ (storeVar t ad v).run P w = .ok () { w with heap := h' } := by
    intro h1 hc ⟨hn, hwr, hk⟩
    refine ⟨_, hk _ rfl, ?_⟩
    unfold storeVar
    have := run_put (P := P) (w := w) (a := ad) (vs := [v]) (fun j hj => (by
      have : j = 0 := by simpa using hj
      subst this
      exact hwr)) (by simp [h1])
    simp [run_size hd, hn, hc, this]
  cases v with
  | agg cs =>
    obtain ⟨hn, h1, hwr, hk⟩ := H
    refine ⟨_, hk _ rfl, ?_⟩
    unfold storeVar
    have := run_put (P := P) (w := w) (a := ad) (vs := cs.toList) (fun j hj => hwr j (by simp at hj; omega)) h1
    simp [run_size hd, hn, Value.cells, this]
  | tuple vs => exact H.elim
  | _ => exact single rfl rfl H

theorem run_newRow (w : World) (el : TypeId) (cs : Array Value) : (newRow el cs).run P w = .ok ⟨w.heap.size, 0, none⟩ { w with heap := w.heap.push (.cells cs el) } := by
  simp [newRow]

theorem wp_value {o : Oper} {a : Act} {w w' : World} {next : Act → World → Prop} {Q : Exit → Act → World → Prop} {v : Value} (hr : (execOp a.eval o).run P w = .ok (.value v) w') (h : next (a.put o.dst v) w') : o.wp P a w next Q := by
  unfold Oper.wp; rw [hr]; exact h
theorem wp_skip' {o : Oper} {a : Act} {w w' : World} {next : Act → World → Prop} {Q : Exit → Act → World → Prop} (hr : (execOp a.eval o).run P w = .ok .skip w') (h : next (a.put o.dst undef) w') : o.wp P a w next Q := by
  unfold Oper.wp; rw [hr]; exact h

/-- what stands behind an operation -/
def Nexts (o : Oper) (a : Act) (w : World) (K : Option Value → Heap → Prop) (next : Act → World → Prop) : Prop :=
  ∀ v u w', K v w'.heap → (v = none ∨ v = some u) → Kin w w' → next (a.put o.dst u) w'

theorem vcPure_wp {A : Ann} {o : Oper} {e : Env} {h : Heap} {K : Option Value → Heap → Prop} {a : Act} {w : World} {next : Act → World → Prop} {Q : Exit → Act → World → Prop}
    (hA : Agree e a.tmps) (hw : w.heap = h) (hn : Nexts o a w K next) (H : vcPure P A o e h fun v => K v h) : o.wp P a w next Q := by
  obtain ⟨v, hk, hr⟩ := vcPure_sound hA H
  exact wp_value (hr w (hw ▸ Ext.refl _)) (hn _ _ _ (by rw [hw]; exact hk) (.inr rfl) (Kin.refl w))

theorem partsV_eval {e : Env} {a : Act} (hA : Agree e a.tmps) : ∀ {l : List (Nat × Operand)} {vs : List (Nat × Value)}, partsV e l = some vs → l.map (fun p => (p.1, a.eval p.2)) = vs
  | [], vs, h => by simp [partsV] at h; simp [← h]
  | (i, x) :: l, vs, h => by
    simp only [partsV] at h
    split at h
    · rename_i v vs' hv hvs
      obtain rfl := Option.some.inj h
      simp [opv_eval hA hv, partsV_eval hA hvs]
    · cases h

theorem foldl_put (l : List Value) : ∀ (off k : Nat) (cs : List Value), off + k + l.length ≤ cs.length →
    ((l.zipIdx k).foldl (fun (cs : Array Value) (p : Value × Nat) => cs.setIfInBounds (off + p.2) p.1) cs.toArray) = (cs.take (off + k) ++ l ++ cs.drop (off + k + l.length)).toArray := by
  induction l with
  | nil => intro off k cs h; simp
  | cons v l ih =>
    intro off k cs h
    simp only [List.zipIdx_cons, List.foldl_cons, List.length_cons] at h ⊢
    have e : cs.toArray.setIfInBounds (off + k) v = (cs.set (off + k) v).toArray := by simp
    rw [e, ih off (k + 1) _ (by simp; omega)]
    congr 1
    have hlt : off + k < cs.length := by omega
    rw [show off + (k + 1) = (off + k) + 1 by omega, List.take_succ_eq_append_getElem (by simpa using hlt)]
    simp only [List.getElem_set_self, List.append_assoc, List.cons_append, List.nil_append]
    congr 1
    · rw [List.take_set_of_le (Nat.le_refl _)]
    · congr 2
      rw [List.drop_set_of_lt (by omega)]
      congr 1; omega

theorem fill_put (z : List Value) (off : Nat) (cs : Array Value) (h : off + cs.size ≤ z.length) :
    cs.zipIdx.foldl (fun (a : Array Value) (p : Value × Nat) => a.setIfInBounds (off + p.2) p.1) z.toArray = (z.take off ++ cs.toList ++ z.drop (off + cs.size)).toArray := by
  rw [← Array.foldl_toList, Array.toList_zipIdx]
  have := foldl_put cs.toList off 0 z (by simpa using h)
  simpa using this

theorem info_of {t : TypeId} {z : Value} (h : (P.info? t).bind (·.zero) = some z) : ∃ i, P.info? t = some i ∧ i.zero = some z := Option.bind_eq_some_iff.1 h
theorem run_zero {t : TypeId} {z : Value} (h : (P.info? t).bind (·.zero) = some z) (w : World) : (zeroValue t).run P w = .ok z w := by
  obtain ⟨i, hi, hz⟩ := info_of h
  unfold zeroValue typeInfo; simp [hi, hz]
theorem run_sizeI {t : TypeId} {i : TypeInfo} (h : P.info? t = some i) (w : World) : (sizeOf t).run P w = .ok (P.cellsOf t) w := by
  unfold sizeOf typeInfo; simp [h, Program.cellsOf]

theorem buildK_sound {fs : Array Field} {nz : Nat} {K : List Value → Prop} : ∀ (parts : List (Nat × Value)) (z : List Value), z.length = nz → buildK P fs nz parts z K →
    ∃ l, K l ∧ Instr.fill (fun i => (fs[i]?).map fun f => (f.offset, P.cellsOf f.type)) z.toArray parts = some l.toArray
  | [], z, _, H => ⟨z, H, by simp [Instr.fill]⟩
  | (i, v) :: r, z, hz, H => by
    simp only [buildK] at H
    split at H
    case h_2 => exact H.elim
    rename_i f hf
    split at H
    case h_2 => exact H.elim
    rename_i hle
    have hle' : f.offset + P.cellsOf f.type ≤ z.length := by rw [hz]; exact Nat.le_of_ble_eq_true hle
    have step : ∀ (cs : Array Value), v.cells = cs → cs.size = P.cellsOf f.type → buildK P fs nz r (z.take f.offset ++ cs.toList ++ z.drop (f.offset + P.cellsOf f.type)) K →
        ∃ l, K l ∧ Instr.fill (fun i => (fs[i]?).map fun f => (f.offset, P.cellsOf f.type)) z.toArray ((i, v) :: r) = some l.toArray := by
      intro cs hc hn H
      obtain ⟨l, hk, hl⟩ := buildK_sound r _ (by simp; omega) H
      refine ⟨l, hk, ?_⟩
      have hp := fill_put z f.offset cs (by omega)
      rw [hn] at hp
      have hp' : Array.foldl (fun (a : Array Value) (x : Value × Nat) => match x with | (c, j) => a.setIfInBounds (f.offset + j) c) z.toArray cs.zipIdx = (z.take f.offset ++ cs.toList ++ z.drop (f.offset + P.cellsOf f.type)).toArray := hp
      simp only [Instr.fill, hf, Option.map_some, hc]
      rw [if_neg (by simp [hn]; omega)]
      rw [hp']; exact hl
    have single : v.cells = #[v] → P.cellsOf f.type = 1 → buildK P fs nz r (z.set f.offset v) K →
        ∃ l, K l ∧ Instr.fill (fun i => (fs[i]?).map fun f => (f.offset, P.cellsOf f.type)) z.toArray ((i, v) :: r) = some l.toArray := by
      intro hc h1 H
      refine step _ hc (by simp [h1]) ?_
      have hlt : f.offset < z.length := by omega
      rw [List.set_eq_take_append_cons_drop, if_pos hlt] at H
      rw [h1]
      simpa using H
    cases v
    case agg cs => exact step cs rfl H.1 H.2
    all_goals
      simp only at H
      split at H
      · rename_i h1
        exact single rfl h1 H
      · exact H.elim

theorem seqParts_sound {size : Nat} {p : Prop} : ∀ (parts : List (Nat × Value)) (k n : Nat) (z : List Value), k + parts.length = n → z.length = n * size → seqParts size k parts p →
    p ∧ Instr.fill (fun i => some (i * size, size)) z.toArray parts = some (z.take (k * size) ++ catCells parts).toArray
  | [], k, n, z, hn, hz, H => ⟨H, by simp [Instr.fill, catCells]; rw [List.take_of_length_le (by rw [hz, ← hn]; simp)]⟩
  | (i, v) :: r, k, n, z, hn, hz, H => by
    simp only [seqParts] at H
    split at H
    case h_2 => exact H.elim
    rename_i hik
    obtain rfl : i = k := Nat.eq_of_beq_eq_true hik
    have hfit : i * size + size ≤ z.length := by
      rw [hz, ← Nat.succ_mul]
      exact Nat.mul_le_mul_right _ (by simp at hn; omega)
    have step : ∀ (cs : Array Value), v.cells = cs → cs.size = size → seqParts size (i + 1) r p → p ∧ Instr.fill (fun i => some (i * size, size)) z.toArray ((i, v) :: r) = some (z.take (i * size) ++ catCells ((i, v) :: r)).toArray := by
      intro cs hc hs H
      have hp := fill_put z (i * size) cs (by omega)
      rw [hs] at hp
      have hp' : Array.foldl (fun (a : Array Value) (x : Value × Nat) => match x with | (c, j) => a.setIfInBounds (i * size + j) c) z.toArray cs.zipIdx = (z.take (i * size) ++ cs.toList ++ z.drop (i * size + size)).toArray := hp
      obtain ⟨hpp, hf⟩ := seqParts_sound r (i + 1) n (z.take (i * size) ++ cs.toList ++ z.drop (i * size + size)) (by simp at hn; omega) (by simp; omega) H
      refine ⟨hpp, ?_⟩
      simp only [Instr.fill, hc]
      rw [if_neg (by simp [hs]; omega), hp', hf]
      congr 2
      rw [show (i + 1) * size = i * size + size by rw [Nat.succ_mul]]
      have hl : (z.take (i * size) ++ cs.toList).length = i * size + size := by simp; omega
      rw [List.take_append_of_le_length (by omega), List.take_of_length_le (by omega)]
      simp [catCells, hc]
    have single : v.cells = #[v] → size = 1 → seqParts size (i + 1) r p → p ∧ Instr.fill (fun i => some (i * size, size)) z.toArray ((i, v) :: r) = some (z.take (i * size) ++ catCells ((i, v) :: r)).toArray :=
      fun hc h1 H => step _ hc (by simp [h1]) H
    have step' := step
    clear step
    cases v
    case agg cs =>
      refine step' cs rfl H.1 H.2
    all_goals
      simp only at H
      split at H
      · exact single rfl rfl H
      · exact H.elim
end Go.Vd


namespace Go.Vd
set_option linter.unusedSimpArgs false
set_option linter.unusedVariables false
variable {P : Program}

theorem run_info {t : TypeId} {i : TypeInfo} (h : P.info? t = some i) (w : World) : (typeInfo t).run P w = .ok i w := by
  unfold typeInfo; simp [h]
theorem bytesOf_info {t : TypeId} {i : TypeInfo} (h : P.info? t = some i) : i.bytes = P.bytesOf t := by simp [Program.bytesOf, h]

theorem run_lenOf {h : Heap} {size m : Nat} {x : Value} {news : List Value} (hs : srcK h size x m news) (w : World) : (Builtin.lenOf x).run P w = .ok m w := by
  cases x <;> simp only [srcK] at hs
  case slice a l c => obtain ⟨rfl, _⟩ := hs; simp [Builtin.lenOf]
  case string s => obtain ⟨rfl, _⟩ := hs; simp [Builtin.lenOf]

theorem extract_all (s : ByteArray) : s.extract 0 s.size = s := by
  apply ByteArray.ext; simp [ByteArray.data_extract]
theorem bytesV_eq (s : ByteArray) : (s.data.map fun b => Value.int .u8 b.toNat) = (bytesV s).toArray := by
  apply Array.ext'; simp [bytesV]

theorem run_first {h : Heap} {size m : Nat} {x : Value} {news : List Value} {w : World} (hw : w.heap = h) (hs : srcK h size x m news) : (Builtin.firstCells size m x).run P w = .ok news.toArray w := by
  subst hw
  cases x <;> simp only [srcK] at hs
  case slice a l c =>
    obtain ⟨rfl, hl, hc, hn⟩ := hs
    cases a with
    | none => simp [Builtin.firstCells, hn rfl]
    | some ad =>
      have := run_cells (P := P) (hc ad rfl)
      rw [hl] at this
      simp [Builtin.firstCells, this]
  case string s =>
    obtain ⟨rfl, rfl⟩ := hs
    simp [Builtin.firstCells, extract_all, bytesV_eq]

theorem srcK_len {h : Heap} {size m : Nat} {x : Value} {news : List Value} (hs : srcK h size x m news) (h1 : ∀ s, x = .string s → size = 1) : news.length = m * size := by
  cases x <;> simp only [srcK] at hs
  case slice a l c => obtain ⟨rfl, hl, _⟩ := hs; exact hl
  case string s => obtain ⟨rfl, rfl⟩ := hs; simp [bytesV, h1 s rfl]

theorem run_append {t u ty : TypeId} {el : TypeId} {d de : TypeDesc} {z : Value} {h : Heap} {a : Option Addr} {l c : Nat} {x : Value} {K : Option Addr → Nat → Nat → Heap → Prop} {w : World}
    (ht : P.underlying t = some (.slice el)) (hu : P.underlying u = some d) (hd : isIntD d = false) (he : P.underlying el = some de) (hb : P.bytesOf el ≠ 0)
    (hz : (P.info? el).bind (·.zero) = some z) (hw : w.heap = h) (H : appK P el h a l c x K) :
    ∃ a' l' c' w', (Builtin.append_ #[t, u] ty #[.slice a l c, x]).run P w = .ok (.slice a' l' c') w' ∧ Kin w w' ∧ K a' l' c' w'.heap := by
  obtain ⟨m, news, hs, hin, hout⟩ := H
  obtain ⟨i, hi, hiz⟩ := info_of hz
  have hf := run_first (P := P) hw hs
  have hm := run_lenOf (P := P) hs w
  subst hw
  by_cases hfit : l + m ≤ c
  · obtain ⟨h1, hwr, hk⟩ := hin hfit
    cases a with
    | none =>
      refine ⟨none, l + m, c, w, ?_, Kin.refl w, hk _ (fun _ h => by cases h) (fun _ => rfl)⟩
      unfold Builtin.append_
      simp only [List.getElem?_toArray, List.getElem?_cons_zero, List.getElem?_cons_succ, Sem.run_bind, run_und ht, run_und hu, Result.andThen_ok, run_size he, Sem.run_pure]
      rw [if_neg (by cases d <;> simp_all [isIntD])]
      simp only [Sem.run_bind, hm, Result.andThen_ok]
      rw [if_pos hfit]
      simp only [Sem.run_bind]
      rw [if_pos (by cases d <;> simp_all [isIntD])]
      simp [hf]
    | some ad =>
      have hp := run_put (P := P) (w := w) (a := ad.add (l * P.cellsOf el)) (vs := news) (hwr ad rfl) h1
      refine ⟨some ad, l + m, c, { w with heap := setCs w.heap (ad.add (l * P.cellsOf el)) 0 news }, ?_, ⟨rfl, rfl, rfl, by first | exact Nat.le_refl _ | exact Nat.le_succ _⟩, hk _ (fun ad' h => by cases h; rfl) (fun h => by cases h)⟩
      unfold Builtin.append_
      simp only [List.getElem?_toArray, List.getElem?_cons_zero, List.getElem?_cons_succ, Sem.run_bind, run_und ht, run_und hu, Result.andThen_ok, run_size he, Sem.run_pure]
      rw [if_neg (by cases d <;> simp_all [isIntD])]
      simp only [Sem.run_bind, hm, Result.andThen_ok]
      rw [if_pos hfit]
      simp only [Sem.run_bind]
      rw [if_pos (by cases d <;> simp_all [isIntD])]
      simp [hf, hp]
  · obtain ⟨olds, ho, hoc, hon, hcap, hk⟩ := hout (by omega)
    have hso : srcK w.heap (P.cellsOf el) (.slice a l c) l olds := ⟨rfl, ho, hoc, hon⟩
    have hfo := run_first (P := P) (w := { w with drawn := w.drawn + 1 }) (h := w.heap) rfl hso
    have hfn := run_first (P := P) (w := { w with drawn := w.drawn + 1 }) (h := w.heap) rfl hs
    have hzv : (zeroValue el).run P { w with drawn := w.drawn + 1 } = .ok z { w with drawn := w.drawn + 1 } := run_zero hz _
    have hc2 : ¬ (281474976710656 < Builtin.nextslicecap (l + m) c * P.bytesOf el) := by omega
    generalize hcap' : (Question.appendCap (l + m) c el).cut (w.tape w.drawn (.appendCap (l + m) c el)) = cap
    have hcl : l + m ≤ cap := by rw [← hcap']; simp [Question.cut]
    refine ⟨some ⟨w.heap.size, 0, none⟩, l + m, cap, { w with drawn := w.drawn + 1, heap := w.heap.push (.cells (olds.toArray ++ news.toArray ++ Builtin.zeroCells (((P.info? el).bind (·.zero)).getD undef).cells (cap - (l + m))) el) }, ?_, ⟨rfl, rfl, rfl, by first | exact Nat.le_refl _ | exact Nat.le_succ _⟩, hk cap _ _ hcl ⟨rfl, rfl⟩⟩
    unfold Builtin.append_
    simp only [List.getElem?_toArray, List.getElem?_cons_zero, List.getElem?_cons_succ, Sem.run_bind, run_und ht, run_und hu, Result.andThen_ok, run_size he, Sem.run_pure]
    rw [if_neg (by cases d <;> simp_all [isIntD])]
    simp only [Sem.run_bind, hm, Result.andThen_ok]
    rw [if_neg hfit]
    simp only [Sem.run_bind, run_info hi, Result.andThen_ok, bytesOf_info hi]
    rw [if_neg (by rintro ⟨_, h | h⟩; (cases d <;> simp_all [isIntD]); exact hb h)]
    simp only [Sem.run_bind, run_info hi, Result.andThen_ok, bytesOf_info hi]
    rw [if_neg (by have e : (2 : Nat) ^ 48 = 281474976710656 := by decide
                   omega)]
    have hch : (choose (Question.appendCap (l + m) c el)).run P w = .ok cap { w with drawn := w.drawn + 1 } := by
      rw [run_choose]; simp [Question.forced, hcap']
    simp only [Sem.run_bind, hch, Result.andThen_ok, run_info hi, run_askRoom, hfo]
    rw [if_pos (by cases d <;> simp_all [isIntD])]
    simp only [hfn, Result.andThen_ok, hzv, run_newRow, Sem.run_pure, hz, Option.getD_some]

theorem srcK_take {h : Heap} {size m n : Nat} {x : Value} {all : List Value} {w : World} (hw : w.heap = h) (hs : srcK h size x m all) (hsz : ∀ s, x = .string s → size = 1) (hn : n ≤ m) :
    (Builtin.firstCells size n x).run P w = .ok (all.take (n * size)).toArray w := by
  subst hw
  cases x <;> simp only [srcK] at hs
  case slice a l c =>
    obtain ⟨rfl, hl, hc, hnn⟩ := hs
    cases a with
    | none => simp [Builtin.firstCells, hnn rfl]
    | some ad =>
      have hle : n * size ≤ all.length := by rw [hl]; exact Nat.mul_le_mul_right _ hn
      have := run_cells (P := P) (w := w) (a := ad) (l := all.take (n * size)) (fun i v hv => hc ad rfl i v (by
        rw [List.getElem?_take] at hv; split at hv
        · exact hv
        · cases hv))
      rw [List.length_take, Nat.min_eq_left hle] at this
      simp [Builtin.firstCells, this]
  case string s =>
    obtain ⟨rfl, rfl⟩ := hs
    obtain rfl := hsz s rfl
    simp only [Builtin.firstCells, Sem.run_pure, Nat.mul_one]
    congr 1
    apply Array.ext'
    simp [bytesV, ByteArray.data_extract, List.map_take]

theorem run_copy {t ty el : TypeId} {ts : List TypeId} {de : TypeDesc} {h : Heap} {a : Option Addr} {l c : Nat} {x : Value} {K : Int → Heap → Prop} {w : World}
    (ht : P.underlying t = some (.slice el)) (he : P.underlying el = some de) (hsz : ∀ s, x = .string s → P.cellsOf el = 1) (hw : w.heap = h) (H : copyK P el h a l x K) :
    ∃ n w', (Builtin.copy_ (t :: ts).toArray ty #[.slice a l c, x]).run P w = .ok (.int .i64 n) w' ∧ Kin w w' ∧ K n w'.heap := by
  obtain ⟨m, news, ⟨all, hs, rfl⟩, h1, hwr, hk⟩ := H
  have hm := run_lenOf (P := P) hs w
  have hf := srcK_take (P := P) (n := min m l) hw hs hsz (Nat.min_le_left _ _)
  subst hw
  cases a with
  | none =>
    refine ⟨((min m l : Nat) : Int), w, ?_, Kin.refl w, hk _ (fun _ h => by cases h) (fun _ => rfl)⟩
    unfold Builtin.copy_
    simp only [List.getElem?_toArray, List.getElem?_cons_zero, List.getElem?_cons_succ, Sem.run_bind, run_und ht, Result.andThen_ok, hm, run_size he, goInt]
    rw [show Nat.min m l = min m l from rfl, hf]
    simp
  | some ad =>
    have hp := run_put (P := P) (w := w) (a := ad) (vs := all.take (min m l * P.cellsOf el)) (hwr ad rfl) h1
    refine ⟨((min m l : Nat) : Int), { w with heap := setCs w.heap ad 0 (all.take (min m l * P.cellsOf el)) }, ?_, ⟨rfl, rfl, rfl, by first | exact Nat.le_refl _ | exact Nat.le_succ _⟩, hk _ (fun ad' h => by cases h; rfl) (fun h => by cases h)⟩
    unfold Builtin.copy_
    simp only [List.getElem?_toArray, List.getElem?_cons_zero, List.getElem?_cons_succ, Sem.run_bind, run_und ht, Result.andThen_ok, hm, run_size he, goInt]
    rw [show Nat.min m l = min m l from rfl, hf]
    simp [hp]

theorem modify_push (h : Heap) (x : Obj) (f : Obj → Obj) : (h.push x).modify h.size f = h.push (f x) := by
  apply Array.ext_getElem?
  intro i
  rw [Array.getElem?_modify, Array.getElem?_push, Array.getElem?_push]
  by_cases e : i = h.size
  · subst e; simp
  · rw [if_neg (fun h => e h.symm), if_neg e, if_neg e]

theorem run_stringToBytes (w : World) (el : TypeId) (s : ByteArray) : ∃ c, s.size ≤ c ∧ (Conv.stringToBytes el s).run P w = .ok (.slice (some ⟨w.heap.size, 0, none⟩) s.size c)
    { w with drawn := w.drawn + 1, heap := w.heap.push (.cells ((bytesV s).toArray ++ Array.replicate (c - s.size) (.int .u8 0)) el (c, c + 1)) } := by
  generalize hcap : (Question.appendCap s.size 0 el).cut (w.tape w.drawn (.appendCap s.size 0 el)) = cap
  have hle : s.size ≤ cap := by rw [← hcap]; simp [Question.cut]
  refine ⟨cap, hle, ?_⟩
  have hch : (choose (Question.appendCap s.size 0 el)).run P w = .ok cap { w with drawn := w.drawn + 1 } := by
    rw [run_choose]; simp [Question.forced, hcap]
  unfold Conv.stringToBytes
  simp only [Sem.run_bind, hch, Result.andThen_ok, run_newRow, bytesV_eq, Sem.run_pure, markStringish, run_shape]
  have hsz : ((bytesV s).toArray ++ Array.replicate (cap - s.size) (Value.int .u8 0)).size = cap := by simp [bytesV]; omega
  have hsh : (World.shape? { w with drawn := w.drawn + 1, heap := w.heap.push (.cells ((bytesV s).toArray ++ Array.replicate (cap - s.size) (.int .u8 0)) el) } w.heap.size) = some (el, cap) := by
    simp [World.shape?, hsz]
  rw [hsh]
  simp only [run_freeze, Result.andThen_ok, World.freeze]
  congr 1
  rw [modify_push]; simp

end Go.Vd


namespace Go.Vd
set_option linter.unusedSimpArgs false
set_option linter.unusedVariables false
variable {P : Program}

theorem opvs_arr {e : Env} {a : Act} (hA : Agree e a.tmps) {args : Array Operand} {vs : List Value} (h : opvs e args.toList = some vs) : args.map a.eval = vs.toArray := by
  apply Array.ext'; simpa using opvs_eval hA h

theorem callK_wp {o : Oper} {c : Call} {f : Operand} {e : Env} {h : Heap} {K : Option Value → Heap → Prop} {a : Act} {w : World} {next : Act → World → Prop} {Q : Exit → Act → World → Prop}
    (ho : o.op = .call c) (hc : c.callee = .value f) (hA : Agree e a.tmps) (hw : w.heap = h) (hn : Nexts o a w K next)
    (H : callK P o.type (opv e f) (opvs e c.args.toList) h K) : o.wp P a w next Q := by
  unfold callK at H
  split at H
  case h_2 => exact H.elim
  rename_i g first captured vs hf hv
  have e1 := opv_eval hA hf
  have e2 := opvs_arr hA hv
  have harr : (first.toList ++ vs ++ captured.toList).toArray = first ++ vs.toArray ++ captured := by apply Array.ext'; simp
  rw [harr] at H
  have hr : execOp a.eval o = callFunc g (first ++ vs.toArray ++ captured) := by
    simp only [execOp, ho, resolve, hc, e1, e2, Deferred.ofValue]
    rfl
  unfold Oper.wp
  rw [hr]
  rcases H w hw with ⟨v, w', h1, hk, hR⟩ | ⟨h1, hC⟩
  · rw [h1]
    obtain ⟨u, rfl, hK⟩ := withSh_some hR
    exact hn _ _ _ hK (.inr rfl) hk
  · rw [h1]
    simp only [Oper.upon]
    exact hC.mono fun en w' ⟨v, he, hk, hR⟩ => by
      subst he
      obtain ⟨u, rfl, hK⟩ := withSh_some hR
      exact hn _ _ _ hK (.inr rfl) hk

theorem semK_wp {o : Oper} {s : Sem Value} {h : Heap} {K' : Value → Heap → Prop} {K : Option Value → Heap → Prop} {a : Act} {w : World} {next : Act → World → Prop} {Q : Exit → Act → World → Prop}
    (hr : execOp a.eval o = (do pure (.value (← s)))) (hw : w.heap = h) (hn : Nexts o a w K next) (H : semK P s h K') (hK : ∀ v h', K' v h' → K (some v) h') : o.wp P a w next Q := by
  obtain ⟨v, w', hs, hk, hv⟩ := H w hw
  exact wp_value (by rw [hr]; simp [hs]) (hn _ _ _ (hK _ _ hv) (.inr rfl) hk)
theorem semU_wp {o : Oper} {s : Sem Unit} {h : Heap} {K : Option Value → Heap → Prop} {a : Act} {w : World} {next : Act → World → Prop} {Q : Exit → Act → World → Prop}
    (hr : execOp a.eval o = (do s; pure .skip)) (hw : w.heap = h) (hn : Nexts o a w K next) (H : semU P s h fun h' => K none h') : o.wp P a w next Q := by
  obtain ⟨w', hs, hk, hv⟩ := H w hw
  exact wp_skip' (by rw [hr]; simp [hs]) (hn _ _ _ hv (.inl rfl) hk)
theorem resK_out {t : TypeId} {K : Option Value → Heap → Prop} {v : Value} {h : Heap} (H : resK P t K v h) : K (some v) h := by
  obtain ⟨u, rfl, hK⟩ := withSh_some H; exact hK

theorem newK_run {h : Heap} {o : Obj} {K : Nat → Heap → Prop} (H : newK h o K) : K h.size (h.push o) := H _ _ ⟨rfl, rfl⟩

theorem buildV_sound {t : TypeId} {e : Env} {a : Act} {parts : Array (Nat × Operand)} {K : Option Value → Prop} (hA : Agree e a.tmps) (H : buildV P t (partsV e parts.toList) K) :
    ∃ v, K (some v) ∧ ∀ w, (Instr.build t (parts.map fun (i, x) => (i, a.eval x))).run P w = .ok v w := by
  unfold buildV at H
  split at H
  case h_2 => exact H.elim
  rename_i vs hv
  have e1 : (parts.map fun (i, x) => (i, a.eval x)) = vs.toArray := by
    apply Array.ext'
    have := partsV_eval hA hv
    simpa using this
  split at H
  · rename_i z fs hz ht
    split at H
    case h_2 => exact H.elim
    rename_i hall
    obtain ⟨l, hk, hf⟩ := buildK_sound vs z.cells.toList (by simp) H
    refine ⟨_, hk, fun w => ?_⟩
    have hm : ∀ (fl : List Field), (∀ f ∈ fl, (P.info? f.type).isSome = true) → (List.mapM (fun f => do pure (f.offset, ← sizeOf f.type) : Field → Sem (Nat × Nat)) fl).run P w = .ok (fl.map fun f => (f.offset, P.cellsOf f.type)) w := by
      intro fl
      induction fl with
      | nil => intro _; simp
      | cons f fl ih =>
        intro hf
        obtain ⟨i, hi⟩ := Option.isSome_iff_exists.1 (hf f (by simp))
        have ih' := ih (fun g hg => hf g (by simp [hg]))
        simp only [List.mapM_cons, Sem.run_bind, run_sizeI hi, Result.andThen_ok, Sem.run_pure, ih', List.map_cons]
    have hm' : (fs.mapM (fun f => do pure (f.offset, ← sizeOf f.type) : Field → Sem (Nat × Nat))).run P w = .ok (fs.map fun f => (f.offset, P.cellsOf f.type)) w := by
      have h1 := hm fs.toList (fun f hf => List.all_eq_true.1 hall f hf)
      rw [Array.mapM_eq_mapM_toList, Sem.run_map, h1]
      simp only [Result.andThen_ok]
      congr 1
      apply Array.ext'; simp
    simp only [Array.toArray_toList] at hf
    have hfill : Instr.fill (fun i => (fs.map fun f => (f.offset, P.cellsOf f.type))[i]?) z.cells vs = some l.toArray := by
      rw [← hf]; congr 1; funext i; simp
    simp only [Instr.build, Sem.run_bind, run_zero hz, Result.andThen_ok, run_und ht, hm', e1, hfill, Sem.run_pure]
  · rename_i z n el hz ht
    split at H
    · split at H
      case h_2 => exact H.elim
      rename_i i hi
      exact ⟨_, H, fun w => by simp [Instr.build, run_zero hz, run_und ht, run_sizeI hi, e1, Instr.fill]⟩
    split at H
    case h_2 => exact H.elim
    rename_i i hl hi hn
    have hlen := Nat.eq_of_beq_eq_true hl
    have hzn := Nat.eq_of_beq_eq_true hn
    obtain ⟨hk, hf⟩ := seqParts_sound vs 0 n z.cells.toList (by omega) (by simpa using hzn) H
    refine ⟨_, hk, fun w => ?_⟩
    simp only [Array.toArray_toList, Nat.zero_mul, List.take_zero, List.nil_append] at hf
    simp only [Instr.build, Sem.run_bind, run_zero hz, Result.andThen_ok, run_und ht, run_sizeI hi, e1, hf, Sem.run_pure]
  · exact H.elim


theorem vcEff_sound {A : Ann} {o : Oper} {e : Env} {h : Heap} {K : Option Value → Heap → Prop} {a : Act} {w : World} {next : Act → World → Prop} {Q : Exit → Act → World → Prop}
    (hA : Agree e a.tmps) (hw : w.heap = h) (hn : Nexts o a w K next) (H : vcEff P A o e h K) : o.wp P a w next Q := by
  obtain ⟨dst, op, ty, pos, after, guard⟩ := o
  have pure_ := @vcPure_wp P A ⟨dst, op, ty, pos, after, guard⟩ e h K a w next Q hA hw hn
  cases op with
  | alloc t =>
    simp only [vcEff] at H
    split at H
    case h_2 => exact H.elim
    rename_i z hz
    subst hw
    refine wp_value (v := .pointer (some ⟨w.heap.size, 0, none⟩)) (w' := { w with heap := w.heap.push (.cells z.cells t) }) ?_ (hn _ _ _ (newK_run H) (.inr rfl) ⟨rfl, rfl, rfl, by first | exact Nat.le_refl _ | exact Nat.le_succ _⟩)
    simp [execOp, Instr.alloc, run_zero hz, newVar, newRow]
  | box t x =>
    simp only [vcEff] at H
    split at H
    case h_2 => exact H.elim
    rename_i v hv
    subst hw
    refine wp_value (v := .pointer (some ⟨w.heap.size, 0, none⟩)) (w' := { w with heap := w.heap.push (.cells v.cells t) }) ?_ (hn _ _ _ (newK_run H) (.inr rfl) ⟨rfl, rfl, rfl, by first | exact Nat.le_refl _ | exact Nat.le_succ _⟩)
    simp [execOp, Instr.box, opv_eval hA hv, newVar, newRow]
  | store t x y =>
    simp only [vcEff] at H
    split at H
    case h_2 => exact H.elim
    rename_i ad v hx hy
    split at H
    case h_2 => exact H.elim
    rename_i d hd
    obtain ⟨h', hk, hr⟩ := run_storeK (P := P) hd hw H
    refine wp_skip' (w' := { w with heap := h' }) ?_ (hn _ _ _ hk (.inl rfl) ⟨rfl, rfl, rfl, by first | exact Nat.le_refl _ | exact Nat.le_succ _⟩)
    simp [execOp, Instr.storeAt, Instr.sureAddr, opv_eval hA hx, opv_eval hA hy, hr]
  | build t parts =>
    simp only [vcEff] at H
    obtain ⟨v, hk, hr⟩ := buildV_sound hA H
    exact wp_value (v := v) (w' := w) (by simp [execOp, hr w]) (hn _ _ _ (by rw [hw]; exact hk) (.inr rfl) (Kin.refl w))
  | buildSlice t len parts =>
    simp only [vcEff] at H
    split at H
    case h_2 => exact H.elim
    rename_i el vs ht hv
    split at H
    case h_2 => exact H.elim
    rename_i z hl hz
    have hlen := Nat.eq_of_beq_eq_true hl
    have e1 : (parts.map fun (i, x) => (i, a.eval x)) = vs.toArray := by
      apply Array.ext'
      have := partsV_eval hA hv
      simpa using this
    subst hw
    obtain ⟨i, hi, hiz⟩ := info_of hz
    obtain ⟨⟨hsz, hk⟩, hf⟩ := seqParts_sound vs 0 len (((Array.range (len * P.cellsOf el)).map ((if len * P.cellsOf el = 0 then #[] else z.cells)[· % (if len * P.cellsOf el = 0 then #[] else z.cells).size]!)).toList) (by omega) (by simp) H
    simp only [Array.toArray_toList, Nat.zero_mul, List.take_zero, List.nil_append] at hf
    refine wp_value (v := .slice (some ⟨w.heap.size, 0, none⟩) len len) (w' := { w with heap := w.heap.push (.cells (catCells vs).toArray el) }) ?_ (hn _ _ _ (newK_run hk) (.inr rfl) ⟨rfl, rfl, rfl, by first | exact Nat.le_refl _ | exact Nat.le_succ _⟩)
    have hle : ¬ (len * P.cellsOf el > 2 ^ 24) := by have e : (2 : Nat) ^ 24 = 16777216 := by decide
                                                     omega
    simp only [execOp, Instr.buildSlice, Sem.run_bind, run_und ht, Result.andThen_ok, run_sizeI hi, if_neg hle, e1]
    by_cases h0 : len * P.cellsOf el = 0
    · simp only [h0, if_true] at hf ⊢
      simp at hf
      simp [hf, newRow]
    · simp only [h0, if_false] at hf ⊢
      simp [run_zero hz, hf, newRow]
  | makeSlice t x y =>
    simp only [vcEff] at H
    split at H
    case h_2 => exact H.elim
    rename_i kl l kc c hx hy
    split at H
    case h_2 => exact H.elim
    rename_i el ht
    split at H
    case h_2 => exact H.elim
    rename_i z hz
    obtain ⟨h0, h1, h2, h3, hk⟩ := H
    obtain ⟨i, hi, hiz⟩ := info_of hz
    subst hw
    have wl : IntKind.i64.wrap l = l := IntWalk.i64_in _ (by omega)
    have wc : IntKind.i64.wrap c = c := IntWalk.i64_in _ (by omega)
    have ex : ∀ zs : Array Value, (c.toNat * P.cellsOf el = 0 ∨ zs = z.cells) → ((Array.range (c.toNat * P.cellsOf el)).map (zs[· % zs.size]!)) = mkCells z.cells (c.toNat * P.cellsOf el) := by
      intro zs hzs
      rcases hzs with h | h
      · simp [mkCells, h]
      · subst h; rfl
    refine wp_value (v := .slice (some ⟨w.heap.size, 0, none⟩) l.toNat c.toNat) (w' := { w with heap := w.heap.push (.cells (mkCells z.cells (c.toNat * P.cellsOf el)) el) }) ?_ (hn _ _ _ (newK_run hk) (.inr rfl) ⟨rfl, rfl, rfl, by first | exact Nat.le_refl _ | exact Nat.le_succ _⟩)
    have b1 : ((P.bytesOf el : Nat) : Int) * c ≤ 281474976710656 := h2
    have e48 : ((2 : Int) ^ 48) = 281474976710656 := by decide
    simp only [execOp, Instr.makeSlice, Sem.run_bind, run_und ht, Result.andThen_ok, opv_eval hA hx, opv_eval hA hy, asInt, asIntOf, Sem.run_pure, run_info hi, bytesOf_info hi, wl, wc]
    rw [if_neg (by simp only [e48, Bool.or_eq_true, decide_eq_true_eq]; omega)]
    simp only [Sem.run_bind, run_askRoom, Result.andThen_ok, run_sizeI hi]
    by_cases hz0 : c.toNat * P.cellsOf el = 0
    · rw [if_pos hz0]
      simp only [Sem.run_bind, Sem.run_pure, Result.andThen_ok, run_newRow, ex _ (.inl hz0)]
    · rw [if_neg hz0]
      simp only [Sem.run_bind, Sem.run_pure, Result.andThen_ok, run_zero hz, run_newRow, ex _ (.inr rfl)]
  | makeMap t r =>
    cases r with
    | some r => exact pure_ H
    | none =>
      simp only [vcEff] at H
      subst hw
      refine wp_value (v := .map (some w.heap.size)) (w' := { w with heap := w.heap.push (.map #[] 0) }) ?_ (hn _ _ _ (newK_run H) (.inr rfl) ⟨rfl, rfl, rfl, by first | exact Nat.le_refl _ | exact Nat.le_succ _⟩)
      simp [execOp, Instr.makeMap]
  | convert s d x =>
    simp only [vcEff] at H
    split at H
    case h_2 => exact pure_ H
    rename_i el h2
    split at H
    case h_2 => exact H.elim
    rename_i h3
    split at H
    case h_2 => exact H.elim
    rename_i ds h1
    split at H
    · rename_i b hx
      subst hw
      obtain ⟨c, hc, hr⟩ := run_stringToBytes (P := P) w el b
      refine wp_value (v := .slice (some ⟨w.heap.size, 0, none⟩) b.size c) (w' := { w with drawn := w.drawn + 1, heap := w.heap.push (.cells ((bytesV b).toArray ++ Array.replicate (c - b.size) (.int .u8 0)) el (c, c + 1)) }) ?_ (hn _ _ _ (H c _ _ hc ⟨rfl, rfl⟩) (.inr rfl) ⟨rfl, rfl, rfl, by first | exact Nat.le_refl _ | exact Nat.le_succ _⟩)
      simp [execOp, opv_eval hA hx, convert, run_und h1, run_und h2, run_und h3, hr]
    · rename_i ad l c hx
      split at H
      case h_2 => exact H.elim
      rename_i hsd
      obtain rfl := Nat.eq_of_beq_eq_true hsd
      obtain ⟨⟨cs, t, fr, hb⟩, hk⟩ := H
      subst hw
      refine wp_value (v := .slice (some ad) l c) (w' := { w with heap := w.heap.modify ad.block markO }) ?_ (hn _ _ _ (hk _ rfl) (.inr rfl) ⟨rfl, rfl, rfl, by first | exact Nat.le_refl _ | exact Nat.le_succ _⟩)
      have hm : (markStringish ad).run P w = .ok () { w with heap := w.heap.modify ad.block markO } := by
        unfold markStringish
        simp only [Sem.run_bind, run_shape, Result.andThen_ok]
        have hs : w.shape? ad.block = some (t, cs.size) := by simp [World.shape?, hb]
        rw [hs]
        simp only [run_freeze, World.freeze]
        congr 1
        simp only [Nat.add_one_ne_zero, if_false]
        congr 1
        apply Array.ext_getElem?
        intro i
        rw [Array.getElem?_modify, Array.getElem?_modify]
        by_cases hi : ad.block = i
        · subst hi; simp [hb, markO]
        · simp [hi]
      simp [execOp, opv_eval hA hx, convert, run_und h2, run_und h3, hm]
    · exact H.elim
  | lookup t x i ok =>
    simp only [vcEff] at H
    split at H
    case h_2 => exact H.elim
    rename_i m k hx hi
    exact semK_wp (by simp only [execOp, opv_eval hA hx, opv_eval hA hi]) hw hn H fun v h' hv => resK_out hv
  | mapUpdate t m k x =>
    simp only [vcEff] at H
    split at H
    case h_2 => exact H.elim
    rename_i hm hk hx
    exact semU_wp (by simp only [execOp, opv_eval hA hm, opv_eval hA hk, opv_eval hA hx]) hw hn H
  | insert t m k x =>
    simp only [vcEff] at H
    split at H
    case h_2 => exact H.elim
    rename_i hm hk hx
    exact semU_wp (by simp only [execOp, opv_eval hA hm, opv_eval hA hk, opv_eval hA hx]) hw hn H
  | mapEntry t m k =>
    simp only [vcEff] at H
    split at H
    case h_2 => exact H.elim
    rename_i hm hk
    split at H
    case h_2 => exact H.elim
    exact semK_wp (by simp only [execOp, opv_eval hA hm, opv_eval hA hk]) hw hn H fun v h' hv => by
      obtain ⟨u, n, rfl, hK⟩ := withSh_some hv
      exact hK
  | entryStore t m k x =>
    simp only [vcEff] at H
    split at H
    case h_2 => exact H.elim
    rename_i hm hk hx
    exact semU_wp (by simp only [execOp, opv_eval hA hm, opv_eval hA hk, opv_eval hA hx]) hw hn H
  | range t x =>
    simp only [vcEff] at H
    split at H
    case h_2 => exact H.elim
    rename_i hx
    exact semK_wp (by simp only [execOp, opv_eval hA hx]) hw hn H fun v h' hv => by
      obtain ⟨b, rfl, hK⟩ := hv
      exact hK
  | next it b =>
    simp only [vcEff] at H
    split at H
    case h_2 => exact H.elim
    rename_i hx
    exact semK_wp (by simp only [execOp, opv_eval hA hx]) hw hn H fun v h' hv => by
      rcases hv with ⟨rfl, hK⟩ | ⟨k, u, rfl, hK⟩
      · exact hK
      · exact hK
  | entry it =>
    simp only [vcEff] at H
    split at H
    case h_2 => exact H.elim
    rename_i hx _
    exact semK_wp (by simp only [execOp, opv_eval hA hx]) hw hn H fun v h' hv => by
      obtain ⟨k, hk⟩ := withSh_some hv
      obtain ⟨u, rfl, hK⟩ := withSh_some hk
      exact hK
  | sliceToArrayPointer t x =>
    simp only [vcEff] at H
    split at H
    case h_2 => exact H.elim
    rename_i p l c hx
    split at H
    case h_2 => exact H.elim
    rename_i n el ht
    obtain ⟨hle, hk⟩ := H
    refine wp_value (v := .pointer p) (w' := w) ?_ (hn _ _ _ (by rw [hw]; exact hk) (.inr rfl) (Kin.refl w))
    simp [execOp, opv_eval hA hx, Instr.arrayAt, run_und ht, Nat.not_lt.2 hle]
  | call c =>
    obtain ⟨callee, args, tys⟩ := c
    simp only [vcEff] at H
    split at H
    · split at H
      case h_2 => exact H.elim
      rename_i t u p l cp x ht hv
      obtain rfl : tys = #[t, u] := by apply Array.ext'; simpa using ht
      split at H
      case h_2 => exact H.elim
      rename_i el d h1 h2
      split at H
      case h_2 => exact H.elim
      rename_i de h3 h4
      split at H
      case h_2 => exact H.elim
      rename_i z hb hz
      have hb' : P.bytesOf el ≠ 0 := fun h0 => by rw [h0] at hb; cases hb
      obtain ⟨a', l', c', w', hr, hk, hK⟩ := run_append (P := P) (ty := ty) h1 h2 h4 h3 hb' hz hw H
      refine wp_value (v := .slice a' l' c') (w' := w') ?_ (hn _ _ _ hK (.inr rfl) hk)
      simp [execOp, resolve, invoke, builtin, opvs_arr hA hv, hr]
    · split at H
      case h_2 => exact H.elim
      rename_i t ts p l cp x ht hv
      obtain rfl : tys = (t :: ts).toArray := by apply Array.ext'; simpa using ht
      split at H
      case h_2 => exact H.elim
      rename_i el h1
      split at H
      case h_2 => exact H.elim
      rename_i de h3
      split at H
      case h_2 => exact H.elim
      rename_i hs1
      obtain ⟨n, w', hr, hk, hK⟩ := run_copy (P := P) (c := cp) (ts := ts) (ty := ty) h1 h3 (fun s hs => by subst hs; exact Nat.eq_of_beq_eq_true hs1) hw H
      refine wp_value (v := .int .i64 n) (w' := w') ?_ (hn _ _ _ hK (.inr rfl) hk)
      simp [execOp, resolve, invoke, builtin, opvs_arr hA hv, hr]
    · split at H
      case h_2 => exact H.elim
      rename_i vs hv
      exact semK_wp (by simp only [execOp, resolve, opvs_arr hA hv]; rfl) hw hn H fun v h' hv => hv
    · split at H
      case h_2 => exact H.elim
      rename_i vs hv
      exact semK_wp (by simp only [execOp, resolve, opvs_arr hA hv]; rfl) hw hn H fun v h' hv => hv
    · split at H
      case h_2 => exact H.elim
      rename_i t ts ht
      split at H
      · split at H
        case h_2 => exact H.elim
        rename_i vs hv
        exact semK_wp (by simp only [execOp, resolve, opvs_arr hA hv]; rfl) hw hn H fun v h' hv => resK_out hv
      · exact pure_ H
    · exact callK_wp rfl rfl hA hw hn H
    · exact pure_ H
  | _ => exact pure_ H
/-- what a panic finds -/
def PanO (A : Ann) (w : World) (a : Act) (Q : Exit → Act → World → Prop) : Prop := ∀ chain w', Raised chain → A.pan w'.heap → Kin w w' → Q (.panic chain) a w'
theorem vcEffP_sound {A : Ann} {o : Oper} {e : Env} {h : Heap} {K : Option Value → Heap → Prop} {a : Act} {w : World} {next : Act → World → Prop} {Q : Exit → Act → World → Prop}
    (hy : A.yld = false) (hA : Agree e a.tmps) (hw : w.heap = h) (hn : Nexts o a w K next) (hP : PanO A w a Q) (H : vcEffP P A o e h K) : o.wp P a w next Q := by
  unfold vcEffP at H
  rw [hy] at H
  simp only at H
  split at H
  · exact vcEff_sound hA hw hn H
  · split at H
    · rename_i x ho
      split at H
      · rename_i t v hx
        have hr : (execOp a.eval o).run P w = .halt (.panic (.iface t v)) w := by
          simp [execOp, ho, opv_eval hA hx, Instr.panic, goPanic]
        unfold Oper.wp
        rw [hr]
        exact hP _ _ ⟨t, v, rfl⟩ (by rw [hw]; exact H) (Kin.refl w)
      · exact H.elim
    · rename_i c ho
      split at H
      · rename_i f hc
        split at H
        · rename_i g first captured vs hf hv
          split at H
          · have e1 := opv_eval hA hf
            have e2 := opvs_arr hA hv
            have harr : (first.toList ++ vs ++ captured.toList).toArray = first ++ vs.toArray ++ captured := by apply Array.ext'; simp
            rw [harr] at H
            have hr : execOp a.eval o = callFunc g (first ++ vs.toArray ++ captured) := by
              simp only [execOp, ho, resolve, hc, e1, e2, Deferred.ofValue]
              rfl
            unfold Oper.wp
            rw [hr]
            obtain ⟨h1, hC⟩ := H w hw
            rw [h1]
            simp only [Oper.upon]
            refine hC.mono fun en w' he => ?_
            rcases he with ⟨v, rfl, hk, hR⟩ | ⟨chain, rfl, hc, hk, hR⟩
            · obtain ⟨u, rfl, hK⟩ := withSh_some hR
              exact hn _ _ _ hK (.inr rfl) hk
            · exact hP _ _ hc hR hk
          · exact vcEff_sound hA hw hn H
        · exact H.elim
      · exact vcEff_sound hA hw hn H
    · exact vcEff_sound hA hw hn H
end Go.Vd


namespace Go.Vd
set_option linter.unusedVariables false
section
variable {P : Program} {ops : Array Oper} {md : Region.Mode}

/-- the world has only grown -/
def Up (w w' : World) : Prop := Kin w w' ∧ Ext w.heap w'.heap
theorem Up.refl (w : World) : Up w w := ⟨Kin.refl w, Ext.refl _⟩
theorem Up.trans {a b c : World} (h : Up a b) (k : Up b c) : Up a c := ⟨h.1.trans k.1, h.2.trans k.2⟩

/-- In state 'a', in every world grown out of w0, the operation leaves v in its temporary; and a world grown out of the one that it got. -/
def YU (P : Program) (ops : Array Oper) (w0 : World) (o : Oper) (v : Value) (a : Act) : Prop :=
  (Region.wanted o (yielded ops a.tmps) = true ∧ ∀ w, Up w0 w → Oper.quietUpon P (Up w) w v ((execOp a.eval o).run P w)) ∨
  (Region.wanted o (yielded ops a.tmps) = false ∧ v = undef)
/-- .. the operation makes the block ob, and leaves its value. -/
def EY (P : Program) (ops : Array Oper) (w0 : World) (o : Oper) (ob : Obj) (mk : Nat → Value) (a : Act) : Prop :=
  Region.wanted o (yielded ops a.tmps) = true ∧ ∀ w, Up w0 w → ∃ w', (execOp a.eval o).run P w = .ok (.value (mk w.heap.size)) w' ∧ w'.heap = w.heap.push ob ∧ Kin w w'

theorem YU.put {w0 : World} {oi oj : Oper} {v u : Value} {a : Act} (hy : YU P ops w0 oi v a) (hs : ∀ cs b, oi.op ≠ .select cs b) (h : ∀ d, oj.dst = some d → d ∉ oi.looksAt ops) : YU P ops w0 oi v (a.put oj.dst u) := by
  unfold YU at *
  rwa [execOp_put oi hs a oj.dst u h, wanted_put oi a oj.dst u h]
theorem EY.put {w0 : World} {oi oj : Oper} {ob : Obj} {mk : Nat → Value} {u : Value} {a : Act} (hy : EY P ops w0 oi ob mk a) (hs : ∀ cs b, oi.op ≠ .select cs b) (h : ∀ d, oj.dst = some d → d ∉ oi.looksAt ops) : EY P ops w0 oi ob mk (a.put oj.dst u) := by
  unfold EY at *
  rwa [execOp_put oi hs a oj.dst u h, wanted_put oi a oj.dst u h]

/-- Whatever order is picked among the first n + 1 operations, of which number n makes the block. 'bk': the block, once it is made. -/
def wpX (P : Program) (md : Region.Mode) (ops : Array Oper) (w0 : World) (n : Nat) (ob : Obj) (mk : Nat → Value) (L : Option Nat → Array Bool → Act → Prop) : Nat → Option Nat → Array Bool → Act → Prop
  | 0, bk, listed, a => L bk listed a
  | g + 1, bk, listed, a => Region.ready md ops listed ≠ [] ∧ ∀ i ∈ Region.ready md ops listed, ∃ o, ops[i]? = some o ∧
      ((i < n ∧ ∃ v, YU P ops w0 o v a ∧ wpX P md ops w0 n ob mk L g bk (listed.setIfInBounds i true) (a.put o.dst v)) ∨
       (i = n ∧ bk = none ∧ EY P ops w0 o ob mk a ∧ ∀ b, wpX P md ops w0 n ob mk L g (some b) (listed.setIfInBounds i true) (a.put o.dst (mk b))))

theorem wpAny_of_X {w0 : World} {n g' : Nat} {ob : Obj} {mk : Nat → Value} {L : Option Nat → Array Bool → Act → Prop} {Q' : Exit → Act → World → Prop}
    (hL : ∀ bk listed a w, Up w0 w → (∀ b, bk = some b → w0.heap.size ≤ b ∧ w.heap[b]? = some ob) → L bk listed a → wpAny P md ops Q' g' listed a w) :
    ∀ (g : Nat) (bk : Option Nat) (listed : Array Bool) (a : Act) (w : World), Up w0 w → (∀ b, bk = some b → w0.heap.size ≤ b ∧ w.heap[b]? = some ob) → wpX P md ops w0 n ob mk L g bk listed a → wpAny P md ops Q' (g + g') listed a w
  | 0, bk, listed, a, w, hu, hb, h => by rw [Nat.zero_add]; exact hL _ _ _ _ hu hb h
  | g + 1, bk, listed, a, w, hu, hb, h => by
    rw [show g + 1 + g' = (g + g') + 1 by omega]
    refine ⟨fun h0 => absurd h0 h.1, fun i hi => ?_⟩
    obtain ⟨o, ho, h⟩ := h.2 i hi
    have keep : ∀ w', Up w w' → ∀ b, bk = some b → w0.heap.size ≤ b ∧ w'.heap[b]? = some ob := fun w' hw' b e => by
      obtain ⟨h1, h2⟩ := hb b e
      refine ⟨h1, (hw'.2.block b ?_).trans h2⟩
      by_cases hlt : b < w.heap.size
      · exact hlt
      · have : w.heap[b]? = none := by simp; omega
        rw [this] at h2; cases h2
    unfold wpOp
    simp only [ho]
    rcases h with ⟨_, v, hy, hx⟩ | ⟨_, hbk, hy, hx⟩
    · rcases hy with ⟨hw, hq⟩ | ⟨hw, rfl⟩
      · rw [if_pos hw]
        refine .inl ?_
        have hq := hq w hu
        unfold Oper.wp
        generalize (execOp a.eval o).run P w = r at *
        cases r with
        | halt x w' => exact hq.elim
        | ok x w' =>
          cases x <;> simp only [Oper.quietUpon] at hq
          case value u =>
            obtain ⟨rfl, rfl⟩ := hq
            exact wpAny_of_X hL g bk _ _ w' hu hb hx
          case skip =>
            obtain ⟨rfl, rfl⟩ := hq
            exact wpAny_of_X hL g bk _ _ w' hu hb hx
          case enter f args =>
            obtain ⟨rfl, hc⟩ := hq
            simp only [Oper.upon]
            exact hc.mono fun e w'' ⟨he, hw''⟩ => by subst he; exact wpAny_of_X hL g bk _ _ w'' (hu.trans hw'') (keep w'' hw'') hx
      · rw [if_neg (by rw [hw]; simp)]
        exact wpAny_of_X hL g bk _ _ w hu hb hx
    · rw [if_pos hy.1]
      refine .inl ?_
      obtain ⟨w', hr, hp, hk⟩ := hy.2 w hu
      unfold Oper.wp
      rw [hr]
      refine wpAny_of_X hL g (some w.heap.size) _ _ w' (hu.trans ⟨hk, by rw [hp]; exact Ext.push _ _⟩) ?_ (hx w.heap.size)
      intro b e
      obtain rfl := Option.some.inj e
      exact ⟨hu.2.size, by rw [hp]; simp⟩

/-- An operation of the head that may come up now may be taken first. -/
theorem wpX_first {w0 : World} {n i : Nat} {ob : Obj} {mk : Nat → Value} {oi : Oper} {v : Value} {L : Option Nat → Array Bool → Act → Prop} (hi : ops[i]? = some oi) (hsel : ∀ (j : Nat) (o : Oper) cs b, ops[j]? = some o → o.op ≠ .select cs b)
    (hs : Region.sinkB md ops (n + 1) = true) (hc : Region.chainB md ops (n + 1) = true) (hn : n + 1 < ops.size) (hin : i < n)
    (hdone : ∀ bk listed a, L bk listed a → ∀ j ∈ Region.ready md ops listed, n + 1 ≤ j) :
    ∀ (g : Nat) (bk : Option Nat) (listed : Array Bool) (a : Act), HeadInv md ops (n + 1) listed →
      (∀ j oj, ops[j]? = some oj → j ≠ i → listed.getD j true = false → (∀ e ∈ oj.after, Region.binds md e = true → e.on ≠ i) → oi.apart ops oj = true) →
      i ∈ Region.ready md ops listed → YU P ops w0 oi v a →
      wpX P md ops w0 n ob mk L g bk (listed.setIfInBounds i true) (a.put oi.dst v) → wpX P md ops w0 n ob mk L (g + 1) bk listed a := by
  intro g
  induction g with
  | zero =>
    intro bk listed a inv _ hr hy H
    have hun := (mem_ready.1 hr).1
    refine ⟨fun h => (by rw [h] at hr; cases hr), fun j hj => ?_⟩
    have hjn : j < n + 1 := by
      rcases Nat.lt_or_ge j (n + 1) with h | h
      · exact h
      · exact absurd hj (tail_waits hs hc hn inv _ i rfl (by omega) hun j h)
    by_cases hji : j = i
    · subst hji; exact ⟨oi, hi, .inl ⟨hin, v, hy, H⟩⟩
    · have := hdone _ _ _ H j (ready_mono hj hji)
      omega
  | succ g ih =>
    intro bk listed a inv hfree hr hy H
    have hun := (mem_ready.1 hr).1
    refine ⟨fun h => (by rw [h] at hr; cases hr), fun j hj => ?_⟩
    have hjn : j < n + 1 := by
      rcases Nat.lt_or_ge j (n + 1) with h | h
      · exact h
      · exact absurd hj (tail_waits hs hc hn inv _ i rfl (by omega) hun j h)
    by_cases hji : j = i
    · subst hji; exact ⟨oi, hi, .inl ⟨hin, v, hy, H⟩⟩
    · obtain ⟨hjun, oj, hoj, hall⟩ := mem_ready.1 hj
      have hnot : ∀ e ∈ oj.after, Region.binds md e = true → e.on ≠ i := fun e he hb heq => by
        have h1 := hall e he hb
        rw [heq, getD_both hun] at h1
        cases h1
      have hap := hfree j oj hoj hji hjun hnot
      obtain ⟨h1, h2, h3⟩ := Oper.apart_spec hap
      have hsi := fun cs b => hsel i oi cs b hi
      have hsj := fun cs b => hsel j oj cs b hoj
      have hfree' : ∀ k ok, ops[k]? = some ok → k ≠ i → (listed.setIfInBounds j true).getD k true = false →
          (∀ e ∈ ok.after, Region.binds md e = true → e.on ≠ i) → oi.apart ops ok = true := fun k ok hk hki hun hno => by
        refine hfree k ok hk hki ?_ hno
        by_cases hjk : j = k
        · subst hjk; exact hjun
        · rw [getD_set_ne true hjk] at hun; exact hun
      obtain ⟨oj', hoj', hX⟩ := H.2 j (ready_mono hj hji)
      obtain rfl : oj' = oj := Option.some.inj (hoj'.symm.trans hoj)
      refine ⟨oj', hoj, ?_⟩
      have go : ∀ u bk', wpX P md ops w0 n ob mk L g bk' ((listed.setIfInBounds i true).setIfInBounds j true) ((a.put oi.dst v).put oj'.dst u) →
          wpX P md ops w0 n ob mk L (g + 1) bk' (listed.setIfInBounds j true) (a.put oj'.dst u) := fun u bk' hx => by
        refine ih bk' (listed.setIfInBounds j true) (a.put oj'.dst u) (inv.set hj hjn) hfree' (ready_mono hr (Ne.symm hji)) (hy.put hsi h3) ?_
        rw [Array.setIfInBounds_comm _ _ (fun h => hji h.symm), Act.put_comm a v u h2] at hx
        exact hx
      rcases hX with ⟨hjl, u, hyj, hx⟩ | ⟨hje, hbk, hyj, hx⟩
      · refine .inl ⟨hjl, u, ?_, go u bk hx⟩
        unfold YU at hyj ⊢
        rwa [execOp_put oj' hsj a oi.dst v h1, wanted_put oj' a oi.dst v h1] at hyj
      · refine .inr ⟨hje, hbk, ?_, fun b => go (mk b) (some b) (hx b)⟩
        unfold EY at hyj ⊢
        rwa [execOp_put oj' hsj a oi.dst v h1, wanted_put oj' a oi.dst v h1] at hyj

/-- the head in the order of the text; E: what holds of the frame behind it -/
def wpU (P : Program) (ops : Array Oper) (w0 : World) (E : Act → Prop) : List Oper → Act → Prop
  | [], a => E a
  | o :: l, a => ∃ v, YU P ops w0 o v a ∧ wpU P ops w0 E l (a.put o.dst v)
theorem wpU_out {w0 : World} {α β : Type} {E : α → β → Act → Prop} : ∀ (l : List Oper) (a : Act), wpU P ops w0 (fun a => ∃ x y, E x y a) l a → ∃ x y, wpU P ops w0 (E x y) l a
  | [], a, h => h
  | o :: l, a, ⟨v, hy, h⟩ => let ⟨x, y, h⟩ := wpU_out l _ h; ⟨x, y, v, hy, h⟩

theorem wpX_lex {w0 : World} {n g : Nat} {ob : Obj} {mk : Nat → Value} {on : Oper} {Lq : Nat → Act → Prop} (hon : ops[n]? = some on) (hsel : Region.noSelect ops = true) (hs : Region.sinkB md ops (n + 1) = true) (hc : Region.chainB md ops (n + 1) = true) (hn : n + 1 < ops.size) :
    ∀ (l : List Oper) (k : Nat) (listed : Array Bool) (a : Act), (∀ j, j < l.length → l[j]? = ops[k + j]?) → k + l.length = n → HeadInv md ops (n + 1) listed →
    Region.lexHead md ops (g + 1) l.length k listed = true → wpU P ops w0 (fun a => EY P ops w0 on ob mk a ∧ ∀ b, Lq b (a.put on.dst (mk b))) l a →
    wpX P md ops w0 n ob mk (fun bk listed' a' => Region.seqB md ops g (n + 1) listed' = true ∧ ∃ b, bk = some b ∧ Lq b a') (l.length + 1) none listed a
  | [], k, listed, a, _, hk, _, hB, h => by
    have : k = n := by simpa using hk
    subst this
    simp only [List.length_nil, Region.lexHead, Region.seqB, Bool.and_eq_true, decide_eq_true_eq] at hB
    refine ⟨fun h0 => (by rw [hB.1] at h0; cases h0), fun i hi => ?_⟩
    rw [hB.1] at hi
    obtain rfl : i = k := by simpa using hi
    exact ⟨on, hon, .inr ⟨rfl, rfl, h.1, fun b => ⟨hB.2, b, rfl, h.2 b⟩⟩⟩
  | o :: l, k, listed, a, hl, hk, inv, hB, ⟨v, hy, h⟩ => by
    have h0 : ops[k]? = some o := by simpa using (hl 0 (by simp)).symm
    simp only [List.length_cons, Region.lexHead, Bool.and_eq_true] at hB
    obtain ⟨⟨hr, hf⟩, hB'⟩ := hB
    have hkn : k < n := by simp only [List.length_cons] at hk; omega
    have hr' : k ∈ Region.ready md ops listed := by simpa using hr
    exact wpX_first h0 (Region.noSelect_spec hsel) hs hc hn hkn (fun bk listed' a' hL => seqB_ready hL.1) (l.length + 1) none listed a inv (Region.free_spec h0 hf) hr' hy
      (wpX_lex hon hsel hs hc hn l (k + 1) _ _ (fun j hj => by have := hl (j + 1) (by simp; omega); simpa [Nat.add_assoc, Nat.add_comm 1 j] using this) (by simp only [List.length_cons] at hk; omega) (inv.set hr' (by omega)) hB' h)

def lexNewB (md : Region.Mode) (ops : Array Oper) (n : Nat) : Bool :=
  Region.noSelect ops && decide (n + 1 < ops.size) && Region.sinkB md ops (n + 1) && Region.chainB md ops (n + 1) && Region.lexHead md ops (ops.size - n) n 0 (Array.replicate ops.size false)

/-- A region that draws: the first n operations are quiet, number n makes a block, the others come in sequence. -/
theorem any_region_new {Q : Exit → Act → World → Prop} {a : Act} {w : World} {l : List Oper} (n : Nat) {on : Oper} (hon : l[n]? = some on) (hB : lexNewB .any l.toArray n = true)
    (h : wpU P l.toArray { w with drawn := w.drawn + 1 } (fun a => ∃ (ob : Obj) (mk : Nat → Value), EY P l.toArray { w with drawn := w.drawn + 1 } on ob mk a ∧
      ∀ b w', Up { w with drawn := w.drawn + 1 } w' → w.heap.size ≤ b → w'.heap[b]? = some ob → wpList P l.toArray Q (l.drop (n + 1)) (a.put on.dst (mk b)) w') (l.take n) a) : wpAny P .any l.toArray Q l.toArray.size (Array.replicate l.toArray.size false) a { w with drawn := w.drawn + 1 } := by
  simp only [lexNewB, Bool.and_eq_true, decide_eq_true_eq] at hB
  obtain ⟨⟨⟨⟨hsel, hn⟩, hs⟩, hc⟩, hlex⟩ := hB
  have hn' : n + 1 < l.length := by simpa using hn
  have htl : (l.take n).length = n := by simp; omega
  obtain ⟨ob, mk, h⟩ := wpU_out _ _ h
  have inv0 : HeadInv .any l.toArray (n + 1) (Array.replicate l.toArray.size false) :=
    ⟨by simp, fun j oj _ hl => (by rw [getD_replicate_false] at hl; cases hl), fun t _ ht => getD_in (by simpa using ht) (getD_replicate_false _ _)⟩
  have hg : l.toArray.size - n = (l.length - n - 1) + 1 := by simp; omega
  rw [hg] at hlex
  have hdl : (l.drop (n + 1)).length = l.length - n - 1 := by simp; omega
  have H := wpX_lex (md := .any) (g := l.length - n - 1) (on := on) (by simpa using hon) hsel hs hc hn (l.take n) 0 _ a (fun j hj => by
    have hj' : j < n := by rw [htl] at hj; exact hj
    simp [hj']) (by simpa using htl) inv0 (by rw [htl]; exact hlex)
    (Lq := fun b a' => ∀ w', Up { w with drawn := w.drawn + 1 } w' → w.heap.size ≤ b → w'.heap[b]? = some ob → wpList P l.toArray Q (l.drop (n + 1)) a' w') h
  have := wpAny_of_X (Q' := Q) (g' := l.length - n - 1) (fun bk listed a' w' hu hb hL => by
    obtain ⟨hsq, b, rfl, hL⟩ := hL
    obtain ⟨h1, h2⟩ := hb b rfl
    have := wpAny_of_seq (md := .any) (Q' := Q) (l.drop (n + 1)) (n + 1) listed a' w' (fun j => by simp [List.getElem?_drop]) (by rw [hdl]; exact hsq) (hL w' hu h1 h2)
    rwa [hdl] at this) _ none _ _ { w with drawn := w.drawn + 1 } (Up.refl _) (fun b e => by cases e) H
  rw [htl, show n + 1 + (l.length - n - 1) = l.toArray.size by simp; omega] at this
  exact this
end
end Go.Vd


namespace Go.Vd
set_option linter.unusedVariables false
set_option linter.unusedSimpArgs false
section
variable {P : Program} {ops : Array Oper} {md : Region.Mode} {Rl : Heap → Heap → Prop}

/-- nothing has turned but the memory, and that as Rl says -/
def UpR (Rl : Heap → Heap → Prop) (w w' : World) : Prop := Kin w w' ∧ Rl w.heap w'.heap
/-- In whatever world that may come now, the operation leaves v. -/
def YS (P : Program) (ops : Array Oper) (Rl : Heap → Heap → Prop) (o : Oper) (v : Value) (a : Act) (w : World) : Prop :=
  (Region.wanted o (yielded ops a.tmps) = true ∧ ∀ w', Rl w.heap w'.heap → (execOp a.eval o).run P w' = .ok (.value v) w') ∨
  (Region.wanted o (yielded ops a.tmps) = false ∧ v = undef)
def GStep (P : Program) (ops : Array Oper) (Rl : Heap → Heap → Prop) (o : Oper) (a : Act) (w : World) (K : Act → World → Prop) : Prop :=
  (Region.wanted o (yielded ops a.tmps) = true ∧ o.wp P a w (fun a' w' => ∃ u, a' = a.put o.dst u ∧ UpR Rl w w' ∧ K a' w') (fun _ _ _ => False)) ∨
  (Region.wanted o (yielded ops a.tmps) = false ∧ K (a.put o.dst undef) w)

theorem wp_more {o : Oper} {a : Act} {w : World} {K K' : Act → World → Prop} {Q : Exit → Act → World → Prop} (h : ∀ a w, K a w → K' a w) (hh : o.wp P a w K (fun _ _ _ => False)) : o.wp P a w K' Q := by
  unfold Oper.wp at *
  generalize (execOp a.eval o).run P w = r at *
  cases r with
  | ok n w' =>
    cases n <;> simp only [Oper.upon] at hh ⊢ <;>
      first
        | exact h _ _ hh
        | exact Calls.mono hh (fun e w'' he => by cases e <;> first | exact h _ _ he | exact he.elim | (obtain ⟨_, _, hf⟩ := he; exact hf.elim))
        | exact Rows.mono hh (fun _ _ he => h _ _ he)
        | exact hh.elim
  | halt x w' => cases x <;> simp only [Oper.upon] at hh ⊢ <;> exact hh.elim
theorem GStep.mono {Rl' : Heap → Heap → Prop} {o : Oper} {a : Act} {w : World} {K K' : Act → World → Prop} (hs : ∀ a b, Rl a b → Rl' a b) (hh : GStep P ops Rl o a w K) (h : ∀ a' w', UpR Rl w w' → K a' w' → K' a' w') (hr : ∀ h, Rl h h) : GStep P ops Rl' o a w K' :=
  hh.imp (fun ⟨h1, h2⟩ => ⟨h1, wp_more (fun a' w' ⟨u, e, hu, hk⟩ => ⟨u, e, ⟨hu.1, hs _ _ hu.2⟩, h _ _ hu hk⟩) h2⟩) fun ⟨h1, h2⟩ => ⟨h1, h _ _ ⟨Kin.refl w, hr _⟩ h2⟩
/-- what a step must keep: nothing, if it is the last one -/
def relX (Rl : Heap → Heap → Prop) (x : List Nat) (i : Nat) : Heap → Heap → Prop := fun a b => i ∈ x ∨ Rl a b
theorem relX_refl (hr : ∀ h, Rl h h) (x : List Nat) (i : Nat) : ∀ h, relX Rl x i h h := fun h => .inr (hr h)
theorem relX_of {x : List Nat} {i : Nat} (hx : i ∉ x) {a b : Heap} (h : relX Rl x i a b) : Rl a b := h.resolve_left hx
theorem put_defers_eq (a : Act) (d : Option Tmp) (v : Value) : (a.put d v).defers = a.defers := by cases d <;> rfl
/-- an operation's step does not look at a slot of another one -/
theorem GStep.put {oi o : Oper} {a : Act} {w : World} {v : Value} {K : Act → World → Prop} (hs : ∀ cs b, o.op ≠ .select cs b) (h1 : ∀ d, oi.dst = some d → d ∉ o.looksAt ops) (h2 : ∀ d, oi.dst = some d → o.dst ≠ some d)
    (h : GStep P ops Rl o (a.put oi.dst v) w K) : GStep P ops Rl o a w fun a' w' => K (a'.put oi.dst v) w' := by
  unfold GStep at *
  rw [wanted_put o a oi.dst v h1] at h
  refine h.imp (fun ⟨hw, h⟩ => ⟨hw, ?_⟩) fun ⟨hw, h⟩ => ⟨hw, by rwa [Act.put_comm a v undef h2] at h⟩
  have key : ∀ (u : Value) (w' : World), (∃ u', (a.put oi.dst v).put o.dst u = (a.put oi.dst v).put o.dst u' ∧ UpR Rl w w' ∧ K ((a.put oi.dst v).put o.dst u) w') → ∃ u', a.put o.dst u = a.put o.dst u' ∧ UpR Rl w w' ∧ K ((a.put o.dst u).put oi.dst v) w' := by
    rintro u w' ⟨u', _, hu, hk⟩
    exact ⟨u, rfl, hu, by rwa [← Act.put_comm a v u h2]⟩
  unfold Oper.wp at *
  rw [execOp_put o hs a oi.dst v h1] at h
  generalize (execOp a.eval o).run P w = r at *
  cases r with
  | ok n w' =>
    cases n <;> simp only [Oper.upon] at h ⊢
    case value u => exact key _ _ h
    case skip => exact key _ _ h
    case defer d =>
      exfalso
      obtain ⟨u, e, _⟩ := h
      have := congrArg Act.defers e
      simp only [put_defers_eq] at this
      exact List.cons_ne_self _ _ this
    case enter f args =>
      refine Calls.mono h fun e w'' he => ?_
      cases e with
      | returned u => exact key _ _ he
      | panicked c => exact he.elim
      | outgrown => exact he
    case row row args => exact Rows.mono h fun u w'' he => key _ _ he
  | halt x w' => cases x <;> simp only [Oper.upon] at h ⊢ <;> exact h.elim
theorem YS.step {Rl' : Heap → Heap → Prop} {o : Oper} {v : Value} {a : Act} {w : World} {K : Act → World → Prop} (hr : ∀ h, Rl h h) (hr' : ∀ h, Rl' h h) (hy : YS P ops Rl o v a w) (h : K (a.put o.dst v) w) : GStep P ops Rl' o a w K := by
  rcases hy with ⟨hw, hy⟩ | ⟨hw, rfl⟩
  · refine .inl ⟨hw, ?_⟩
    unfold Oper.wp
    rw [hy w (hr _)]
    exact ⟨v, rfl, ⟨Kin.refl w, hr' _⟩, h⟩
  · exact .inr ⟨hw, h⟩
theorem YS.put {oi oj : Oper} {v u : Value} {a : Act} {w w' : World} (ht : ∀ a b c, Rl a b → Rl b c → Rl a c) (hy : YS P ops Rl oi v a w) (hu : UpR Rl w w') (hs : ∀ cs b, oi.op ≠ .select cs b) (h : ∀ d, oj.dst = some d → d ∉ oi.looksAt ops) : YS P ops Rl oi v (a.put oj.dst u) w' := by
  unfold YS at *
  rw [execOp_put oi hs a oj.dst u h, wanted_put oi a oj.dst u h]
  exact hy.imp (fun ⟨h1, h2⟩ => ⟨h1, fun w2 h3 => h2 w2 (ht _ _ _ hu.2 h3)⟩) id

def wpAnyR (P : Program) (md : Region.Mode) (ops : Array Oper) (Rl : Heap → Heap → Prop) (x : List Nat) (L : Act → World → Prop) : Nat → Array Bool → Act → World → Prop
  | 0, listed, a, w => Region.ready md ops listed = [] ∧ L a w
  | g + 1, listed, a, w => (Region.ready md ops listed = [] → L a w) ∧ ∀ i ∈ Region.ready md ops listed, ∃ o, ops[i]? = some o ∧ GStep P ops (relX Rl x i) o a w (wpAnyR P md ops Rl x L g (listed.setIfInBounds i true))
theorem wpAny_of_R {x : List Nat} {Q : Exit → Act → World → Prop} : ∀ (g : Nat) (listed : Array Bool) (a : Act) (w : World), wpAnyR P md ops Rl x (fun a w => Q .normal a w) g listed a w → wpAny P md ops Q g listed a w
  | 0, _, _, _, h => h
  | g + 1, listed, a, w, h => by
    refine ⟨h.1, fun i hi => ?_⟩
    obtain ⟨o, ho, hs⟩ := h.2 i hi
    unfold wpOp
    simp only [ho]
    rcases hs with ⟨hw, hs⟩ | ⟨hw, hs⟩
    · rw [if_pos hw]
      exact .inl (wp_more (fun a' w' ⟨_, _, _, hk⟩ => wpAny_of_R g _ a' w' hk) hs)
    · rw [if_neg (by rw [hw]; simp)]
      exact wpAny_of_R g _ _ w hs

/-- what is listed came behind all that it waits for -/
def Closed (md : Region.Mode) (ops : Array Oper) (listed : Array Bool) : Prop := ∀ (j : Nat) (o : Oper), listed.getD j false = true → ops[j]? = some o → ∀ e ∈ o.after, Region.binds md e = true → listed.getD e.on false = true
theorem Closed.step {j : Nat} {listed : Array Bool} (c : Closed md ops listed) (hj : j ∈ Region.ready md ops listed) : Closed md ops (listed.setIfInBounds j true) := by
  intro k o hk ho e he hb
  by_cases hkj : k = j
  · subst hkj
    obtain ⟨_, o', ho', hall⟩ := mem_ready.1 hj
    obtain rfl : o' = o := Option.some.inj (ho'.symm.trans ho)
    exact getD_set_true (hall e he hb)
  · rw [getD_set_ne false (fun e => hkj e.symm)] at hk
    exact getD_set_true (c k o hk ho e he hb)
/-- x waits for i, at most g steps away -/
def waitsOn (md : Region.Mode) (ops : Array Oper) : Nat → Nat → Nat → Bool
  | 0, _, _ => false
  | g + 1, x, i => match ops[x]? with
    | some o => (o.after.toList.any fun e => Nat.beq e.on i && Region.binds md e) || o.after.toList.any fun e => Region.binds md e && waitsOn md ops g e.on i
    | none => false
theorem waitsOn_listed {listed : Array Bool} (c : Closed md ops listed) : ∀ (g : Nat) (x i : Nat) (o : Oper), ops[x]? = some o → (∀ e ∈ o.after, Region.binds md e = true → listed.getD e.on false = true) → waitsOn md ops g x i = true → listed.getD i false = true
  | 0, x, i, o, ho, hall, h => by cases h
  | g + 1, x, i, o, ho, hall, h => by
    simp only [waitsOn, ho, Bool.or_eq_true, List.any_eq_true, Bool.and_eq_true] at h
    rcases h with ⟨e, he, h1, h2⟩ | ⟨e, he, h1, h2⟩
    · have h3 := hall e (by simpa using he) h2
      rw [Nat.eq_of_beq_eq_true h1] at h3; exact h3
    · have h3 := hall e (by simpa using he) h1
      cases hy : ops[e.on]? with
      | none => cases g <;> simp [waitsOn, hy] at h2
      | some y => exact waitsOn_listed c g e.on i y hy (fun f hf hb => c e.on y h3 hy f hf hb) h2
def noXo (md : Region.Mode) (ops : Array Oper) (xs : List Nat) (i : Nat) (listed : Array Bool) : Bool := xs.all fun x => listed.getD x false || waitsOn md ops 10 x i
theorem noXo_mono {x : List Nat} {i j : Nat} {listed : Array Bool} (h : noXo md ops x i listed = true) : noXo md ops x i (listed.setIfInBounds j true) = true := by
  simp only [noXo, List.all_eq_true, Bool.or_eq_true] at h ⊢
  exact fun y hy => (h y hy).imp getD_set_true id
theorem noXo_step {x : List Nat} {i j : Nat} {listed : Array Bool} (c : Closed md ops listed) (h : noXo md ops x i listed = true) (hi : i ∈ Region.ready md ops listed) (hj : j ∈ Region.ready md ops listed) : j ∉ x := by
  intro hx
  obtain ⟨h0, o, ho, hall⟩ := mem_ready.1 hj
  simp only [noXo, List.all_eq_true, Bool.or_eq_true] at h
  rcases h j hx with h | h
  · rw [getD_both h0] at h; cases h
  · have h3 := waitsOn_listed c 10 j i o ho hall h
    rw [getD_both (mem_ready.1 hi).1] at h3
    cases h3
/-- A quiet operation that may come up now may be taken first. -/
theorem wpAnyR_first {x : List Nat} {L : Act → World → Prop} {i : Nat} {oi : Oper} {v : Value} (hr : ∀ h, Rl h h) (ht : ∀ a b c, Rl a b → Rl b c → Rl a c) (hi : ops[i]? = some oi) (hsel : ∀ (j : Nat) (o : Oper) cs b, ops[j]? = some o → o.op ≠ .select cs b) :
    ∀ (g : Nat) (listed : Array Bool) (a : Act) (w : World), noXo md ops x i listed = true → Closed md ops listed →
      (∀ j oj, ops[j]? = some oj → j ≠ i → listed.getD j true = false → (∀ e ∈ oj.after, Region.binds md e = true → e.on ≠ i) → oi.apart ops oj = true) →
      i ∈ Region.ready md ops listed → YS P ops Rl oi v a w →
      wpAnyR P md ops Rl x L g (listed.setIfInBounds i true) (a.put oi.dst v) w → wpAnyR P md ops Rl x L (g + 1) listed a w := by
  intro g
  induction g with
  | zero =>
    intro listed a w _ _ _ hrd hy H
    refine ⟨fun h => (by rw [h] at hrd; cases hrd), fun j hj => ?_⟩
    by_cases hji : j = i
    · subst hji; exact ⟨oi, hi, hy.step hr (relX_refl hr _ _) H⟩
    · have := ready_mono hj hji
      rw [H.1] at this
      cases this
  | succ g ih =>
    intro listed a w hno hcl hfree hrd hy H
    refine ⟨fun h => (by rw [h] at hrd; cases hrd), fun j hj => ?_⟩
    by_cases hji : j = i
    · subst hji; exact ⟨oi, hi, hy.step hr (relX_refl hr _ _) H⟩
    · have hxj := noXo_step hcl hno hrd hj
      obtain ⟨oj, hoj, h1⟩ := H.2 j (ready_mono hj hji)
      obtain ⟨hjun, oj', hoj', hall⟩ := mem_ready.1 hj
      obtain rfl : oj' = oj := Option.some.inj (hoj'.symm.trans hoj)
      have hnot : ∀ e ∈ oj'.after, Region.binds md e = true → e.on ≠ i := fun e he hb heq => by
        have h1 := hall e he hb
        rw [heq, getD_both (mem_ready.1 hrd).1] at h1
        cases h1
      obtain ⟨p1, p2, p3⟩ := Oper.apart_spec (hfree j oj' hoj hji hjun hnot)
      have hfree' : ∀ k ok, ops[k]? = some ok → k ≠ i → (listed.setIfInBounds j true).getD k true = false →
          (∀ e ∈ ok.after, Region.binds md e = true → e.on ≠ i) → oi.apart ops ok = true := fun k ok hk hki hun hno => by
        refine hfree k ok hk hki ?_ hno
        by_cases hjk : j = k
        · subst hjk; exact hjun
        · rw [getD_set_ne true hjk] at hun; exact hun
      have h2 := GStep.put (oi := oi) (fun cs b => hsel j oj' cs b hoj) p1 p2 h1
      refine ⟨oj', hoj, ?_⟩
      rw [Array.setIfInBounds_comm _ _ (Ne.symm hji)] at h2
      -- what comes of j, then i taken first
      rcases h2 with ⟨hw, h2⟩ | ⟨hw, h2⟩
      · refine .inl ⟨hw, wp_more (fun a' w' ⟨u, e, hu, hk⟩ => ⟨u, e, hu, ?_⟩) h2⟩
        subst e
        exact ih (listed.setIfInBounds j true) _ w' (noXo_mono hno) (hcl.step hj) hfree' (ready_mono hrd (Ne.symm hji)) (hy.put ht ⟨hu.1, relX_of hxj hu.2⟩ (fun cs b => hsel i oi cs b hi) p3) hk
      · exact .inr ⟨hw, ih (listed.setIfInBounds j true) _ w (noXo_mono hno) (hcl.step hj) hfree' (ready_mono hrd (Ne.symm hji)) (hy.put ht ⟨Kin.refl w, hr _⟩ (fun cs b => hsel i oi cs b hi) p3) h2⟩

def mixX (md : Region.Mode) (ops : Array Oper) (x : List Nat) : Mix → Array Bool → Bool
  | .done, listed => (Region.ready md ops listed).isEmpty
  | .quiet i r, listed => (Region.ready md ops listed).contains i && Region.free md ops listed i && noXo md ops x i listed && mixX md ops x r (listed.setIfInBounds i true)
  | .one i r, listed => decide (Region.ready md ops listed = [i]) && mixX md ops x r (listed.setIfInBounds i true)
  | .two i r j s, listed => decide (Region.ready md ops listed = [i, j]) && Nat.beq s.len r.len && mixX md ops x r (listed.setIfInBounds i true) && mixX md ops x s (listed.setIfInBounds j true)
  | .three i r j s k u, listed => decide (Region.ready md ops listed = [i, j, k]) && Nat.beq s.len r.len && Nat.beq u.len r.len && mixX md ops x r (listed.setIfInBounds i true) && mixX md ops x s (listed.setIfInBounds j true) && mixX md ops x u (listed.setIfInBounds k true)
  | .last i r, listed => x.any (fun j => Nat.beq j i) && decide (Region.ready md ops listed = [i]) && mixX md ops x r (listed.setIfInBounds i true)
def mixB (md : Region.Mode) (ops : Array Oper) (s : Mix) (listed : Array Bool) : Bool := mixX md ops s.exempt s listed
def wpMix (P : Program) (ops : Array Oper) (Rl : Heap → Heap → Prop) (L : Act → World → Prop) : Mix → Act → World → Prop
  | .done, a, w => L a w
  | .quiet i r, a, w => ∃ o v, ops[i]? = some o ∧ YS P ops Rl o v a w ∧ wpMix P ops Rl L r (a.put o.dst v) w
  | .one i r, a, w => ∃ o, ops[i]? = some o ∧ GStep P ops Rl o a w (wpMix P ops Rl L r)
  | .two i r j s, a, w => (∃ o, ops[i]? = some o ∧ GStep P ops Rl o a w (wpMix P ops Rl L r)) ∧ ∃ o, ops[j]? = some o ∧ GStep P ops Rl o a w (wpMix P ops Rl L s)
  | .three i r j s k u, a, w => (∃ o, ops[i]? = some o ∧ GStep P ops Rl o a w (wpMix P ops Rl L r)) ∧ (∃ o, ops[j]? = some o ∧ GStep P ops Rl o a w (wpMix P ops Rl L s)) ∧ ∃ o, ops[k]? = some o ∧ GStep P ops Rl o a w (wpMix P ops Rl L u)
  | .last i r, a, w => ∃ o, ops[i]? = some o ∧ GStep P ops (fun _ _ => True) o a w (wpMix P ops Rl L r)
theorem wpAnyR_of_mix {x : List Nat} {L : Act → World → Prop} (hr : ∀ h, Rl h h) (ht : ∀ a b c, Rl a b → Rl b c → Rl a c) (hsel : Region.noSelect ops = true) : ∀ (s : Mix) (listed : Array Bool) (a : Act) (w : World), Closed md ops listed → mixX md ops x s listed = true → wpMix P ops Rl L s a w → wpAnyR P md ops Rl x L s.len listed a w
  | .done, listed, a, w, hcl, hB, h => ⟨List.isEmpty_iff.1 hB, h⟩
  | .quiet i r, listed, a, w, hcl, hB, ⟨o, v, ho, hy, h⟩ => by
    simp only [mixX, Bool.and_eq_true] at hB
    obtain ⟨⟨⟨h1, h2⟩, h4⟩, h3⟩ := hB
    exact wpAnyR_first hr ht ho (Region.noSelect_spec hsel) r.len listed a w h4 hcl (Region.free_spec ho h2) (by simpa using h1) hy (wpAnyR_of_mix hr ht hsel r _ _ w (hcl.step (by simpa using h1)) h3 h)
  | .one i r, listed, a, w, hcl, hB, ⟨o, ho, h⟩ => by
    simp only [mixX, Bool.and_eq_true, decide_eq_true_eq] at hB
    obtain ⟨h1, h3⟩ := hB
    refine ⟨fun h0 => (by rw [h1] at h0; cases h0), fun j hj => ?_⟩
    rw [h1] at hj
    obtain rfl : j = i := by simpa using hj
    exact ⟨o, ho, h.mono (fun _ _ => .inr) (fun a' w' _ hk => wpAnyR_of_mix hr ht hsel r _ a' w' (hcl.step (by rw [h1]; simp)) h3 hk) hr⟩
  | .two i r j s, listed, a, w, hcl, hB, ⟨⟨o, ho, h⟩, ⟨o', ho', h'⟩⟩ => by
    simp only [mixX, Bool.and_eq_true, decide_eq_true_eq] at hB
    obtain ⟨⟨⟨h1, h2⟩, h3⟩, h4⟩ := hB
    have hl := Nat.eq_of_beq_eq_true h2
    refine ⟨fun h0 => (by rw [h1] at h0; cases h0), fun k hk => ?_⟩
    rw [h1] at hk
    simp only [List.mem_cons, List.not_mem_nil, or_false] at hk
    rcases hk with rfl | rfl
    · exact ⟨o, ho, h.mono (fun _ _ => .inr) (fun a' w' _ hk => wpAnyR_of_mix hr ht hsel r _ a' w' (hcl.step (by rw [h1]; simp)) h3 hk) hr⟩
    · refine ⟨o', ho', h'.mono (fun _ _ => .inr) (fun a' w' _ hk => ?_) hr⟩
      have := wpAnyR_of_mix hr ht hsel s _ a' w' (hcl.step (by rw [h1]; simp)) h4 hk
      rw [hl] at this; exact this
  | .three i r j s k u, listed, a, w, hcl, hB, ⟨⟨o, ho, h⟩, ⟨o', ho', h'⟩, ⟨o3, ho3, h3'⟩⟩ => by
    simp only [mixX, Bool.and_eq_true, decide_eq_true_eq] at hB
    obtain ⟨⟨⟨⟨⟨h1, h2⟩, h2'⟩, h3⟩, h4⟩, h5⟩ := hB
    have hl := Nat.eq_of_beq_eq_true h2
    have hl' := Nat.eq_of_beq_eq_true h2'
    refine ⟨fun h0 => (by rw [h1] at h0; cases h0), fun m hm => ?_⟩
    rw [h1] at hm
    simp only [List.mem_cons, List.not_mem_nil, or_false] at hm
    rcases hm with rfl | rfl | rfl
    · exact ⟨o, ho, h.mono (fun _ _ => .inr) (fun a' w' _ hk => wpAnyR_of_mix hr ht hsel r _ a' w' (hcl.step (by rw [h1]; simp)) h3 hk) hr⟩
    · refine ⟨o', ho', h'.mono (fun _ _ => .inr) (fun a' w' _ hk => ?_) hr⟩
      have := wpAnyR_of_mix hr ht hsel s _ a' w' (hcl.step (by rw [h1]; simp)) h4 hk
      rw [hl] at this; exact this
    · refine ⟨o3, ho3, h3'.mono (fun _ _ => .inr) (fun a' w' _ hk => ?_) hr⟩
      have := wpAnyR_of_mix hr ht hsel u _ a' w' (hcl.step (by rw [h1]; simp)) h5 hk
      rw [hl'] at this; exact this
  | .last i r, listed, a, w, hcl, hB, ⟨o, ho, h⟩ => by
    simp only [mixX, Bool.and_eq_true, decide_eq_true_eq] at hB
    obtain ⟨⟨h0, h1⟩, h3⟩ := hB
    refine ⟨fun h0 => (by rw [h1] at h0; cases h0), fun j hj => ?_⟩
    rw [h1] at hj
    obtain rfl : j = i := by simpa using hj
    have hx : j ∈ x := by
      obtain ⟨y, hy, e⟩ := List.any_eq_true.1 h0
      rw [← Nat.eq_of_beq_eq_true e]; exact hy
    exact ⟨o, ho, h.mono (fun _ _ _ => .inl hx) (fun a' w' _ hk => wpAnyR_of_mix hr ht hsel r _ a' w' (hcl.step (by rw [h1]; simp)) h3 hk) (fun _ => trivial)⟩

/-- A region that draws, in that order. -/
theorem any_region_mix {Q : Exit → Act → World → Prop} {a : Act} {w : World} {l : List Oper} (s : Mix) (hr : ∀ h, Rl h h) (ht : ∀ a b c, Rl a b → Rl b c → Rl a c)
    (hB : (Region.noSelect l.toArray && Nat.beq s.len l.length && mixB .any l.toArray s (Array.replicate l.toArray.size false)) = true)
    (h : wpMix P l.toArray Rl (fun a w => Q .normal a w) s a { w with drawn := w.drawn + 1 }) : wpAny P .any l.toArray Q l.toArray.size (Array.replicate l.toArray.size false) a { w with drawn := w.drawn + 1 } := by
  simp only [Bool.and_eq_true] at hB
  obtain ⟨⟨h1, h2⟩, h3⟩ := hB
  have := wpAny_of_R _ _ _ _ (wpAnyR_of_mix (md := .any) hr ht h1 s _ _ _ (fun j o hj => by simp [Array.getD_eq_getD_getElem?, Array.getElem?_replicate] at hj; split at hj <;> simp at hj) h3 h)
  have e := Nat.eq_of_beq_eq_true h2
  rw [show l.toArray.size = s.len by simp [e]]
  simpa [e] using this
end
end Go.Vd


namespace Go.Vd
set_option linter.unusedSimpArgs false
set_option linter.unusedVariables false
variable {P : Program} {D : List Deferred}

/-- Outside these slots the frame is as it was. -/
structure Off (W : List Nat) (a a' : Act) : Prop where
  size : a'.tmps.size = a.tmps.size
  get : ∀ n, n ∉ W → a'.tmps.getD n undef = a.tmps.getD n undef
theorem Off.refl (W : List Nat) (a : Act) : Off W a a := ⟨rfl, fun _ _ => rfl⟩
theorem Off.trans {W : List Nat} {a b c : Act} (h : Off W a b) (k : Off W b c) : Off W a c := ⟨k.size.trans h.size, fun n hn => (k.get n hn).trans (h.get n hn)⟩
theorem Off.mono {W W' : List Nat} {a b : Act} (h : Off W a b) (hs : ∀ n, n ∈ W → n ∈ W') : Off W' a b := ⟨h.size, fun n hn => h.get n (fun hm => hn (hs n hm))⟩
theorem Off.put {W : List Nat} (a : Act) (d : Option Tmp) (v : Value) (h : ∀ n, d = some n → n ∈ W) : Off W a (a.put d v) := by
  cases d with
  | none => exact Off.refl _ _
  | some d =>
    refine ⟨by simp [Act.put], fun n hn => ?_⟩
    have hne : d ≠ n := fun e => hn (e ▸ h d rfl)
    simp only [Act.put, Array.getD_eq_getD_getElem?]
    rw [Array.getElem?_setIfInBounds_ne hne]

/-- what stands behind a region -/
def Behind (D : List Deferred) (w0 : World) (a0 : Act) (W : List Nat) (K : Env → Heap → Prop) (Q' : Act → World → Prop) : Prop :=
  ∀ e a w, Agree e a.tmps → K e w.heap → Kin w0 w → a.defers = D → Off W a0 a → Q' a w

/-- what a panic finds that goes out of here -/
def Pan (A : Ann) (D : List Deferred) (w0 : World) (a0 : Act) (W : List Nat) (Q : Exit → Act → World → Prop) : Prop :=
  ∀ chain a w, Raised chain → A.pan w.heap → Kin w0 w → a.defers = D → Off W a0 a → Q (.panic chain) a w
theorem Pan.from_ {A : Ann} {w0 w1 : World} {a0 a1 : Act} {W W' : List Nat} {Q Q' : Exit → Act → World → Prop} (h : Pan A D w0 a0 W Q) (hk : Kin w0 w1) (ho : Off W a0 a1) (hW : ∀ n, n ∈ W' → n ∈ W) (hQ : ∀ ch a w, Q (.panic ch) a w → Q' (.panic ch) a w) : Pan A D w1 a1 W' Q' :=
  fun ch a w hc hp hk' hd ho' => hQ _ _ _ (h ch a w hc hp (hk.trans hk') hd (ho.trans (ho'.mono hW)))
theorem Agree.put' {e : Env} {a : Act} (h : Agree e a.tmps) (d : Option Nat) (v : Value) {u : Option Value} (hu : u = none ∨ u = some v) : Agree (Env.put e d u) (a.put d v).tmps := by
  cases d with
  | none => exact h
  | some d => exact h.set d v _ hu
theorem put_defers (a : Act) (d : Option Tmp) (v : Value) : (a.put d v).defers = a.defers := by cases d <;> rfl

theorem Agree.lit {e : Env} {a : Act} {d : Nat} {b lit : Bool} (h : Agree e a.tmps) (hd : Env.get e d = some (.bool b)) (hb : b = lit) : Agree (Env.set e d (some (.bool lit))) a.tmps := by
  subst hb
  refine ⟨by rw [Env.set_length]; exact h.1, fun n v hn => ?_⟩
  by_cases hnd : d = n
  · subst hnd
    rw [Env.get_set_same _ _ _ (Env.get_lt hd)] at hn
    exact h.2 d v (hd.trans hn)
  · rw [Env.get_set_ne _ _ _ _ hnd] at hn
    exact h.2 n v hn

theorem yielded_bool {ops : Array Oper} {a : Act} {e : Env} {j d : Nat} {b : Bool} (hA : Agree e a.tmps) (hd : (ops[j]?).bind (·.dst) = some d) (hg : Env.get e d = some (.bool b)) : yielded ops a.tmps j = some b := by
  have h1 := hA.2 d _ hg
  have hlt : d < a.tmps.size := by rw [← hA.1]; exact Env.get_lt hg
  unfold yielded
  rw [hd]
  simp only [Option.bind_some]
  rw [Array.getD_eq_getD_getElem?, Array.getElem?_eq_getElem hlt] at h1
  rw [Array.getElem?_eq_getElem hlt]
  simp only [Option.getD_some] at h1
  rw [h1]
theorem yielded_tuple {ops : Array Oper} {a : Act} {e : Env} {j d : Nat} {vs : Array Value} (hA : Agree e a.tmps) (hd : (ops[j]?).bind (·.dst) = some d) (hg : Env.get e d = some (.tuple vs)) : yielded ops a.tmps j = none := by
  have h1 := hA.2 d _ hg
  have hlt : d < a.tmps.size := by rw [← hA.1]; exact Env.get_lt hg
  unfold yielded
  rw [hd]
  simp only [Option.bind_some]
  rw [Array.getD_eq_getD_getElem?, Array.getElem?_eq_getElem hlt] at h1
  rw [Array.getElem?_eq_getElem hlt]
  simp only [Option.getD_some] at h1
  rw [h1]

theorem vcOps_sound {A : Ann} {all : List Oper} {W : List Nat} {Q : Exit → Act → World → Prop} {K : Env → Heap → Prop} (hy : A.yld = false) : ∀ (l : List Oper) {e : Env} {h : Heap} {a : Act} {w : World},
    (∀ o ∈ l, ∀ n, o.dst = some n → n ∈ W) → Agree e a.tmps → w.heap = h → a.defers = D → Behind D w a W K (fun a w => Q .normal a w) → Pan A D w a W Q → vcOps P A all l e h K → wpList P all.toArray Q l a w
  | [], e, h, a, w, _, hA, hw, hdf, hB, _, H => hB e a w hA (by rw [hw]; exact H) (Kin.refl w) hdf (Off.refl _ _)
  | o :: r, e, h, a, w, hW, hA, hw, hdf, hB, hP, H => by
    have rest : ∀ {e' : Env} {u : Value} {w' : World} {h' : Heap}, Agree e' (a.put o.dst u).tmps → w'.heap = h' → (a.put o.dst u).defers = D → Kin w w' → vcOps P A all r e' h' K → wpList P all.toArray Q r (a.put o.dst u) w' :=
      fun hA' hw' hd' hk H' => vcOps_sound hy r (fun p hp => hW p (by simp [hp])) hA' hw' hd' (fun e2 a2 w2 g1 g2 g3 g4 g5 => hB e2 a2 w2 g1 g2 (hk.trans g3) g4 ((Off.put a o.dst _ (hW o (by simp))).trans g5)) (hP.from_ hk (Off.put a o.dst _ (hW o (by simp))) (fun _ h => h) (fun _ _ _ h => h)) H'
    have run : ∀ {e1 : Env}, Agree e1 a.tmps → (vcEffP P A o e1 h fun v h' => vcOps P A all r (Env.put e1 o.dst v) h' K) → o.wp P a w (wpList P all.toArray Q r) Q := by
      intro e1 hA1 H1
      refine vcEffP_sound hy hA1 hw (fun v u w' hv hu hk => ?_) (fun ch w' hc hp hk => hP ch a w' hc hp hk hdf (Off.refl _ _)) H1
      exact rest (hA1.put' o.dst u hu) rfl (by rw [put_defers]; exact hdf) hk hv
    simp only [vcOps, withEnv_eq] at H
    unfold wpList
    split at H
    · rename_i hg
      rw [if_pos (by simp [Region.wanted, hg])]
      exact .inl (run hA H)
    · rename_i j want hg
      split at H
      case h_2 => exact H.elim
      rename_i d hd
      have hd' : (all.toArray[j]?).bind (·.dst) = some d := by simpa using hd
      split at H
      · rename_i b hb
        have hy := yielded_bool hA hd' hb
        split at H
        · cases b
          · rw [if_neg (by simp [Region.wanted, hg, hy])]
            exact rest ((hA.lit hb rfl).put' o.dst undef (.inr rfl)) hw (by rw [put_defers]; exact hdf) (Kin.refl w) H
          · rw [if_pos (by simp [Region.wanted, hg, hy])]
            exact .inl (run (hA.lit hb rfl) H)
        · cases b
          · rw [if_pos (by simp [Region.wanted, hg, hy])]
            exact .inl (run (hA.lit hb rfl) H)
          · rw [if_neg (by simp [Region.wanted, hg, hy])]
            exact rest ((hA.lit hb rfl).put' o.dst undef (.inr rfl)) hw (by rw [put_defers]; exact hdf) (Kin.refl w) H
      · rename_i vs hb
        have hy := yielded_tuple hA hd' hb
        rw [if_neg (by simp [Region.wanted, hg, hy])]
        exact rest (hA.put' o.dst undef (.inr rfl)) hw (by rw [put_defers]; exact hdf) (Kin.refl w) H
      · exact H.elim

/-- the worlds of a quiet head -/
def ClsW (ext : Bool) (w0 : World) (h : Heap) (w : World) : Prop := Kin w0 w ∧ Cls ext h w.heap
theorem Cls.ext {b : Bool} {h h' : Heap} (c : Cls b h h') : Ext h h' := by
  cases b
  · simp only [Cls] at c; subst c; exact Ext.refl _
  · exact c
theorem Cls.trans {b : Bool} {h h1 h2 : Heap} (c : Cls b h h1) (d : Cls b h1 h2) : Cls b h h2 := by
  cases b
  · simp only [Cls] at *; exact d.trans c
  · exact Ext.trans c d

theorem vcQo_sound {A : Ann} {ext : Bool} {o : Oper} {e : Env} {h : Heap} {K : Option Value → Prop} {a : Act} {w0 : World} {next : Act → Prop} (hA : Agree e a.tmps)
    (hn : ∀ v, K (some v) → next (a.put o.dst v)) (H : vcQo P A ext o e h K) : o.quiet P a (ClsW ext w0 h) next := by
  obtain ⟨dst, op, ty, pos, after, guard⟩ := o
  have pure_ : vcPure P A ⟨dst, op, ty, pos, after, guard⟩ e h K → Oper.quiet P ⟨dst, op, ty, pos, after, guard⟩ a (ClsW ext w0 h) next := by
    intro H
    obtain ⟨v, hk, hr⟩ := vcPure_sound hA H
    refine ⟨v, fun w hw => ?_, hn v hk⟩
    unfold Oper.quietAt
    rw [hr w hw.2.ext]
    exact ⟨rfl, rfl⟩
  cases op with
  | call c =>
    obtain ⟨callee, args, tys⟩ := c
    simp only [vcQo] at H
    split at H
    · rename_i f
      split at H
      case h_2 => exact H.elim
      rename_i g first captured vs hf hv
      obtain ⟨u, hc, hk⟩ := withSh_some H
      refine ⟨u, fun w hw => ?_, hn u hk⟩
      have e1 := opv_eval hA hf
      have e2 := opvs_arr hA hv
      have harr : (first.toList ++ vs ++ captured.toList).toArray = first ++ vs.toArray ++ captured := by apply Array.ext'; simp
      rw [harr] at hc
      have hr : execOp a.eval ⟨dst, .call { callee := .value f, args, argTypes := tys }, ty, pos, after, guard⟩ = callFunc g (first ++ vs.toArray ++ captured) := by
        simp only [execOp, resolve, e1, e2, Deferred.ofValue]
        rfl
      unfold Oper.quietAt
      rw [hr]
      obtain ⟨h1, hC⟩ := hc w.heap hw.2 w rfl
      rw [h1]
      refine ⟨rfl, hC.mono fun en w' ⟨v, he, hkn, hvu, hcl⟩ => ⟨by rw [he, hvu], hw.1.trans hkn, hw.2.trans hcl⟩⟩
    · exact pure_ H
  | lookup t x i ok =>
    simp only [vcQo] at H
    split at H
    case h_2 => exact H.elim
    rename_i m k hx hi
    obtain ⟨u, hr, hk⟩ := withSh_some H
    refine ⟨u, fun w hw => ?_, hn u hk⟩
    unfold Oper.quietAt
    simp only [execOp, opv_eval hA hx, opv_eval hA hi, Sem.run_bind, hr w hw.2, Result.andThen_ok, Sem.run_pure]
    exact ⟨rfl, rfl⟩
  | build t parts =>
    simp only [vcQo] at H
    obtain ⟨v, hk, hr⟩ := buildV_sound hA H
    refine ⟨v, fun w hw => ?_, hn v hk⟩
    unfold Oper.quietAt
    simp only [execOp, Sem.run_bind, hr w, Result.andThen_ok, Sem.run_pure]
    exact ⟨rfl, rfl⟩
  | _ => exact pure_ H

theorem vcQ_sound {A : Ann} {ext : Bool} {all : List Oper} {W : List Nat} {w0 : World} {h : Heap} {K : Env → Prop} {Q : Act → Prop} : ∀ (l : List Oper) {e : Env} {a : Act},
    (∀ o ∈ l, ∀ n, o.dst = some n → n ∈ W) → Agree e a.tmps → a.defers = D → (∀ e' a', Agree e' a'.tmps → a'.defers = D → Off W a a' → K e' → Q a') → vcQ P A ext all l e h K → wpQuiet P all.toArray (ClsW ext w0 h) Q l a
  | [], e, a, _, hA, hdf, hB, H => hB e a hA hdf (Off.refl _ _) H
  | o :: r, e, a, hW, hA, hdf, hB, H => by
    have rest : ∀ {e' : Env} {u : Value}, Agree e' (a.put o.dst u).tmps → (a.put o.dst u).defers = D → vcQ P A ext all r e' h K → wpQuiet P all.toArray (ClsW ext w0 h) Q r (a.put o.dst u) :=
      fun hA' hd' H' => vcQ_sound r (fun p hp => hW p (by simp [hp])) hA' hd' (fun e2 a2 g1 g2 g3 g4 => hB e2 a2 g1 g2 ((Off.put a o.dst _ (hW o (by simp))).trans g3) g4) H'
    have run : ∀ {e1 : Env}, Agree e1 a.tmps → (vcQo P A ext o e1 h fun v => vcQ P A ext all r (Env.put e1 o.dst v) h K) → o.quiet P a (ClsW ext w0 h) (wpQuiet P all.toArray (ClsW ext w0 h) Q r) :=
      fun hA1 H1 => vcQo_sound hA1 (fun v hv => rest (hA1.put' o.dst v (.inr rfl)) (by rw [put_defers]; exact hdf) hv) H1
    simp only [vcQ, withEnv_eq] at H
    unfold wpQuiet
    split at H
    · rename_i hg
      rw [if_pos (by simp [Region.wanted, hg])]
      exact run hA H
    · rename_i j want hg
      split at H
      case h_2 => exact H.elim
      rename_i d hd
      have hd' : (all.toArray[j]?).bind (·.dst) = some d := by simpa using hd
      split at H
      · rename_i b hb
        have hy := yielded_bool hA hd' hb
        split at H
        · cases b
          · rw [if_neg (by simp [Region.wanted, hg, hy])]
            exact rest ((hA.lit hb rfl).put' o.dst undef (.inr rfl)) (by rw [put_defers]; exact hdf) H
          · rw [if_pos (by simp [Region.wanted, hg, hy])]
            exact run (hA.lit hb rfl) H
        · cases b
          · rw [if_pos (by simp [Region.wanted, hg, hy])]
            exact run (hA.lit hb rfl) H
          · rw [if_neg (by simp [Region.wanted, hg, hy])]
            exact rest ((hA.lit hb rfl).put' o.dst undef (.inr rfl)) (by rw [put_defers]; exact hdf) H
      · rename_i vs hb
        have hy := yielded_tuple hA hd' hb
        rw [if_neg (by simp [Region.wanted, hg, hy])]
        exact rest (hA.put' o.dst undef (.inr rfl)) (by rw [put_defers]; exact hdf) H
      · exact H.elim

theorem vcQo_up {A : Ann} {o : Oper} {e : Env} {h : Heap} {K : Option Value → Prop} {a : Act} {w0 : World} (hA : Agree e a.tmps) (hw0 : w0.heap = h) (H : vcQo P A true o e h K) :
    ∃ v, K (some v) ∧ ∀ w, Up w0 w → Oper.quietUpon P (Up w) w v ((execOp a.eval o).run P w) := by
  obtain ⟨dst, op, ty, pos, after, guard⟩ := o
  subst hw0
  have pure_ : vcPure P A ⟨dst, op, ty, pos, after, guard⟩ e w0.heap K → ∃ v, K (some v) ∧ ∀ w, Up w0 w → Oper.quietUpon P (Up w) w v ((execOp a.eval ⟨dst, op, ty, pos, after, guard⟩).run P w) := by
    intro H
    obtain ⟨v, hk, hr⟩ := vcPure_sound hA H
    exact ⟨v, hk, fun w hw => by rw [hr w hw.2]; exact ⟨rfl, rfl⟩⟩
  cases op with
  | call c =>
    obtain ⟨callee, args, tys⟩ := c
    simp only [vcQo] at H
    split at H
    · rename_i f
      split at H
      case h_2 => exact H.elim
      rename_i g first captured vs hf hv
      obtain ⟨u, hc, hk⟩ := withSh_some H
      refine ⟨u, hk, fun w hw => ?_⟩
      have e1 := opv_eval hA hf
      have e2 := opvs_arr hA hv
      have harr : (first.toList ++ vs ++ captured.toList).toArray = first ++ vs.toArray ++ captured := by apply Array.ext'; simp
      rw [harr] at hc
      have hr : execOp a.eval ⟨dst, .call { callee := .value f, args, argTypes := tys }, ty, pos, after, guard⟩ = callFunc g (first ++ vs.toArray ++ captured) := by
        simp only [execOp, resolve, e1, e2, Deferred.ofValue]
        rfl
      rw [hr]
      obtain ⟨h1, hC⟩ := hc w.heap hw.2 w rfl
      rw [h1]
      exact ⟨rfl, hC.mono fun en w' ⟨v, he, hkn, hvu, hcl⟩ => ⟨by rw [he, hvu], hkn, hcl⟩⟩
    · exact pure_ H
  | lookup t x i ok =>
    simp only [vcQo] at H
    split at H
    case h_2 => exact H.elim
    rename_i m k hx hi
    obtain ⟨u, hr, hk⟩ := withSh_some H
    refine ⟨u, hk, fun w hw => ?_⟩
    simp only [execOp, opv_eval hA hx, opv_eval hA hi, Sem.run_bind, hr w hw.2, Result.andThen_ok, Sem.run_pure]
    exact ⟨rfl, rfl⟩
  | build t parts =>
    simp only [vcQo] at H
    obtain ⟨v, hk, hr⟩ := buildV_sound hA H
    refine ⟨v, hk, fun w hw => ?_⟩
    simp only [execOp, Sem.run_bind, hr w, Result.andThen_ok, Sem.run_pure]
    exact ⟨rfl, rfl⟩
  | _ => exact pure_ H

theorem vcQ_up {A : Ann} {all : List Oper} {W : List Nat} {w0 : World} {h : Heap} {K : Env → Prop} {E : Act → Prop} : ∀ (l : List Oper) {e : Env} {a : Act},
    (∀ o ∈ l, ∀ n, o.dst = some n → n ∈ W) → Agree e a.tmps → a.defers = D → w0.heap = h → (∀ e' a', Agree e' a'.tmps → a'.defers = D → Off W a a' → K e' → E a') → vcQ P A true all l e h K → wpU P all.toArray w0 E l a
  | [], e, a, _, hA, hdf, _, hB, H => hB e a hA hdf (Off.refl _ _) H
  | o :: r, e, a, hW, hA, hdf, hw0, hB, H => by
    have rest : ∀ {e' : Env} {u : Value}, Agree e' (a.put o.dst u).tmps → vcQ P A true all r e' h K → wpU P all.toArray w0 E r (a.put o.dst u) :=
      fun hA' H' => vcQ_up r (fun p hp => hW p (by simp [hp])) hA' (by rw [put_defers]; exact hdf) hw0 (fun e2 a2 g1 g2 g3 g4 => hB e2 a2 g1 g2 ((Off.put a o.dst _ (hW o (by simp))).trans g3) g4) H'
    have run : ∀ {e1 : Env}, Agree e1 a.tmps → Region.wanted o (yielded all.toArray a.tmps) = true → (vcQo P A true o e1 h fun v => vcQ P A true all r (Env.put e1 o.dst v) h K) → wpU P all.toArray w0 E (o :: r) a := by
      intro e1 hA1 hwt H1
      obtain ⟨v, hk, hq⟩ := vcQo_up hA1 hw0 H1
      exact ⟨v, .inl ⟨hwt, hq⟩, rest (hA1.put' o.dst v (.inr rfl)) hk⟩
    have skip : ∀ {e1 : Env}, Agree e1 a.tmps → Region.wanted o (yielded all.toArray a.tmps) = false → vcQ P A true all r (Env.put e1 o.dst (some undef)) h K → wpU P all.toArray w0 E (o :: r) a :=
      fun hA1 hwt H1 => ⟨undef, .inr ⟨hwt, rfl⟩, rest (hA1.put' o.dst undef (.inr rfl)) H1⟩
    simp only [vcQ, withEnv_eq] at H
    split at H
    · rename_i hg
      exact run hA (by simp [Region.wanted, hg]) H
    · rename_i j want hg
      split at H
      case h_2 => exact H.elim
      rename_i d hd
      have hd' : (all.toArray[j]?).bind (·.dst) = some d := by simpa using hd
      split at H
      · rename_i b hb
        have hy := yielded_bool hA hd' hb
        split at H
        · cases b
          · exact skip (hA.lit hb rfl) (by simp [Region.wanted, hg, hy]) H
          · exact run (hA.lit hb rfl) (by simp [Region.wanted, hg, hy]) H
        · cases b
          · exact run (hA.lit hb rfl) (by simp [Region.wanted, hg, hy]) H
          · exact skip (hA.lit hb rfl) (by simp [Region.wanted, hg, hy]) H
      · rename_i vs hb
        have hy := yielded_tuple hA hd' hb
        exact skip hA (by simp [Region.wanted, hg, hy]) H
      · exact H.elim

theorem vcA_sound {o : Oper} {e : Env} {a : Act} {w0 : World} {all : Array Oper} {f : Obj → (Nat → Value) → Prop} (hA : Agree e a.tmps) (hg : o.guard = none) (H : vcA P o e f) :
    ∃ ob mk, EY P all w0 o ob mk a ∧ f ob mk := by
  have go : ∀ (ob : Obj) (mk : Nat → Value), (∀ w, ∃ w', (execOp a.eval o).run P w = .ok (.value (mk w.heap.size)) w' ∧ w'.heap = w.heap.push ob ∧ Kin w w') → f ob mk → ∃ ob mk, EY P all w0 o ob mk a ∧ f ob mk :=
    fun ob mk h1 h2 => ⟨ob, mk, ⟨by simp [Region.wanted, hg], fun w _ => h1 w⟩, h2⟩
  obtain ⟨dst, op, ty, pos, after, guard⟩ := o
  cases op <;> simp only [vcA] at H
  case alloc t =>
    split at H
    case h_2 => exact H.elim
    rename_i z hz
    exact go _ _ (fun w => ⟨{ w with heap := w.heap.push (.cells z.cells t) }, by simp [execOp, Instr.alloc, run_zero hz, newVar, newRow], rfl, ⟨rfl, rfl, rfl, by first | exact Nat.le_refl _ | exact Nat.le_succ _⟩⟩) H
  case box t x =>
    split at H
    case h_2 => exact H.elim
    rename_i v hv
    exact go _ _ (fun w => ⟨{ w with heap := w.heap.push (.cells v.cells t) }, by simp [execOp, Instr.box, opv_eval hA hv, newVar, newRow], rfl, ⟨rfl, rfl, rfl, by first | exact Nat.le_refl _ | exact Nat.le_succ _⟩⟩) H
  case buildSlice t len parts =>
    split at H
    case h_2 => exact H.elim
    rename_i el vs ht hv
    split at H
    case h_2 => exact H.elim
    rename_i z hl hz
    have hlen := Nat.eq_of_beq_eq_true hl
    have e1 : (parts.map fun (i, x) => (i, a.eval x)) = vs.toArray := by
      apply Array.ext'
      have := partsV_eval hA hv
      simpa using this
    obtain ⟨i, hi, hiz⟩ := info_of hz
    obtain ⟨⟨hsz, hk⟩, hf⟩ := seqParts_sound vs 0 len (((Array.range (len * P.cellsOf el)).map ((if len * P.cellsOf el = 0 then #[] else z.cells)[· % (if len * P.cellsOf el = 0 then #[] else z.cells).size]!)).toList) (by omega) (by simp) H
    simp only [Array.toArray_toList, Nat.zero_mul, List.take_zero, List.nil_append] at hf
    refine go _ _ (fun w => ⟨{ w with heap := w.heap.push (.cells (catCells vs).toArray el) }, ?_, rfl, ⟨rfl, rfl, rfl, by first | exact Nat.le_refl _ | exact Nat.le_succ _⟩⟩) hk
    have hle : ¬ (len * P.cellsOf el > 2 ^ 24) := by
      have e : (2 : Nat) ^ 24 = 16777216 := by decide
      omega
    simp only [execOp, Instr.buildSlice, Sem.run_bind, run_und ht, Result.andThen_ok, run_sizeI hi, if_neg hle, e1]
    by_cases h0 : len * P.cellsOf el = 0
    · simp only [h0, if_true] at hf ⊢
      simp at hf
      simp [hf, newRow]
    · simp only [h0, if_false] at hf ⊢
      simp [run_zero hz, hf, newRow]
  all_goals exact H.elim

theorem Ext.none (h : Heap) : Ext #[] h := ⟨Nat.zero_le _, fun k hk => by simp at hk⟩
theorem vcGuard_sound {all : List Oper} {o : Oper} {e : Env} {run skip : Env → Prop} {a : Act} (hA : Agree e a.tmps) (H : vcGuard all o e run skip) :
    ∃ e1, Agree e1 a.tmps ∧ ((Region.wanted o (yielded all.toArray a.tmps) = true ∧ run e1) ∨ (Region.wanted o (yielded all.toArray a.tmps) = false ∧ skip e1)) := by
  unfold vcGuard at H
  split at H
  · rename_i hg
    exact ⟨e, hA, .inl ⟨by simp [Region.wanted, hg], H⟩⟩
  · rename_i j want hg
    split at H
    case h_2 => exact H.elim
    rename_i d hd
    have hd' : (all.toArray[j]?).bind (·.dst) = some d := by simpa using hd
    split at H
    · rename_i b hb
      have hy := yielded_bool hA hd' hb
      split at H
      · cases b
        · exact ⟨_, hA.lit hb rfl, .inr ⟨by simp [Region.wanted, hg, hy], H⟩⟩
        · exact ⟨_, hA.lit hb rfl, .inl ⟨by simp [Region.wanted, hg, hy], H⟩⟩
      · cases b
        · exact ⟨_, hA.lit hb rfl, .inl ⟨by simp [Region.wanted, hg, hy], H⟩⟩
        · exact ⟨_, hA.lit hb rfl, .inr ⟨by simp [Region.wanted, hg, hy], H⟩⟩
    · rename_i vs hb
      have hy := yielded_tuple hA hd' hb
      exact ⟨e, hA, .inr ⟨by simp [Region.wanted, hg, hy], H⟩⟩
    · exact H.elim
theorem vcMq_sound {A : Ann} {Rl : Heap → Heap → Prop} {o : Oper} {e : Env} {h : Heap} {K : Option Value → Prop} {a : Act} (hA : Agree e a.tmps) (H : vcMq P A Rl o e h K) :
    ∃ v, K (some v) ∧ ∀ w : World, Rl h w.heap → (execOp a.eval o).run P w = .ok (.value v) w := by
  obtain ⟨dst, op, ty, pos, after, guard⟩ := o
  have pure_ : vcPure P A ⟨dst, op, ty, pos, after, guard⟩ e #[] K → ∃ v, K (some v) ∧ ∀ w : World, Rl h w.heap → (execOp a.eval ⟨dst, op, ty, pos, after, guard⟩).run P w = .ok (.value v) w := by
    intro H
    obtain ⟨v, hk, hr⟩ := vcPure_sound hA H
    exact ⟨v, hk, fun w _ => hr w (Ext.none _)⟩
  cases op with
  | load t x =>
    simp only [vcMq] at H
    split at H
    case h_2 => exact H.elim
    rename_i ad hx
    obtain ⟨u, hr, hk⟩ := withSh_some H
    exact ⟨u, hk, fun w hw => by simp [execOp, opv_eval hA hx, Instr.loadAt, Instr.sureAddr, Sem.run_bind, hr w hw]⟩
  | lookup t x i ok =>
    simp only [vcMq] at H
    split at H
    case h_2 => exact H.elim
    rename_i m k hx hi
    obtain ⟨u, hr, hk⟩ := withSh_some H
    exact ⟨u, hk, fun w hw => by simp [execOp, opv_eval hA hx, opv_eval hA hi, hr w hw]⟩
  | build t parts =>
    simp only [vcMq] at H
    obtain ⟨v, hk, hr⟩ := buildV_sound hA H
    exact ⟨v, hk, fun w _ => by simp [execOp, hr w]⟩
  | convert s d x =>
    simp only [vcMq] at H
    split at H
    · rename_i p l c hx
      split at H
      · obtain ⟨u, hr, hk⟩ := withSh_some H
        exact ⟨u, hk, fun w hw => by simp [execOp, opv_eval hA hx, hr w hw]⟩
      · exact pure_ H
    · exact pure_ H
  | _ => exact pure_ H
theorem vcMe_sound {A : Ann} {Rl : Heap → Heap → Prop} {all : List Oper} {o : Oper} {e : Env} {h : Heap} {a : Act} {w : World} {K : Env → Heap → Prop} {L : Act → World → Prop}
    (hA : Agree e a.tmps) (hw : w.heap = h)
    (rest : ∀ {e' : Env} {u : Value} {w' : World}, Agree e' (a.put o.dst u).tmps → Kin w w' → K e' w'.heap → L (a.put o.dst u) w')
    (H : vcGuard all o e (fun e1 => vcEff P A o e1 h fun v h' => Rl h h' ∧ withEnv (Env.put e1 o.dst v) fun e2 => K e2 h') (fun e1 => withEnv (Env.put e1 o.dst (some undef)) fun e2 => K e2 h)) : GStep P all.toArray Rl o a w L := by
  obtain ⟨e1, hA1, ⟨hwt, H1⟩ | ⟨hwt, H1⟩⟩ := vcGuard_sound hA H
  · refine .inl ⟨hwt, ?_⟩
    refine vcEff_sound hA1 hw (fun v u w' hv hu hk => ?_) H1
    obtain ⟨h1, h2⟩ := hv
    rw [withEnv_eq] at h2
    exact ⟨u, rfl, ⟨hk, by rw [hw]; exact h1⟩, rest (hA1.put' o.dst u hu) hk h2⟩
  · rw [withEnv_eq] at H1
    exact .inr ⟨hwt, rest (hA1.put' o.dst undef (.inr rfl)) (Kin.refl w) (by rw [hw]; exact H1)⟩
theorem vcM_sound {A : Ann} {Rl : Heap → Heap → Prop} (hr : ∀ h, Rl h h) {all : List Oper} {W : List Nat} {Q : Exit → Act → World → Prop} {K : Env → Heap → Prop} (hW : ∀ o ∈ all, ∀ n, o.dst = some n → n ∈ W) : ∀ (s : Mix) {e : Env} {h : Heap} {a : Act} {w : World},
    Agree e a.tmps → w.heap = h → a.defers = D → Behind D w a W K (fun a w => Q .normal a w) → vcM P A Rl all s e h K → wpMix P all.toArray Rl (fun a w => Q .normal a w) s a w
  | .done, e, h, a, w, hA, hw, hdf, hB, H => hB e a w hA (by rw [hw]; exact H) (Kin.refl w) hdf (Off.refl _ _)
  | .quiet i r, e, h, a, w, hA, hw, hdf, hB, H => by
    simp only [vcM] at H
    split at H
    · exact H.elim
    rename_i o ho
    have ho' : all.toArray[i]? = some o := by simpa using ho
    have hmem : o ∈ all := List.mem_of_getElem? ho
    have rest : ∀ {e' : Env} {u : Value} {w' : World} {h' : Heap}, Agree e' (a.put o.dst u).tmps → w'.heap = h' → Kin w w' → vcM P A Rl all r e' h' K → wpMix P all.toArray Rl (fun a w => Q .normal a w) r (a.put o.dst u) w' :=
      fun hA' hw' hk H' => vcM_sound hr hW r hA' hw' (by rw [put_defers]; exact hdf) (fun e2 a2 w2 g1 g2 g3 g4 g5 => hB e2 a2 w2 g1 g2 (hk.trans g3) g4 ((Off.put a o.dst _ (hW o hmem)).trans g5)) H'
    obtain ⟨e1, hA1, ⟨hwt, H1⟩ | ⟨hwt, H1⟩⟩ := vcGuard_sound hA H
    · obtain ⟨v, hk, hrun⟩ := vcMq_sound hA1 H1
      rw [withEnv_eq] at hk
      exact ⟨o, v, ho', .inl ⟨hwt, fun w' hw' => hrun w' (by rw [← hw]; exact hw')⟩, rest (hA1.put' o.dst v (.inr rfl)) hw (Kin.refl w) hk⟩
    · rw [withEnv_eq] at H1
      exact ⟨o, undef, ho', .inr ⟨hwt, rfl⟩, rest (hA1.put' o.dst undef (.inr rfl)) hw (Kin.refl w) H1⟩
  | .one i r, e, h, a, w, hA, hw, hdf, hB, H => by
    simp only [vcM] at H
    split at H
    · exact H.elim
    rename_i o ho
    have ho' : all.toArray[i]? = some o := by simpa using ho
    have hmem : o ∈ all := List.mem_of_getElem? ho
    exact ⟨o, ho', vcMe_sound (K := fun e2 h' => vcM P A Rl all r e2 h' K) hA hw (fun hA' hk H' => vcM_sound hr hW r hA' rfl (by rw [put_defers]; exact hdf) (fun e2 a2 w2 g1 g2 g3 g4 g5 => hB e2 a2 w2 g1 g2 (hk.trans g3) g4 ((Off.put a o.dst _ (hW o hmem)).trans g5)) H') H⟩
  | .two i r j s, e, h, a, w, hA, hw, hdf, hB, H => by
    simp only [vcM] at H
    split at H
    case h_2 => exact H.elim
    rename_i o o' ho ho2
    have ho' : all.toArray[i]? = some o := by simpa using ho
    have ho2' : all.toArray[j]? = some o' := by simpa using ho2
    have hmem : o ∈ all := List.mem_of_getElem? ho
    have hmem2 : o' ∈ all := List.mem_of_getElem? ho2
    exact ⟨⟨o, ho', vcMe_sound (K := fun e2 h' => vcM P A Rl all r e2 h' K) hA hw (fun hA' hk H' => vcM_sound hr hW r hA' rfl (by rw [put_defers]; exact hdf) (fun e2 a2 w2 g1 g2 g3 g4 g5 => hB e2 a2 w2 g1 g2 (hk.trans g3) g4 ((Off.put a o.dst _ (hW o hmem)).trans g5)) H') H.1⟩,
      ⟨o', ho2', vcMe_sound (K := fun e2 h' => vcM P A Rl all s e2 h' K) hA hw (fun hA' hk H' => vcM_sound hr hW s hA' rfl (by rw [put_defers]; exact hdf) (fun e2 a2 w2 g1 g2 g3 g4 g5 => hB e2 a2 w2 g1 g2 (hk.trans g3) g4 ((Off.put a o'.dst _ (hW o' hmem2)).trans g5)) H') H.2⟩⟩
  | .three i r j s k u, e, h, a, w, hA, hw, hdf, hB, H => by
    simp only [vcM] at H
    split at H
    case h_2 => exact H.elim
    rename_i o o' o3 ho ho2 ho3
    have ho' : all.toArray[i]? = some o := by simpa using ho
    have ho2' : all.toArray[j]? = some o' := by simpa using ho2
    have ho3' : all.toArray[k]? = some o3 := by simpa using ho3
    have hmem : o ∈ all := List.mem_of_getElem? ho
    have hmem2 : o' ∈ all := List.mem_of_getElem? ho2
    have hmem3 : o3 ∈ all := List.mem_of_getElem? ho3
    exact ⟨⟨o, ho', vcMe_sound (K := fun e2 h' => vcM P A Rl all r e2 h' K) hA hw (fun hA' hk H' => vcM_sound hr hW r hA' rfl (by rw [put_defers]; exact hdf) (fun e2 a2 w2 g1 g2 g3 g4 g5 => hB e2 a2 w2 g1 g2 (hk.trans g3) g4 ((Off.put a o.dst _ (hW o hmem)).trans g5)) H') H.1⟩,
      ⟨o', ho2', vcMe_sound (K := fun e2 h' => vcM P A Rl all s e2 h' K) hA hw (fun hA' hk H' => vcM_sound hr hW s hA' rfl (by rw [put_defers]; exact hdf) (fun e2 a2 w2 g1 g2 g3 g4 g5 => hB e2 a2 w2 g1 g2 (hk.trans g3) g4 ((Off.put a o'.dst _ (hW o' hmem2)).trans g5)) H') H.2.1⟩,
      ⟨o3, ho3', vcMe_sound (K := fun e2 h' => vcM P A Rl all u e2 h' K) hA hw (fun hA' hk H' => vcM_sound hr hW u hA' rfl (by rw [put_defers]; exact hdf) (fun e2 a2 w2 g1 g2 g3 g4 g5 => hB e2 a2 w2 g1 g2 (hk.trans g3) g4 ((Off.put a o3.dst _ (hW o3 hmem3)).trans g5)) H') H.2.2⟩⟩
  | .last i r, e, h, a, w, hA, hw, hdf, hB, H => by
    simp only [vcM] at H
    split at H
    · exact H.elim
    rename_i o ho
    have ho' : all.toArray[i]? = some o := by simpa using ho
    have hmem : o ∈ all := List.mem_of_getElem? ho
    exact ⟨o, ho', vcMe_sound (Rl := fun _ _ => True) (K := fun e2 h' => vcM P A Rl all r e2 h' K) hA hw (fun hA' hk H' => vcM_sound hr hW r hA' rfl (by rw [put_defers]; exact hdf) (fun e2 a2 w2 g1 g2 g3 g4 g5 => hB e2 a2 w2 g1 g2 (hk.trans g3) g4 ((Off.put a o.dst _ (hW o hmem)).trans g5)) H') H⟩

/-- Every region that draws is of one of the two forms that its annotation names. -/
def drawsOk (A : Ann) : Code → Bool
  | .region id ops true => match ann A.draws id with
    | some (m, n) => match Nat.beq m 3 with
      | true => match ann A.mixes id with
        | some s => Region.noSelect ops.toList.toArray && Nat.beq s.len ops.toList.length && mixB .any ops.toList.toArray s (Array.replicate ops.toList.toArray.size false)
        | none => true
      | false => match Nat.beq n ops.toList.length with
      | true => Region.lexB .any ops
      | false => match Nat.beq m 2 with
        | false => Region.lexTailB .any ops n
        | true => lexNewB .any ops n
    | none => true
  | .seq a b => drawsOk A a && drawsOk A b
  | .cond _ a b => drawsOk A a && drawsOk A b
  | .block _ b => drawsOk A b
  | .loop b => drawsOk A b
  | .scope b => drawsOk A b
  | _ => true

/-- what a region comes to, in sequence or drawn -/
def RegP (P : Program) (ops : Array Oper) (draw : Bool) (Q : Exit → Act → World → Prop) (a : Act) (w : World) : Prop :=
  match draw with
  | false => wpList P ops.toList.toArray Q ops.toList a w
  | true => wpAny P .any ops Q ops.size (Array.replicate ops.size false) a { w with drawn := w.drawn + 1 }
theorem vcRegion_any {A : Ann} {id : Nat} {ops : Array Oper} {draw : Bool} {e : Env} {h : Heap} {K : Env → Heap → Prop} {Q : Exit → Act → World → Prop} {a : Act} {w : World}
    (hy : draw = false → A.yld = false) (hok : drawsOk A (.region id ops draw) = true) (hA : Agree e a.tmps) (hw : w.heap = h) (hdf : a.defers = D) (hB : Behind D w a (ops.toList.filterMap (·.dst)) K (fun a w => Q .normal a w)) (hP : Pan A D w a (ops.toList.filterMap (·.dst)) Q) (H : vcRegion P A id ops.toList draw e h K) :
    RegP P ops draw Q a w := by
  have hW : ∀ o ∈ ops.toList, ∀ n, o.dst = some n → n ∈ ops.toList.filterMap (·.dst) := fun o ho n hn => List.mem_filterMap.2 ⟨o, ho, hn⟩
  cases draw with
  | false =>
    simp only [vcRegion] at H
    split at H
    · exact H.elim
    · exact vcOps_sound (hy rfl) ops.toList hW hA hw hdf hB hP H
  | true =>
    show wpAny P .any ops Q ops.size (Array.replicate ops.size false) a { w with drawn := w.drawn + 1 }
    simp only [vcRegion] at H
    split at H
    case h_2 => exact H.elim
    rename_i m n hd
    simp only [drawsOk, hd] at hok
    have hc0 : ClsW (Nat.beq m 1) w h { w with drawn := w.drawn + 1 } := ⟨⟨rfl, rfl, rfl, by first | exact Nat.le_refl _ | exact Nat.le_succ _⟩, by
      show Cls _ h w.heap
      rw [hw]
      unfold Cls
      split
      · exact Ext.refl _
      · rfl⟩
    split at H
    · rename_i hm3
      simp only [hm3] at hok
      split at H
      case h_2 => exact H.elim
      rename_i s hs
      simp only [hs] at hok
      obtain ⟨Rl, hr, ht, H⟩ := H
      have := any_region_mix (P := P) (Q := Q) (a := a) (w := w) (l := ops.toList) s hr ht hok
        (vcM_sound (w := { w with drawn := w.drawn + 1 }) hr hW s hA hw hdf (fun e2 a2 w2 g1 g2 g3 g4 g5 => hB e2 a2 w2 g1 g2 (Kin.trans (b := { w with drawn := w.drawn + 1 }) ⟨rfl, rfl, rfl, by first | exact Nat.le_refl _ | exact Nat.le_succ _⟩ g3) g4 g5) H)
      simpa using this
    rename_i hm3
    simp only [hm3] at hok
    split at H
    · rename_i hn
      rw [hn] at hok
      refine any_region_quiet (C := ClsW (Nat.beq m 1) w h) hok hc0 ?_
      exact vcQ_sound ops.toList hW hA hdf (fun e' a' hA' hd' ho hK w' hw' => hB e' a' w' hA' (hK _ hw'.2) hw'.1 hd' ho) H
    · rename_i hn
      rw [hn] at hok
      split at H
      case h_2 =>
        rename_i hm2
        simp only [hm2] at hok
        split at H
        case h_2 => exact H.elim
        rename_i o ho
        split at H
        case h_2 => exact H.elim
        rename_i hg
        have := any_region_new (P := P) (Q := Q) (a := a) (w := w) (l := ops.toList) n ho hok
          (vcQ_up (ops.toList.take n) (fun o ho => hW o (List.mem_of_mem_take ho)) hA hdf hw (fun e' a' hA' hd' hof hK => by
            obtain ⟨ob, mk, hey, hf⟩ := vcA_sound (w0 := { w with drawn := w.drawn + 1 }) (all := ops.toList.toArray) hA' hg hK
            refine ⟨ob, mk, hey, fun b w' hu hb hbo => ?_⟩
            have hmem : o ∈ ops.toList := List.mem_of_getElem? ho
            refine vcOps_sound (A := A.still) rfl (ops.toList.drop (n + 1)) (fun o ho => hW o (List.mem_of_mem_drop ho)) (hA'.put' o.dst (mk b) (.inr rfl)) rfl (by rw [put_defers]; exact hd') (fun e2 a2 w2 g1 g2 g3 g4 g5 => hB e2 a2 w2 g1 g2 (Kin.trans (b := { w with drawn := w.drawn + 1 }) ⟨rfl, rfl, rfl, by first | exact Nat.le_refl _ | exact Nat.le_succ _⟩ (hu.1.trans g3)) g4 (hof.trans ((Off.put a' o.dst _ (hW o hmem)).trans g5))) (hP.from_ (Kin.trans (b := { w with drawn := w.drawn + 1 }) ⟨rfl, rfl, rfl, by first | exact Nat.le_refl _ | exact Nat.le_succ _⟩ hu.1) (hof.trans (Off.put a' o.dst _ (hW o hmem))) (fun _ h => h) (fun _ _ _ h => h)) (by have := hf b w'.heap (by rw [← hw]; exact hb) (by rw [← hw]; exact hu.2) hbo; rwa [withEnv_eq] at this)) H)
        simpa using this
      rename_i hm2
      simp only [hm2] at hok
      have := any_region_quiet_tail (P := P) (Q := Q) (a := a) (w := w) (l := ops.toList) (C := ClsW (Nat.beq m 1) w h) n hok hc0
        (vcQ_sound (ops.toList.take n) (fun o ho => hW o (List.mem_of_mem_take ho)) hA hdf (fun e' a' hA' hd' ho hK w' hw' => vcOps_sound (A := A.still) rfl (ops.toList.drop n) (fun o ho => hW o (List.mem_of_mem_drop ho)) hA' rfl hd' (fun e2 a2 w2 g1 g2 g3 g4 g5 => hB e2 a2 w2 g1 g2 (hw'.1.trans g3) g4 (ho.trans g5)) (hP.from_ hw'.1 ho (fun _ h => h) (fun _ _ _ h => h)) (hK _ hw'.2)) H)
      simpa using this

theorem vcRegion_sound {A : Ann} {id : Nat} {ops : Array Oper} {draw : Bool} {e : Env} {h : Heap} {K : Env → Heap → Prop} {Q : Exit → Act → World → Prop} {a : Act} {w : World}
    (hm : P.follows .mixedOrders = true) (hy : A.yld = false) (hok : drawsOk A (.region id ops draw) = true) (hA : Agree e a.tmps) (hw : w.heap = h) (hdf : a.defers = D) (hB : Behind D w a (ops.toList.filterMap (·.dst)) K (fun a w => Q .normal a w)) (hP : Pan A D w a (ops.toList.filterMap (·.dst)) Q) (H : vcRegion P A id ops.toList draw e h K) :
    (Code.region id ops draw).wp P Q a w := by
  have := vcRegion_any (id := id) (fun _ => hy) hok hA hw hdf hB hP H
  cases draw with
  | false => exact wp_region_list (by simpa [RegP] using this)
  | true => exact wp_region_any hm this

/-! ### code -/
def exOf : Exit → Option Ex
  | .normal => some .normal
  | .exit i => some (.exit i)
  | .goto l => some (.goto l)
  | .ret => some .ret
  | _ => none
/-- What the machine's exits are to answer, by the conditions' own. -/
def Answers (D : List Deferred) (w0 : World) (a0 : Act) (W : List Nat) (Qv : Ex → Env → Heap → Prop) (Q : Exit → Act → World → Prop) : Prop :=
  ∀ x ex e a w, exOf ex = some x → Agree e a.tmps → Qv x e w.heap → Kin w0 w → a.defers = D → Off W a0 a → Q ex a w

theorem kills_spec : ∀ (l : List Nat) (e : Env) (n : Nat) (v : Value), Env.get (kills l e) n = some v → Env.get e n = some v ∧ n ∉ l
  | [], e, n, v, h => ⟨h, by simp⟩
  | d :: r, e, n, v, h => by
    obtain ⟨h1, h2⟩ := kills_spec r (Env.set e d none) n v h
    by_cases hdn : d = n
    · subst hdn
      have := Env.get_lt h1
      rw [Env.set_length] at this
      rw [Env.get_set_same _ _ _ this] at h1
      cases h1
    · rw [Env.get_set_ne _ _ _ _ hdn] at h1
      exact ⟨h1, by simp; exact ⟨fun h => hdn h.symm, h2⟩⟩
theorem kills_length : ∀ (l : List Nat) (e : Env), (kills l e).length = e.length
  | [], _ => rfl
  | d :: r, e => by rw [kills, kills_length, Env.set_length]

/-- the values in an environment's slots, put into another one -/
def carry (l : List (Nat × Sh)) (e' : Env) (e : Env) : Env := l.foldl (fun e p => Env.set e p.1 (Env.get e' p.1)) e

theorem allIn_use : ∀ (l : List (Nat × Sh)) (I : Inv l) (e' e : Env) (h : Heap) (f : Env → Prop), invAt l I e' h → allIn l e f → f (carry l e' e)
  | [], _, _, _, _, _, _, hf => by rw [allIn, withEnv_eq] at hf; exact hf
  | (d, .int k) :: r, I, e', e, h, f, hi, hf => by
    simp only [invAt] at hi
    split at hi
    case h_2 => exact hi.elim
    rename_i hg
    obtain ⟨hk, hi2⟩ := ifK_out hi
    subst hk
    simp only [carry, List.foldl_cons, hg]
    exact allIn_use r _ e' _ h f hi2 (hf _)
  | (d, .slice) :: r, I, e', e, h, f, hi, hf => by
    simp only [invAt] at hi
    split at hi
    case h_2 => exact hi.elim
    rename_i hg
    simp only [carry, List.foldl_cons, hg]
    exact allIn_use r _ e' _ h f hi (hf _ _ _)
  | (d, .bool) :: r, I, e', e, h, f, hi, hf | (d, .str) :: r, I, e', e, h, f, hi, hf | (d, .ptr) :: r, I, e', e, h, f, hi, hf | (d, .map) :: r, I, e', e, h, f, hi, hf
  | (d, .any) :: r, I, e', e, h, f, hi, hf | (d, .agg _) :: r, I, e', e, h, f, hi, hf | (d, .struct _) :: r, I, e', e, h, f, hi, hf | (d, .tuple _) :: r, I, e', e, h, f, hi, hf => by
    simp only [invAt] at hi
    split at hi
    case h_2 => exact hi.elim
    rename_i hg
    simp only [carry, List.foldl_cons, hg]
    exact allIn_use r _ e' _ h f hi (hf _)

theorem carry_get : ∀ (l : List (Nat × Sh)) (e' e : Env) (n : Nat) (v : Value), Env.get (carry l e' e) n = some v → Env.get e' n = some v ∨ Env.get e n = some v
  | [], _, _, _, _, h => .inr h
  | (d, s) :: r, e', e, n, v, h => by
    simp only [carry, List.foldl_cons] at h
    rcases carry_get r e' _ n v h with h | h
    · exact .inl h
    · by_cases hdn : d = n
      · subst hdn
        have := Env.get_lt h
        rw [Env.set_length] at this
        rw [Env.get_set_same _ _ _ this] at h
        exact .inl h
      · rw [Env.get_set_ne _ _ _ _ hdn] at h; exact .inr h
theorem carry_length : ∀ (l : List (Nat × Sh)) (e' e : Env), (carry l e' e).length = e.length
  | [], _, _ => rfl
  | (d, s) :: r, e', e => by simp only [carry, List.foldl_cons]; exact (carry_length r e' _).trans (Env.set_length _ _ _)

theorem Agree.carry {l : List (Nat × Sh)} {W : List Nat} {e e' : Env} {a0 a' : Act} (hA : Agree e a0.tmps) (hA' : Agree e' a'.tmps) (ho : Off W a0 a') : Agree (carry l e' (kills W e)) a'.tmps := by
  refine ⟨by rw [carry_length, kills_length, hA.1, ho.size], fun n v hn => ?_⟩
  rcases carry_get l e' _ n v hn with h | h
  · exact hA'.2 n v h
  · obtain ⟨h1, h2⟩ := kills_spec W e n v h
    rw [ho.get n h2]; exact hA.2 n v h1

/-- the measure, of a frame -/
def measOf : (l : List (Nat × Sh)) → Meas l → (Nat → Value) → Heap → Nat
  | [], M, _, h => M h
  | (d, .int _) :: r, M, g, h => match g d with
    | .int _ n => measOf r (M n) g h
    | _ => 0
  | (d, .bool) :: r, M, g, h => match g d with
    | .bool b => measOf r (M b) g h
    | _ => 0
  | (d, .str) :: r, M, g, h => match g d with
    | .string s => measOf r (M s) g h
    | _ => 0
  | (d, .ptr) :: r, M, g, h => match g d with
    | .pointer a => measOf r (M a) g h
    | _ => 0
  | (d, .slice) :: r, M, g, h => match g d with
    | .slice a l c => measOf r (M a l c) g h
    | _ => 0
  | (d, .map) :: r, M, g, h => match g d with
    | .map m => measOf r (M m) g h
    | _ => 0
  | (d, .any) :: r, M, g, h | (d, .agg _) :: r, M, g, h | (d, .struct _) :: r, M, g, h | (d, .tuple _) :: r, M, g, h => measOf r (M (g d)) g h
theorem measAt_of : ∀ (l : List (Nat × Sh)) (M : Meas l) {e : Env} {t : Array Value} {h : Heap} {f : Nat → Prop}, Agree e t → measAt l M e h f → f (measOf l M (fun n => t.getD n undef) h)
  | [], _, _, _, _, _, _, H => H
  | (d, .int _) :: r, M, e, t, h, f, hA, H | (d, .bool) :: r, M, e, t, h, f, hA, H | (d, .str) :: r, M, e, t, h, f, hA, H | (d, .ptr) :: r, M, e, t, h, f, hA, H
  | (d, .slice) :: r, M, e, t, h, f, hA, H | (d, .map) :: r, M, e, t, h, f, hA, H
  | (d, .any) :: r, M, e, t, h, f, hA, H | (d, .agg _) :: r, M, e, t, h, f, hA, H | (d, .struct _) :: r, M, e, t, h, f, hA, H | (d, .tuple _) :: r, M, e, t, h, f, hA, H => by
    simp only [measAt] at H
    split at H
    case h_2 => exact H.elim
    rename_i hg
    simp only [measOf, hA.2 d _ hg]
    exact measAt_of r _ hA H

theorem carry_mem : ∀ (l : List (Nat × Sh)) (e' e : Env) (d : Nat), d ∈ l.map Prod.fst ∨ Env.get e d = Env.get e' d → d < e.length → Env.get (carry l e' e) d = Env.get e' d
  | [], e', e, d, h, _ => by simpa [carry] using h
  | (c, s) :: r, e', e, d, h, hlt => by
    simp only [carry, List.foldl_cons]
    refine carry_mem r e' (Env.set e c (Env.get e' c)) d ?_ (by rw [Env.set_length]; exact hlt)
    by_cases hcd : c = d
    · subst hcd; exact .inr (Env.get_set_same _ _ _ hlt)
    · rcases h with h | h
      · simp only [List.map_cons, List.mem_cons] at h
        rcases h with h | h
        · exact absurd h.symm hcd
        · exact .inl h
      · exact .inr (by rw [Env.get_set_ne _ _ _ _ hcd]; exact h)
theorem invAt_congr : ∀ (l : List (Nat × Sh)) (I : Inv l) {e1 e2 : Env} {h : Heap}, (∀ d, d ∈ l.map Prod.fst → Env.get e1 d = Env.get e2 d) → invAt l I e1 h → invAt l I e2 h
  | [], _, _, _, _, _, H => H
  | (d, .int _) :: r, I, e1, e2, h, hc, H => by
    simp only [invAt] at H ⊢
    rw [← hc d (by simp)]
    split at H
    · rename_i hg
      obtain ⟨hk, H2⟩ := ifK_out H
      simp only [hg, ifK, if_pos hk]
      exact invAt_congr r _ (fun d hd => hc d (by simp [hd])) H2
    · exact H.elim
  | (d, .bool) :: r, I, e1, e2, h, hc, H | (d, .str) :: r, I, e1, e2, h, hc, H | (d, .ptr) :: r, I, e1, e2, h, hc, H
  | (d, .slice) :: r, I, e1, e2, h, hc, H | (d, .map) :: r, I, e1, e2, h, hc, H
  | (d, .any) :: r, I, e1, e2, h, hc, H | (d, .agg _) :: r, I, e1, e2, h, hc, H | (d, .struct _) :: r, I, e1, e2, h, hc, H | (d, .tuple _) :: r, I, e1, e2, h, hc, H => by
    simp only [invAt] at H ⊢
    rw [← hc d (by simp)]
    split at H
    · exact invAt_congr r _ (fun d hd => hc d (by simp [hd])) H
    · exact H.elim
theorem invAt_lt : ∀ (l : List (Nat × Sh)) (I : Inv l) {e : Env} {h : Heap}, invAt l I e h → ∀ d, d ∈ l.map Prod.fst → d < e.length
  | [], _, _, _, _, d, hd => by simp at hd
  | (c, .int _) :: r, I, e, h, H, d, hd => by
    simp only [invAt] at H
    split at H
    · rename_i hg
      simp only [List.map_cons, List.mem_cons] at hd
      rcases hd with rfl | hd
      · exact Env.get_lt hg
      · exact invAt_lt r _ (ifK_out H).2 d hd
    · exact H.elim
  | (c, .bool) :: r, I, e, h, H, d, hd | (c, .str) :: r, I, e, h, H, d, hd | (c, .ptr) :: r, I, e, h, H, d, hd
  | (c, .slice) :: r, I, e, h, H, d, hd | (c, .map) :: r, I, e, h, H, d, hd
  | (c, .any) :: r, I, e, h, H, d, hd | (c, .agg _) :: r, I, e, h, H, d, hd | (c, .struct _) :: r, I, e, h, H, d, hd | (c, .tuple _) :: r, I, e, h, H, d, hd => by
    simp only [invAt] at H
    split at H
    · rename_i hg
      simp only [List.map_cons, List.mem_cons] at hd
      rcases hd with rfl | hd
      · exact Env.get_lt hg
      · exact invAt_lt r _ H d hd
    · exact H.elim

/-- A cut, or a loop's head: what holds of the values at hand holds of them once all else is forgotten. -/
theorem forget {l : List (Nat × Sh)} {I : Inv l} {W : List Nat} {e e' : Env} {a0 a' : Act} {h : Heap} {p : Env → Prop} (hA : Agree e a0.tmps) (hA' : Agree e' a'.tmps) (ho : Off W a0 a') (hi : invAt l I e' h)
    (H : allIn l (kills W e) fun e1 => invAt l I e1 h → p e1) : ∃ e1, Agree e1 a'.tmps ∧ invAt l I e1 h ∧ p e1 := by
  have hlen : (kills W e).length = e'.length := by rw [kills_length, hA.1, hA'.1, ho.size]
  have hi1 : invAt l I (carry l e' (kills W e)) h := invAt_congr l I (fun d hd => (carry_mem l e' _ d (.inl hd) (by rw [hlen]; exact invAt_lt l I hi d hd)).symm) hi
  exact ⟨_, hA.carry hA' ho, hi1, allIn_use l I e' _ h _ hi H hi1⟩

theorem hasLabel_find : ∀ (c : Code) (l : Nat), hasLabel c l = (findLabel c l).isSome
  | .seq a b, l => by
    have ha := hasLabel_find a l
    have hb := hasLabel_find b l
    unfold hasLabel findLabel
    rw [ha]
    cases h : findLabel a l <;> simp [hb]
  | .label m, l => by
    unfold hasLabel findLabel
    by_cases h : m = l
    · subst h; simp
    · have h1 : Nat.beq m l = false := by rw [← Bool.not_eq_true]; exact fun e => h (Nat.eq_of_beq_eq_true e)
      simp [h, h1]
  | .skip, _ | .exit _, _ | .goto _, _ | .ret, _ | .region _ _ _, _ | .cond _ _ _, _ | .block _ _, _ | .loop _, _ | .scope _, _ | .rangeFunc _ _ _ _, _ | .refuse _, _ => rfl
theorem find_writes : ∀ (c : Code) (l : Nat) (r : Code), findLabel c l = some r → ∀ n ∈ writes r, n ∈ writes c
  | .seq a b, l, r, h, n, hn => by
    unfold findLabel at h
    split at h
    · rename_i x hx
      obtain rfl := Option.some.inj h
      simp only [writes, List.mem_append] at hn ⊢
      exact hn.imp (find_writes a l x hx n) id
    · have := find_writes b l r h n hn
      simp [writes, this]
  | .label m, l, r, h, n, hn => by
    unfold findLabel at h
    split at h
    · obtain rfl := Option.some.inj h; simp [writes] at hn
    · cases h
  | .skip, _, _, h, _, _ | .exit _, _, _, h, _, _ | .goto _, _, _, h, _, _ | .ret, _, _, h, _, _ | .region _ _ _, _, _, h, _, _ | .cond _ _ _, _, _, h, _, _ | .block _ _, _, _, h, _, _ | .loop _, _, _, h, _, _ | .scope _, _, _, h, _, _ | .rangeFunc _ _ _ _, _, _, h, _, _ | .refuse _, _, _, h, _, _ => by cases h
theorem label_find : ∀ (c : Code) (l : Nat), theLabel c = some l → ∃ r, findLabel c l = some r
  | .seq a b, l, h => by
    unfold theLabel at h
    unfold findLabel
    cases hf : findLabel a l with
    | some r => exact ⟨_, rfl⟩
    | none =>
      split at h
      · rename_i m hm
        obtain rfl := Option.some.inj h
        obtain ⟨r, hr⟩ := label_find a m hm
        rw [hr] at hf; cases hf
      · obtain ⟨r, hr⟩ := label_find b l h
        exact ⟨r, hr⟩
  | .label m, l, h => by
    obtain rfl := Option.some.inj h
    exact ⟨.skip, by simp [findLabel]⟩
  | .skip, _, h | .exit _, _, h | .goto _, _, h | .ret, _, h | .region _ _ _, _, h | .cond _ _ _, _, h | .block _ _, _, h | .loop _, _, h | .scope _, _, h | .rangeFunc _ _ _ _, _, h | .refuse _, _, h => by cases h

/-- what is walked: the whole, or what stands behind a label -/
def RestOf (c : Code) : Option Nat → Code → Prop
  | none, r => r = c
  | some l, r => findLabel c l = some r

theorem vcS_sound {A : Ann} (hm : P.follows .mixedOrders = true) (hy : A.yld = false) : ∀ (c : Code) (s : Option Nat) (r : Code) {Qv : Ex → Env → Heap → Prop} {Q : Exit → Act → World → Prop} {e : Env} {h : Heap} {a : Act} {w : World},
    RestOf c s r → drawsOk A c = true → Agree e a.tmps → w.heap = h → a.defers = D → Answers D w a (writes c) Qv Q → Pan A D w a (writes c) Q → vcS P A c s Qv e h → r.wp P Q a w
  | .skip, none, _, Qv, Q, e, h, a, w, hp, _, hA, hw, hdf, hQ, hP, H => by
    obtain rfl := hp
    exact wp_skip (hQ .normal .normal e a w rfl hA (by rw [hw]; exact H) (Kin.refl w) hdf (Off.refl _ _))
  | .label _, none, _, Qv, Q, e, h, a, w, hp, _, hA, hw, hdf, hQ, hP, H => by
    obtain rfl := hp
    exact wp_label (hQ .normal .normal e a w rfl hA (by rw [hw]; exact H) (Kin.refl w) hdf (Off.refl _ _))
  | .label m, some l, _, Qv, Q, e, h, a, w, hp, _, hA, hw, hdf, hQ, hP, H => by
    simp only [vcS] at H
    split at H
    · simp only [RestOf, findLabel] at hp
      split at hp
      · obtain rfl := Option.some.inj hp
        exact wp_skip (hQ .normal .normal e a w rfl hA (by rw [hw]; exact H) (Kin.refl w) hdf (Off.refl _ _))
      · cases hp
    · exact H.elim
  | .exit i, none, _, Qv, Q, e, h, a, w, hp, _, hA, hw, hdf, hQ, hP, H => by
    obtain rfl := hp
    exact wp_exit (hQ (.exit i) (.exit i) e a w rfl hA (by rw [hw]; exact H) (Kin.refl w) hdf (Off.refl _ _))
  | .goto i, none, _, Qv, Q, e, h, a, w, hp, _, hA, hw, hdf, hQ, hP, H => by
    obtain rfl := hp
    exact wp_goto (hQ (.goto i) (.goto i) e a w rfl hA (by rw [hw]; exact H) (Kin.refl w) hdf (Off.refl _ _))
  | .ret, none, _, Qv, Q, e, h, a, w, hp, _, hA, hw, hdf, hQ, hP, H => by
    obtain rfl := hp
    exact wp_ret (hQ .ret .ret e a w rfl hA (by rw [hw]; exact H) (Kin.refl w) hdf (Off.refl _ _))
  | .region id ops draw, none, _, Qv, Q, e, h, a, w, hp, hok, hA, hw, hdf, hQ, hP, H => by
    obtain rfl := hp
    simp only [vcS] at H
    exact vcRegion_sound hm hy hok hA hw hdf (fun e' a' w' g1 g2 g3 g4 g5 => hQ .normal .normal e' a' w' rfl g1 g2 g3 g4 g5) (hP.from_ (Kin.refl w) (Off.refl _ _) (fun _ h => h) (fun _ _ _ h => h)) H
  | .seq x y, none, _, Qv, Q, e, h, a, w, hp, hok, hA, hw, hdf, hQ, hP, H => by
    obtain rfl := hp
    simp only [drawsOk, Bool.and_eq_true] at hok
    have up : ∀ n, n ∈ writes x → n ∈ writes (.seq x y) := fun n hn => by simp [writes, hn]
    simp only [vcS] at H
    split at H
    · refine wp_seq (vcS_sound hm hy x none x rfl hok.1 hA hw hdf ?_ (hP.from_ (Kin.refl w) (Off.refl _ _) up (fun _ _ _ h => h)) H)
      intro ex ext e' a' w' hx g1 g2 g3 g4 g5
      cases ext <;> simp only [exOf, Option.some.injEq, reduceCtorEq] at hx <;> subst hx
      · refine vcS_sound hm hy y none y rfl hok.2 g1 rfl g4 ?_ (hP.from_ g3 (g5.mono up) (fun n hn => by simp [writes, hn]) (fun _ _ _ h => h)) g2
        intro ex2 ext2 e2 a2 w2 hx2 k1 k2 k3 k4 k5
        exact hQ ex2 ext2 e2 a2 w2 hx2 k1 k2 (g3.trans k3) k4 ((g5.mono up).trans (k5.mono fun n hn => by simp [writes, hn]))
      all_goals exact hQ _ _ e' a' w' rfl g1 g2 g3 g4 (g5.mono up)
    · rename_i l hc
      obtain ⟨I, h1, h2⟩ := H
      refine wp_seq (vcS_sound hm hy x none x rfl hok.1 hA hw hdf ?_ (hP.from_ (Kin.refl w) (Off.refl _ _) up (fun _ _ _ h => h)) h1)
      intro ex ext e' a' w' hx g1 g2 g3 g4 g5
      cases ext <;> simp only [exOf, Option.some.injEq, reduceCtorEq] at hx <;> subst hx
      · obtain ⟨e1, k1, k2, k3⟩ := forget hA g1 g5 g2 (h2 w'.heap)
        refine vcS_sound hm hy y none y rfl hok.2 k1 rfl g4 ?_ (hP.from_ g3 (g5.mono up) (fun n hn => by simp [writes, hn]) (fun _ _ _ h => h)) k3
        intro ex2 ext2 e2 a2 w2 hx2 m1 m2 m3 m4 m5
        exact hQ ex2 ext2 e2 a2 w2 hx2 m1 m2 (g3.trans m3) m4 ((g5.mono up).trans (m5.mono fun n hn => by simp [writes, hn]))
      all_goals exact hQ _ _ e' a' w' rfl g1 g2 g3 g4 (g5.mono up)
  | .seq x y, some l, r, Qv, Q, e, h, a, w, hp, hok, hA, hw, hdf, hQ, hP, H => by
    simp only [drawsOk, Bool.and_eq_true] at hok
    have up : ∀ n, n ∈ writes x → n ∈ writes (.seq x y) := fun n hn => by simp [writes, hn]
    simp only [vcS] at H
    simp only [RestOf, findLabel] at hp
    split at H
    · rename_i hl
      rw [hasLabel_find] at hl
      obtain ⟨x', hx'⟩ := Option.isSome_iff_exists.1 hl
      rw [hx'] at hp
      obtain rfl := Option.some.inj hp
      refine wp_seq (vcS_sound hm hy x (some l) x' hx' hok.1 hA hw hdf ?_ (hP.from_ (Kin.refl w) (Off.refl _ _) up (fun _ _ _ h => h)) H)
      intro ex ext e' a' w' hx g1 g2 g3 g4 g5
      cases ext <;> simp only [exOf, Option.some.injEq, reduceCtorEq] at hx <;> subst hx
      · refine vcS_sound hm hy y none y rfl hok.2 g1 rfl g4 ?_ (hP.from_ g3 (g5.mono up) (fun n hn => by simp [writes, hn]) (fun _ _ _ h => h)) g2
        intro ex2 ext2 e2 a2 w2 hx2 k1 k2 k3 k4 k5
        exact hQ ex2 ext2 e2 a2 w2 hx2 k1 k2 (g3.trans k3) k4 ((g5.mono up).trans (k5.mono fun n hn => by simp [writes, hn]))
      all_goals exact hQ _ _ e' a' w' rfl g1 g2 g3 g4 (g5.mono up)
    · rename_i hl
      rw [hasLabel_find] at hl
      have hn : findLabel x l = none := by cases hf : findLabel x l <;> simp_all
      rw [hn] at hp
      exact vcS_sound hm hy y (some l) r hp hok.2 hA hw hdf (fun ex ext e' a' w' hx g1 g2 g3 g4 g5 => hQ ex ext e' a' w' hx g1 g2 g3 g4 (g5.mono fun n hn => by simp [writes, hn])) (hP.from_ (Kin.refl w) (Off.refl _ _) (fun n hn => by simp [writes, hn]) (fun _ _ _ h => h)) H
  | .cond c x y, none, _, Qv, Q, e, h, a, w, hp, hok, hA, hw, hdf, hQ, hP, H => by
    obtain rfl := hp
    simp only [drawsOk, Bool.and_eq_true] at hok
    simp only [vcS] at H
    split at H
    case h_2 => exact H.elim
    rename_i t ht
    have hc := opv_eval hA ht
    cases t
    · exact wp_cond_false hc (vcS_sound hm hy y none y rfl hok.2 hA hw hdf (fun ex ext e' a' w' hx g1 g2 g3 g4 g5 => hQ ex ext e' a' w' hx g1 g2 g3 g4 (g5.mono fun n hn => by simp [writes, hn])) (hP.from_ (Kin.refl w) (Off.refl _ _) (fun n hn => by simp [writes, hn]) (fun _ _ _ h => h)) H)
    · exact wp_cond_true hc (vcS_sound hm hy x none x rfl hok.1 hA hw hdf (fun ex ext e' a' w' hx g1 g2 g3 g4 g5 => hQ ex ext e' a' w' hx g1 g2 g3 g4 (g5.mono fun n hn => by simp [writes, hn])) (hP.from_ (Kin.refl w) (Off.refl _ _) (fun n hn => by simp [writes, hn]) (fun _ _ _ h => h)) H)
  | .block id b, none, _, Qv, Q, e, h, a, w, hp, hok, hA, hw, hdf, hQ, hP, H => by
    obtain rfl := hp
    simp only [drawsOk] at hok
    refine wp_block (vcS_sound hm hy b none b rfl hok hA hw hdf ?_ (hP.from_ (Kin.refl w) (Off.refl _ _) (fun _ h => h) (fun _ _ _ h => h)) H)
    intro ex ext e' a' w' hx g1 g2 g3 g4 g5
    cases ext <;> simp only [exOf, Option.some.injEq, reduceCtorEq] at hx <;> subst hx
    case exit i =>
      simp only [Exit.inBlock]
      simp only at g2
      split at g2
      · rename_i hi
        rw [if_pos (Nat.eq_of_beq_eq_true hi)]
        exact hQ _ _ e' a' w' rfl g1 g2 g3 g4 g5
      · rename_i hi
        rw [if_neg (fun h => by subst h; simp at hi)]
        exact hQ _ _ e' a' w' rfl g1 g2 g3 g4 g5
    all_goals exact hQ _ _ e' a' w' rfl g1 g2 g3 g4 g5
  | .loop b, none, _, Qv, Q, e, h, a, w, hp, hok, hA, hw, hdf, hQ, hP, H => by
    obtain rfl := hp
    simp only [drawsOk] at hok
    simp only [vcS] at H
    split at H
    case h_2 => exact H.elim
    rename_i l hl
    obtain ⟨I, M, h0, hr⟩ := H
    refine wp_loop (fun a1 w1 => ∃ e', Agree e' a1.tmps ∧ invAt l I e' w1.heap ∧ Kin w w1 ∧ a1.defers = D ∧ Off (writes b) a a1) (fun a1 w1 => measOf l M (fun n => a1.tmps.getD n undef) w1.heap)
      ⟨e, hA, by rw [hw]; exact h0, Kin.refl w, hdf, Off.refl _ _⟩ ?_
    rintro a1 w1 ⟨e', g1, g2, g3, g4, g5⟩
    obtain ⟨e1, k1, k2, k3⟩ := forget hA g1 g5 g2 (hr w1.heap)
    have hb := measAt_of l M k1 k3
    refine vcS_sound hm hy b none b rfl hok k1 rfl g4 ?_ (hP.from_ g3 g5 (fun _ h => h) (fun _ _ _ h => h)) hb
    intro ex ext e2 a2 w2 hx m1 m2 m3 m4 m5
    cases ext <;> simp only [exOf, Option.some.injEq, reduceCtorEq] at hx <;> subst hx
    · obtain ⟨n1, n2⟩ := m2
      exact ⟨⟨e2, m1, n1, g3.trans m3, m4, g5.trans m5⟩, measAt_of l M (f := fun x => x < measOf l M (fun n => a1.tmps.getD n undef) w1.heap) m1 n2⟩
    all_goals exact hQ _ _ e2 a2 w2 rfl m1 m2 (g3.trans m3) m4 (g5.trans m5)
  | .scope b, none, _, Qv, Q, e, h, a, w, hp, hok, hA, hw, hdf, hQ, hP, H => by
    obtain rfl := hp
    simp only [drawsOk] at hok
    simp only [vcS] at H
    cases hl : theLabel b with
    | none =>
      rw [hl] at H
      refine wp_scope_straight (vcS_sound hm hy b none b rfl hok hA hw hdf ?_ (hP.from_ (Kin.refl w) (Off.refl _ _) (fun _ h => h) (fun _ _ _ h => h)) H)
      intro ex ext e' a' w' hx g1 g2 g3 g4 g5
      cases ext <;> simp only [exOf, Option.some.injEq, reduceCtorEq] at hx <;> subst hx
      case goto l => exact g2.elim
      all_goals exact hQ _ _ e' a' w' rfl g1 g2 g3 g4 g5
    | some m =>
      rw [hl] at H
      obtain ⟨r, hr⟩ := label_find b m hl
      refine wp_scope_jumps m (fun a' w' => ∃ e', Agree e' a'.tmps ∧ Kin w w' ∧ a'.defers = D ∧ Off (writes b) a a' ∧ vcS P A b (some m) (fun x e' h' => match x with
          | .goto _ => False
          | x => Qv x e' h') e' w'.heap) (fun _ _ => 0) hr (vcS_sound hm hy b none b rfl hok hA hw hdf ?_ (hP.from_ (Kin.refl w) (Off.refl _ _) (fun _ h => h) (fun _ _ _ h => h)) H) ?_
      · intro ex ext e' a' w' hx g1 g2 g3 g4 g5
        cases ext <;> simp only [exOf, Option.some.injEq, reduceCtorEq] at hx <;> subst hx
        case goto l =>
          simp only at g2
          split at g2
          · rename_i hb
            exact ⟨(Nat.eq_of_beq_eq_true hb).symm, e', g1, g3, g4, g5, g2⟩
          · exact g2.elim
        all_goals exact hQ _ _ e' a' w' rfl g1 g2 g3 g4 g5
      · rintro a1 w1 ⟨e', k1, k2, k3, k4, k5⟩
        refine vcS_sound hm hy b (some m) r hr hok k1 rfl k3 ?_ (hP.from_ k2 k4 (fun _ h => h) (fun _ _ _ h => h)) k5
        intro ex ext e2 a2 w2 hx g1 g2 g3 g4 g5
        cases ext <;> simp only [exOf, Option.some.injEq, reduceCtorEq] at hx <;> subst hx
        case goto l => exact g2.elim
        all_goals exact hQ _ _ e2 a2 w2 rfl g1 g2 (k2.trans g3) g4 (k4.trans g5)
  | .rangeFunc _ _ _ _, _, _, _, _, _, _, _, _, _, _, _, _, _, _, _, H => by cases ‹Option Nat› <;> exact H.elim
  | .refuse _, _, _, _, _, _, _, _, _, _, _, _, _, _, _, _, H => by cases ‹Option Nat› <;> exact H.elim
  | .skip, some _, _, _, _, _, _, _, _, _, _, _, _, _, _, _, H | .exit _, some _, _, _, _, _, _, _, _, _, _, _, _, _, _, _, H | .goto _, some _, _, _, _, _, _, _, _, _, _, _, _, _, _, _, H | .ret, some _, _, _, _, _, _, _, _, _, _, _, _, _, _, _, H
  | .region _ _ _, some _, _, _, _, _, _, _, _, _, _, _, _, _, _, _, H | .cond _ _ _, some _, _, _, _, _, _, _, _, _, _, _, _, _, _, _, H | .block _ _, some _, _, _, _, _, _, _, _, _, _, _, _, _, _, _, H | .loop _, some _, _, _, _, _, _, _, _, _, _, _, _, _, _, _, H | .scope _, some _, _, _, _, _, _, _, _, _, _, _, _, _, _, _, H => H.elim

theorem vc_sound {A : Ann} (hm : P.follows .mixedOrders = true) (hy : A.yld = false) (c : Code) {Qv : Ex → Env → Heap → Prop} {Q : Exit → Act → World → Prop} {e : Env} {h : Heap} {a : Act} {w : World}
    (hok : drawsOk A c = true) (hA : Agree e a.tmps) (hw : w.heap = h) (hdf : a.defers = D) (hQ : Answers D w a (writes c) Qv Q) (hP : Pan A D w a (writes c) Q) (H : vc P A c Qv e h) : c.wp P Q a w :=
  vcS_sound hm hy c none c rfl hok hA hw hdf hQ hP H

end Go.Vd


namespace Go.Vd
set_option linter.unusedVariables false
variable {P : Program}

def resVs (P : Program) : List ResultVar → Env → Heap → (List Value → Prop) → Prop
  | [], _, _, f => f []
  | .tmp t :: r, e, h, f => match Env.get e t with
    | some v => resVs P r e h fun vs => f (v :: vs)
    | none => False
  | .cell p t :: r, e, h, f => match Env.get e p with
    | some (.pointer (some ad)) => ldK P t h ad fun u => match u with
      | some v => resVs P r e h fun vs => f (v :: vs)
      | none => False
    | _ => False
def retV (R : Value → Heap → Prop) (h : Heap) : List Value → Prop
  | [v] => R v h
  | vs => R (.tuple vs.toArray) h
def bodyQ (P : Program) (rs : List ResultVar) (R : Value → Heap → Prop) : Ex → Env → Heap → Prop
  | .normal, e, h => resVs P rs e h (retV R h)
  | .ret, e, h => resVs P rs e h (retV R h)
  | _, _, _ => False
def startL : List Value → Nat → List (Nat × Option Value)
  | [], _ => []
  | v :: r, i => (i, some v) :: startL r (i + 1)
def start (args : List Value) (n : Nat) : Env := ⟨args.length + (n - args.length), startL args 0⟩

theorem startL_find : ∀ (args : List Value) (k i : Nat) (v : Value), Env.find (startL args k) i = some v → (∃ j, i = k + j ∧ args[j]? = some v) ∨ ((i < k ∨ k + args.length ≤ i) ∧ v = undef)
  | [], k, i, v, h => by
    simp only [startL, Env.find, Option.some.injEq] at h
    exact .inr ⟨by simp; omega, h.symm⟩
  | a :: r, k, i, v, h => by
    unfold startL Env.find at h
    split at h
    · rename_i hb
      obtain rfl := Nat.eq_of_beq_eq_true hb
      exact .inl ⟨0, rfl, by simpa using h⟩
    · rename_i hb
      rcases startL_find r (k + 1) i v h with ⟨j, e, hj⟩ | ⟨hlt, hv⟩
      · exact .inl ⟨j + 1, by omega, by simpa using hj⟩
      · refine .inr ⟨?_, hv⟩
        have : k ≠ i := fun e => by subst e; simp at hb
        simp; omega
theorem start_agree (args : Array Value) (n : Nat) : Agree (start args.toList n) (args ++ Array.replicate (n - args.size) undef) := by
  refine ⟨by simp [start], fun i v h => ?_⟩
  have hlt := Env.get_lt h
  rw [Env.get_of_lt hlt] at h
  rcases startL_find _ _ _ _ h with ⟨j, e, hj⟩ | ⟨h1, hv⟩
  · rw [Nat.zero_add] at e
    subst e
    obtain ⟨hl, he⟩ := List.getElem?_eq_some_iff.1 hj
    have hl' : i < args.size := by simpa using hl
    simp only [Array.getD_eq_getD_getElem?]
    rw [Array.getElem?_append_left hl', Array.getElem?_eq_getElem hl']
    simpa using he
  · subst hv
    have hge : args.size ≤ i := by
      rcases h1 with h1 | h1
      · omega
      · simpa using h1
    simp only [Array.getD_eq_getD_getElem?]
    rw [Array.getElem?_append_right hge]
    simp only [Array.getElem?_replicate]
    split <;> rfl

def resF (t : Array Value) : ResultVar → Sem Value
  | .tmp i => pure (t.getD i undef)
  | .cell p ty => do loadVar ty (← asAddr (t.getD p undef))
theorem results_eq (fn : Func) (t : Array Value) : results fn t = (do
    let vs ← fn.results.mapM (resF t)
    pure (if h : vs.size = 1 then vs[0] else .tuple vs)) := rfl

theorem resVs_sound {h : Heap} {e : Env} {a : Act} {w : World} (hA : Agree e a.tmps) (hw : w.heap = h) : ∀ (rs : List ResultVar) {f : List Value → Prop}, resVs P rs e h f →
    ∃ vs, f vs ∧ (rs.mapM (resF a.tmps)).run P w = .ok vs w
  | [], f, H => ⟨[], H, by simp⟩
  | .tmp t :: r, f, H => by
    simp only [resVs] at H
    split at H
    case h_2 => exact H.elim
    rename_i v hv
    obtain ⟨vs, hf, hr⟩ := resVs_sound hA hw r H
    refine ⟨v :: vs, hf, ?_⟩
    have h1 : (resF a.tmps (.tmp t)).run P w = .ok v w := by simp [resF, hA.2 t v hv]
    simp only [List.mapM_cons, Sem.run_bind, h1, Sem.run_pure, Result.andThen_ok, hr]
  | .cell p t :: r, f, H => by
    simp only [resVs] at H
    split at H
    case h_2 => exact H.elim
    rename_i ad hp
    obtain ⟨v, hk, hl⟩ := run_ld H
    simp only at hk
    obtain ⟨vs, hf, hr⟩ := resVs_sound hA hw r hk
    refine ⟨v :: vs, hf, ?_⟩
    have hl' := hl w (hw ▸ Ext.refl _)
    have h1 : (resF a.tmps (.cell p t)).run P w = .ok v w := by simp [resF, hA.2 p _ hp, asAddr, hl']
    simp only [List.mapM_cons, Sem.run_bind, h1, Sem.run_pure, Result.andThen_ok, hr]

theorem results_sound {fn : Func} {h : Heap} {e : Env} {a : Act} {w : World} {R : Value → Heap → Prop} (hA : Agree e a.tmps) (hw : w.heap = h) (H : resVs P fn.results.toList e h (retV R h)) :
    ∃ v, (results fn a.tmps).run P w = .ok v w ∧ R v w.heap := by
  obtain ⟨vs, hf, hr⟩ := resVs_sound hA hw _ H
  subst hw
  have hm : (fn.results.mapM (resF a.tmps)).run P w = .ok vs.toArray w := by
    rw [Array.mapM_eq_mapM_toList, Sem.run_map, hr]
    rfl
  refine ⟨if h : vs.toArray.size = 1 then vs.toArray[0] else .tuple vs.toArray, ?_, ?_⟩
  · rw [results_eq, Sem.run_bind, hm]
    rfl
  · match vs, hf with
    | [], hf => exact hf
    | [v], hf => exact hf
    | v :: u :: r, hf => rw [dif_neg (by simp)]; exact hf

/-- nothing panics -/
@[reducible] def Ann.calm (A : Ann) : Ann := { A with pans := none, pan := fun _ => False, yld := false }
/-- a panic goes out so -/
@[reducible] def Ann.out (A : Ann) (Rp : Heap → Prop) : Ann := { A with pan := Rp, yld := false }
theorem hent {f : FuncId} {fn : Func} {c : Code} {args : Array Value} {h : Heap} {R : Value → Heap → Prop} (A : Ann) (hm : P.follows .mixedOrders = true) (hf : P.funcs[f]? = some fn) (hb : fn.body = some c) (hn : (fn.name == "runtime.NumGoroutine") = false)
    (hok : drawsOk A.calm c = true) (H : vc P A.calm c (bodyQ P fn.results.toList R) (start args.toList fn.ntmps) h) : HEnt P f args h R := by
  refine HEnt.of_body hf (by rw [hb]; rfl) hn ?_
  intro w hw
  refine calls_of_wp hf hb ?_
  refine vc_sound (A := A.calm) (D := []) hm rfl c hok (start_agree args fn.ntmps) hw rfl ?_ (fun _ _ _ _ hp => hp.elim) H
  intro x ex e a w' hx hA hQ hk hd _
  cases ex <;> simp only [exOf, Option.some.injEq, reduceCtorEq] at hx <;> subst hx
  · obtain ⟨v, hr, hR⟩ := results_sound (fn := fn) hA rfl hQ
    exact ⟨hd, v, hr, v, rfl, hk, hR⟩
  · exact hQ.elim
  · exact hQ.elim
  · obtain ⟨v, hr, hR⟩ := results_sound (fn := fn) hA rfl hQ
    exact ⟨hd, v, hr, v, rfl, hk, hR⟩
/-- The contract of a function that may panic. -/
theorem hentP {f : FuncId} {fn : Func} {c : Code} {args : Array Value} {h : Heap} {R : Value → Heap → Prop} {Rp : Heap → Prop} (A : Ann) (hm : P.follows .mixedOrders = true) (hf : P.funcs[f]? = some fn) (hb : fn.body = some c) (hn : (fn.name == "runtime.NumGoroutine") = false)
    (hok : drawsOk (A.out Rp) c = true) (H : vc P (A.out Rp) c (bodyQ P fn.results.toList R) (start args.toList fn.ntmps) h) : HCallsP P f args h R Rp := by
  refine HCallsP.of_body hf (by rw [hb]; rfl) hn ?_
  intro w hw
  refine calls_of_wp hf hb ?_
  refine vc_sound (A := A.out Rp) (D := []) hm rfl c hok (start_agree args fn.ntmps) hw rfl ?_ (fun ch a w' hc hp hk hd _ => ⟨hd, .inr ⟨ch, rfl, hc, hk, hp⟩⟩) H
  intro x ex e a w' hx hA hQ hk hd _
  cases ex <;> simp only [exOf, Option.some.injEq, reduceCtorEq] at hx <;> subst hx
  · obtain ⟨v, hr, hR⟩ := results_sound (fn := fn) hA rfl hQ
    exact ⟨hd, v, hr, .inl ⟨v, rfl, hk, hR⟩⟩
  · exact hQ.elim
  · exact hQ.elim
  · obtain ⟨v, hr, hR⟩ := results_sound (fn := fn) hA rfl hQ
    exact ⟨hd, v, hr, .inl ⟨v, rfl, hk, hR⟩⟩
end Go.Vd


namespace Go.Vd
set_option linter.unusedVariables false

theorem add_mk (b o n : Nat) : (⟨b, o, none⟩ : Addr).add n = ⟨b, o + n, none⟩ := by
  unfold Addr.add; split
  · rename_i h; subst h; rfl
  · rfl
theorem add_at0 (b n : Nat) : (at0 b).add n = ⟨b, n, none⟩ := by rw [at0, add_mk, Nat.zero_add]
theorem at0_mk (b : Nat) : at0 b = ⟨b, 0, none⟩ := rfl

theorem cell_blk {h : Heap} {b : Nat} {cs : Array Value} {t : TypeId} {fr : Nat × Nat} (hb : h[b]? = some (.cells cs t fr)) (o : Nat) : cell h ⟨b, o, none⟩ = cs[o]? := by
  simp [cell, hb]
theorem frz_blk {h : Heap} {b : Nat} {cs : Array Value} {t : TypeId} {lo hi : Nat} (hb : h[b]? = some (.cells cs t (lo, hi))) (o : Nat) (ho : o < lo ∨ hi ≤ o) : frz h ⟨b, o, none⟩ = false := by
  simp [frz, hb]; omega
theorem cells_blk {h : Heap} {b o : Nat} {cs : Array Value} {t : TypeId} {fr : Nat × Nat} (hb : h[b]? = some (.cells cs t fr)) {l : List Value} (hl : ∀ i v, l[i]? = some v → cs[o + i]? = some v) : CellsAt h ⟨b, o, none⟩ l := by
  intro i v hv
  rw [add_mk, cell_blk hb]
  exact hl i v hv
theorem cells_blk0 {h : Heap} {b : Nat} {cs : Array Value} {t : TypeId} {fr : Nat × Nat} (hb : h[b]? = some (.cells cs t fr)) : CellsAt h ⟨b, 0, none⟩ cs.toList :=
  cells_blk hb fun i v hv => by simpa using hv
theorem Wr_blk {h : Heap} {b o : Nat} {cs : Array Value} {t : TypeId} {lo hi : Nat} (hb : h[b]? = some (.cells cs t (lo, hi))) (ho : o < cs.size) (hf : o < lo ∨ hi ≤ o) : Wr h ⟨b, o, none⟩ :=
  ⟨⟨cs[o], by rw [cell_blk hb]; simp [ho]⟩, frz_blk hb o hf⟩

/-- All blocks but b are as they were. -/
structure Only (b : Nat) (h h' : Heap) : Prop where
  size : h'.size = h.size
  block : ∀ k, k ≠ b → h'[k]? = h[k]?
theorem Only.refl (b : Nat) (h : Heap) : Only b h h := ⟨rfl, fun _ _ => rfl⟩
theorem Only.trans {b : Nat} {x y z : Heap} (h : Only b x y) (k : Only b y z) : Only b x z := ⟨k.size.trans h.size, fun i hi => (k.block i hi).trans (h.block i hi)⟩

/-- Blocks below B but those of S are as they were; blocks may have come. -/
structure Keep (S : Nat → Prop) (h h' : Heap) : Prop where
  size : h.size ≤ h'.size
  block : ∀ k, k < h.size → ¬ S k → h'[k]? = h[k]?
theorem Keep.refl (S : Nat → Prop) (h : Heap) : Keep S h h := ⟨Nat.le_refl _, fun _ _ _ => rfl⟩
theorem Keep.trans {S : Nat → Prop} {a b c : Heap} (h : Keep S a b) (k : Keep S b c) : Keep S a c :=
  ⟨Nat.le_trans h.size k.size, fun i hi hs => (k.block i (Nat.lt_of_lt_of_le hi h.size) hs).trans (h.block i hi hs)⟩
theorem Ext.keep {h h' : Heap} (x : Ext h h') (S : Nat → Prop) : Keep S h h' := ⟨x.size, fun k hk _ => x.block k hk⟩
theorem Only.keep {b : Nat} {h h' : Heap} (x : Only b h h') {S : Nat → Prop} (hb : S b) : Keep S h h' := ⟨Nat.le_of_eq x.size.symm, fun k _ hs => x.block k (fun e => hs (e ▸ hb))⟩
theorem Keep.ext {S : Nat → Prop} {h h' : Heap} (x : Keep S h h') (hs : ∀ k, k < h.size → ¬ S k) : Ext h h' := ⟨x.size, fun k hk => x.block k hk (hs k hk)⟩
theorem Keep.mono {S T : Nat → Prop} {h h' : Heap} (x : Keep S h h') (hs : ∀ k, k < h.size → S k → T k) : Keep T h h' := ⟨x.size, fun k hk hn => x.block k hk fun s => hn (hs k hk s)⟩
/-- what came since is forgotten -/
theorem Keep.since {S : Nat → Prop} {a b c : Heap} (x : Ext a b) (k : Keep S b c) (hs : ∀ k, k < a.size → ¬ S k) : Ext a c :=
  ⟨Nat.le_trans x.size k.size, fun i hi => (k.block i (Nat.lt_of_lt_of_le hi x.size) (hs i hi)).trans (x.block i hi)⟩
theorem blk_lt {h : Heap} {b : Nat} {o : Obj} (hb : h[b]? = some o) : b < h.size := (Array.getElem?_eq_some_iff.1 hb).1
theorem Ext.blk {h h' : Heap} (x : Ext h h') {b : Nat} {o : Obj} (hb : h[b]? = Option.some o) : h'[b]? = Option.some o := (x.block b (blk_lt hb)).trans hb
theorem Keep.blk {S : Nat → Prop} {h h' : Heap} (x : Keep S h h') {b : Nat} {o : Obj} (hb : h[b]? = some o) (hs : ¬ S b) : h'[b]? = some o := (x.block b (blk_lt hb) hs).trans hb
theorem Only.blk {c : Nat} {h h' : Heap} (x : Only c h h') {b : Nat} {o : Obj} (hb : h[b]? = some o) (hs : b ≠ c) : h'[b]? = some o := (x.block b hs).trans hb
theorem Cls.eq {h h' : Heap} (c : Cls false h h') : h' = h := c

/-- A new block. -/
theorem newK_intro {h : Heap} {o : Obj} {K : Nat → Heap → Prop} (hK : ∀ h', h'[h.size]? = some o → Ext h h' → h'.size = h.size + 1 → K h.size h') : newK h o K := by
  rintro b h' ⟨rfl, rfl⟩
  exact hK _ (by simp) (Ext.push _ _) (by simp)

theorem setCs_blk : ∀ (vs : List Value) (h : Heap) (b o i : Nat) (cs : Array Value) (t : TypeId) (fr : Nat × Nat), h[b]? = some (.cells cs t fr) → o + i + vs.length ≤ cs.size →
    (setCs h ⟨b, o, none⟩ i vs)[b]? = some (.cells (cs.toList.take (o + i) ++ vs ++ cs.toList.drop (o + i + vs.length)).toArray t fr) ∧ Only b h (setCs h ⟨b, o, none⟩ i vs)
  | [], h, b, o, i, cs, t, fr, hb, _ => by
    refine ⟨?_, Only.refl _ _⟩
    simp only [setCs, List.append_nil, List.length_nil, Nat.add_zero, List.take_append_drop]
    rw [hb]
  | v :: r, h, b, o, i, cs, t, fr, hb, hfit => by
    simp only [List.length_cons] at hfit
    have h1 : (setC h ⟨b, o + i, none⟩ v)[b]? = some (.cells (cs.setIfInBounds (o + i) v) t fr) := by
      rw [setC, Array.getElem?_modify]; simp [hb, updC]
    have h2 : Only b h (setC h ⟨b, o + i, none⟩ v) := ⟨by simp [setC], fun k hk => by rw [setC, Array.getElem?_modify, if_neg (fun e => hk e.symm)]⟩
    obtain ⟨h3, h4⟩ := setCs_blk r _ b o (i + 1) _ t fr h1 (by simp; omega)
    simp only [setCs, add_mk]
    refine ⟨?_, h2.trans h4⟩
    rw [h3]
    simp only [Option.some.injEq, Obj.cells.injEq, and_self, and_true]
    apply Array.ext'
    simp only [Array.toList_setIfInBounds, List.length_cons]
    have hlt : o + i < cs.toList.length := by simp; omega
    have e1 : (cs.toList.set (o + i) v).take (o + (i + 1)) = cs.toList.take (o + i) ++ [v] := by
      rw [List.set_eq_take_append_cons_drop, if_pos hlt, List.take_append, List.length_take, Nat.min_eq_left (by omega), List.take_of_length_le (by simp; omega), show o + (i + 1) - (o + i) = 1 by omega]
      simp
    have e2 : (cs.toList.set (o + i) v).drop (o + (i + 1) + r.length) = cs.toList.drop (o + i + (r.length + 1)) := by
      rw [List.drop_set_of_lt (by omega)]; congr 1; omega
    rw [e1, e2]
    simp

/-- A store of one cell. -/
theorem storeK_one {h : Heap} {b o : Nat} {cs : Array Value} {t : TypeId} {lo hi : Nat} {v : Value} {K : Heap → Prop} (hb : h[b]? = some (.cells cs t (lo, hi))) (ho : o < cs.size) (hf : o < lo ∨ hi ≤ o) (h1 : one v = true)
    (hK : ∀ h', h'[b]? = some (.cells (cs.setIfInBounds o v) t (lo, hi)) → Only b h h' → K h') : storeK 1 h ⟨b, o, none⟩ v K := by
  have key : ∀ h', Put h ⟨b, o, none⟩ [v] h' → K h' := by
    rintro h' rfl
    have h1 : (setC h ⟨b, o, none⟩ v)[b]? = some (.cells (cs.setIfInBounds o v) t (lo, hi)) := by
      rw [setC, Array.getElem?_modify]; simp [hb, updC]
    have h2 : Only b h (setC h ⟨b, o, none⟩ v) := ⟨by simp [setC], fun k hk => by rw [setC, Array.getElem?_modify, if_neg (fun e => hk e.symm)]⟩
    exact hK _ h1 h2
  cases v <;> simp only [one] at h1 <;> first | exact ⟨rfl, Wr_blk hb ho hf, key⟩ | cases h1
/-- A store of a row of cells. -/
theorem storeK_row {n : Nat} {h : Heap} {b o : Nat} {cs vs : Array Value} {t : TypeId} {lo hi : Nat} {K : Heap → Prop} (hb : h[b]? = some (.cells cs t (lo, hi))) (hn : vs.size = n) (ho : o + n ≤ cs.size) (hf : ∀ i, o ≤ i → i < o + n → i < lo ∨ hi ≤ i)
    (h1 : ∀ u ∈ vs.toList, one u = true) (hK : ∀ h', h'[b]? = some (.cells (cs.toList.take o ++ vs.toList ++ cs.toList.drop (o + n)).toArray t (lo, hi)) → Only b h h' → K h') : storeK n h ⟨b, o, none⟩ (.agg vs) K := by
  refine ⟨hn, h1, fun i hi => by rw [add_mk]; exact Wr_blk hb (by omega) (hf _ (by omega) (by omega)), ?_⟩
  rintro h' rfl
  obtain ⟨h3, h4⟩ := setCs_blk vs.toList h b o 0 cs t (lo, hi) hb (by simp; omega)
  refine hK _ ?_ h4
  rw [h3]
  simp only [Nat.add_zero, Array.length_toList, hn]
/-- A whole block is written over. -/
theorem storeK_whole {n : Nat} {h : Heap} {b : Nat} {cs vs : Array Value} {t : TypeId} {K : Heap → Prop} (hb : h[b]? = some (.cells cs t (0, 0))) (hn : vs.size = n) (hs : cs.size = n)
    (h1 : ∀ u ∈ vs.toList, one u = true) (hK : ∀ h', h'[b]? = some (.cells vs t (0, 0)) → Only b h h' → K h') : storeK n h ⟨b, 0, none⟩ (.agg vs) K := by
  refine storeK_row hb hn (by omega) (fun i _ _ => .inr (Nat.zero_le _)) h1 fun h' h2 h3 => hK h' ?_ h3
  rw [h2]
  simp only [Option.some.injEq, Obj.cells.injEq, and_self, and_true]
  apply Array.ext'
  simp [hs]
end Go.Vd
