import Derived.WalkKit
import Derived.KernelRfl
import Derived.CallsIn

namespace Go.Vc

abbrev Heap := Array Obj
/-- the head of a block -/
@[reducible] def at0 (b : Nat) : Addr := ⟨b, 0, none⟩

def cell (h : Heap) (a : Addr) : Option Value :=
  match h[a.block]? with
  | some (.cells c _ _) => if a.spot.isSome then none else c[a.off]?
  | _ => none
def frz (h : Heap) (a : Addr) : Bool :=
  match h[a.block]? with
  | some (.cells _ _ (lo, hi)) => lo ≤ a.off && a.off < hi
  | _ => false
theorem cell_eq (w : World) (a : Addr) : w.cell? a = cell w.heap a := rfl
theorem frz_eq (w : World) (a : Addr) : w.frozen? a = frz w.heap a := rfl

/-- The streams and the tape are as they were. -/
structure Kin (w w' : World) : Prop where
  os : w'.os = w.os
  tape : w'.tape = w.tape
  output : w'.output = w.output
theorem Kin.refl (w : World) : Kin w w := ⟨rfl, rfl, rfl⟩
theorem Kin.trans {a b c : World} (h : Kin a b) (k : Kin b c) : Kin a c := ⟨k.os.trans h.os, k.tape.trans h.tape, k.output.trans h.output⟩

/-- h' is h with more blocks behind it. -/
structure Ext (h h' : Heap) : Prop where
  size : h.size ≤ h'.size
  block : ∀ k, k < h.size → h'[k]? = h[k]?
theorem Ext.refl (h : Heap) : Ext h h := ⟨Nat.le_refl _, fun _ _ => rfl⟩
theorem Ext.trans {a b c : Heap} (h : Ext a b) (k : Ext b c) : Ext a c :=
  ⟨Nat.le_trans h.size k.size, fun i hi => (k.block i (Nat.lt_of_lt_of_le hi h.size)).trans (h.block i hi)⟩
theorem lt_of_cell {h : Heap} {a : Addr} {v : Value} (hc : cell h a = some v) : a.block < h.size := by
  by_cases hlt : a.block < h.size
  · exact hlt
  · have hn : h[a.block]? = none := by simp; omega
    simp [cell, hn] at hc
theorem Ext.cell {h h' : Heap} (x : Ext h h') {a : Addr} (hb : a.block < h.size) : cell h' a = cell h a := by
  unfold Vc.cell; rw [x.block _ hb]
theorem Ext.some {h h' : Heap} (x : Ext h h') {a : Addr} {v : Value} (hc : Vc.cell h a = some v) : Vc.cell h' a = some v :=
  (x.cell (lt_of_cell hc)).trans hc
theorem Ext.frz {h h' : Heap} (x : Ext h h') {a : Addr} (hb : a.block < h.size) : frz h' a = frz h a := by
  unfold Vc.frz; rw [x.block _ hb]
theorem Ext.push (h : Heap) (o : Obj) : Ext h (h.push o) := ⟨by simp, fun k hk => by rw [Array.getElem?_push, if_neg (by omega)]⟩

/-- Entered over the heap h, the function returns a value and leaves a heap, as R says; nothing else of the world has turned but the count of draws. -/
def HBody (P : Program) (f : FuncId) (args : Array Value) (h : Heap) (R : Value → Heap → Prop) : Prop :=
  ∀ w : World, w.heap = h → Calls P f args w fun e w' => ∃ v, e = .returned v ∧ Kin w w' ∧ R v w'.heap
/-- THE CONTRACT: the same of a call of it: of a function with a Go body, or of one that the model answers by itself. -/
def HCalls (P : Program) (f : FuncId) (args : Array Value) (h : Heap) (R : Value → Heap → Prop) : Prop :=
  ∀ w : World, w.heap = h → (∃ v w', (callFunc f args).run P w = .ok (.value v) w' ∧ Kin w w' ∧ R v w'.heap) ∨
    ((callFunc f args).run P w = .ok (.enter f args) w ∧ Calls P f args w fun e w' => ∃ v, e = .returned v ∧ Kin w w' ∧ R v w'.heap)

/-- The same of a function that is entered. -/
def HEnt (P : Program) (f : FuncId) (args : Array Value) (h : Heap) (R : Value → Heap → Prop) : Prop :=
  ∀ w : World, w.heap = h → (callFunc f args).run P w = .ok (.enter f args) w ∧ Calls P f args w fun e w' => ∃ v, e = .returned v ∧ Kin w w' ∧ R v w'.heap
theorem HEnt.mono {P : Program} {f : FuncId} {args : Array Value} {h : Heap} {R R' : Value → Heap → Prop} (c : HEnt P f args h R) (hr : ∀ v h', R v h' → R' v h') : HEnt P f args h R' :=
  fun w hw => ⟨(c w hw).1, (c w hw).2.mono fun _ _ ⟨v, he, hk, hv⟩ => ⟨v, he, hk, hr _ _ hv⟩⟩
/-- A contract at a call. -/
theorem HEnt.use {P : Program} {f : FuncId} {args : Array Value} {h : Heap} {R R' : Value → Heap → Prop} (c : HEnt P f args h R) (hr : ∀ v h', R v h' → R' v h') : HCalls P f args h R' :=
  fun w hw => .inr ((c.mono hr) w hw)
theorem HBody.mono {P : Program} {f : FuncId} {args : Array Value} {h : Heap} {R R' : Value → Heap → Prop} (c : HBody P f args h R) (hr : ∀ v h', R v h' → R' v h') : HBody P f args h R' :=
  fun w hw => (c w hw).mono fun _ _ ⟨v, he, hk, hv⟩ => ⟨v, he, hk, hr _ _ hv⟩
theorem HCalls.mono {P : Program} {f : FuncId} {args : Array Value} {h : Heap} {R R' : Value → Heap → Prop} (c : HCalls P f args h R) (hr : ∀ v h', R v h' → R' v h') : HCalls P f args h R' :=
  fun w hw => (c w hw).imp (fun ⟨v, w', h1, h2, h3⟩ => ⟨v, w', h1, h2, hr _ _ h3⟩) fun ⟨h1, h2⟩ => ⟨h1, h2.mono fun _ _ ⟨v, he, hk, hv⟩ => ⟨v, he, hk, hr _ _ hv⟩⟩
theorem HEnt.of_body {P : Program} {f : FuncId} {fn : Func} {args : Array Value} {h : Heap} {R : Value → Heap → Prop} (hf : P.funcs[f]? = some fn) (hb : fn.body.isSome = true) (hn : (fn.name == "runtime.NumGoroutine") = false)
    (c : HBody P f args h R) : HEnt P f args h R :=
  fun w hw => ⟨by
    have hb' : fn.body.isNone = false := by cases h : fn.body <;> simp_all
    unfold callFunc
    simp only [Sem.run_bind, run_program, Result.andThen_ok, hf, hn, Bool.false_eq_true, if_false, hb', Sem.run_pure], c w hw⟩

/-- a panic that nobody has stopped, its value no nil -/
def Raised (chain : List PanicEntry) : Prop := ∃ t v, chain = [{ v := .iface t v, recovered := false }]
/-- how a call ends that may panic -/
def EndP (w : World) (R : Value → Heap → Prop) (Rp : Heap → Prop) (e : Ending) (w' : World) : Prop :=
  (∃ v, e = .returned v ∧ Kin w w' ∧ R v w'.heap) ∨ ∃ chain, e = .panicked chain ∧ Raised chain ∧ Kin w w' ∧ Rp w'.heap
/-- THE CONTRACT of a function that may panic: Rp says how the heap is then. -/
def HCallsP (P : Program) (f : FuncId) (args : Array Value) (h : Heap) (R : Value → Heap → Prop) (Rp : Heap → Prop) : Prop :=
  ∀ w : World, w.heap = h → (callFunc f args).run P w = .ok (.enter f args) w ∧ Calls P f args w (EndP w R Rp)
theorem EndP.mono {w w' : World} {R R' : Value → Heap → Prop} {Rp Rp' : Heap → Prop} {e : Ending} (c : EndP w R Rp e w') (hr : ∀ v h', R v h' → R' v h') (hp : ∀ h', Rp h' → Rp' h') : EndP w R' Rp' e w' :=
  c.imp (fun ⟨v, he, hk, hv⟩ => ⟨v, he, hk, hr _ _ hv⟩) fun ⟨ch, he, hc, hk, hv⟩ => ⟨ch, he, hc, hk, hp _ hv⟩
theorem HCallsP.mono {P : Program} {f : FuncId} {args : Array Value} {h : Heap} {R R' : Value → Heap → Prop} {Rp Rp' : Heap → Prop} (c : HCallsP P f args h R Rp) (hr : ∀ v h', R v h' → R' v h') (hp : ∀ h', Rp h' → Rp' h') : HCallsP P f args h R' Rp' :=
  fun w hw => ⟨(c w hw).1, (c w hw).2.mono fun _ _ e => e.mono hr hp⟩
theorem HCallsP.of_body {P : Program} {f : FuncId} {fn : Func} {args : Array Value} {h : Heap} {R : Value → Heap → Prop} {Rp : Heap → Prop} (hf : P.funcs[f]? = some fn) (hb : fn.body.isSome = true) (hn : (fn.name == "runtime.NumGoroutine") = false)
    (c : ∀ w : World, w.heap = h → Calls P f args w (EndP w R Rp)) : HCallsP P f args h R Rp :=
  fun w hw => ⟨by
    have hb' : fn.body.isNone = false := by cases h : fn.body <;> simp_all
    unfold callFunc
    simp only [Sem.run_bind, run_program, Result.andThen_ok, hf, hn, Bool.false_eq_true, if_false, hb', Sem.run_pure], c w hw⟩

/-- THE CONTRACT of a call of a loop's yield: the round that it asks for comes to its end. -/
def HYield (P : Program) (l : Nat) (args : Array Value) (h : Heap) (R : Value → Heap → Prop) : Prop :=
  ∀ w : World, w.heap = h → ∃ f tmps assign body, (Instr.yield l args).run P w = .ok (.round l f tmps assign body) w ∧
    RoundIn Fence.wide 0 P l f tmps assign body w fun e w' => ∃ v, e = .returned v ∧ Kin w w' ∧ R v w'.heap

/-- the cells of a type's zero value -/
def zeroC (P : Program) (t : TypeId) : Array Value := (((P.info? t).bind (·.zero)).getD (.tuple #[])).cells

/-! ### shapes of values -/
inductive Sh where
  | int (k : IntKind)
  | bool
  | str
  | ptr
  | slice
  | map
  | any
  | agg (n : Nat)
  | struct (fs : List Sh)
  | tuple (fs : List Sh)

mutual
/-- some value of a shape -/
def withSh : Sh → (Value → Prop) → Prop
  | .int k, f => ∃ n : Int, f (.int k n)
  | .bool, f => ∃ b : Bool, f (.bool b)
  | .str, f => ∃ s : ByteArray, f (.string s)
  | .ptr, f => ∃ a : Option Addr, f (.pointer a)
  | .slice, f => ∃ (a : Option Addr) (l c : Nat), f (.slice a l c)
  | .map, f => ∃ m : Option Nat, f (.map m)
  | .any, f => ∃ v : Value, f v
  | .agg n, f => ∃ cs : Array Value, cs.size = n ∧ f (.agg cs)
  | .struct fs, f => withShs fs fun vs => f (.agg vs.toArray)
  | .tuple fs, f => withShs fs fun vs => f (.tuple vs.toArray)
/-- some values of shapes, one behind the other -/
def withShs : List Sh → (List Value → Prop) → Prop
  | [], f => f []
  | s :: r, f => withSh s fun v => withShs r fun vs => f (v :: vs)
end
mutual
theorem withSh_some : ∀ {s : Sh} {f : Value → Prop}, withSh s f → ∃ v, f v
  | .int _, _, h | .bool, _, h | .str, _, h | .ptr, _, h | .map, _, h | .any, _, h => by
    simp only [withSh] at h; obtain ⟨_, h⟩ := h; exact ⟨_, h⟩
  | .slice, _, h => by simp only [withSh] at h; obtain ⟨_, _, _, h⟩ := h; exact ⟨_, h⟩
  | .agg _, _, h => by simp only [withSh] at h; obtain ⟨_, _, h⟩ := h; exact ⟨_, h⟩
  | .struct _, _, h => by simp only [withSh] at h; exact let ⟨vs, h⟩ := withShs_some h; ⟨_, h⟩
  | .tuple _, _, h => by simp only [withSh] at h; exact let ⟨vs, h⟩ := withShs_some h; ⟨_, h⟩
theorem withShs_some : ∀ {l : List Sh} {f : List Value → Prop}, withShs l f → ∃ vs, f vs
  | [], _, h => ⟨_, h⟩
  | _ :: _, _, h => by
    simp only [withShs] at h
    obtain ⟨v, h⟩ := withSh_some h
    exact let ⟨vs, h⟩ := withShs_some h; ⟨_, h⟩
end

/-! ### environments -/
/-- The temporaries that are known: how many there are; what was written, the last first (what was never written is undef). -/
structure Env where
  length : Nat
  said : List (Nat × Option Value)
def Env.find : List (Nat × Option Value) → Nat → Option Value
  | [], _ => some undef
  | (m, v) :: r, n => match Nat.beq m n with
    | true => v
    | false => Env.find r n
def Env.get : Env → Nat → Option Value
  | ⟨s, l⟩, n => match Nat.blt n s with
    | true => Env.find l n
    | false => none
def Env.set : Env → Nat → Option Value → Env
  | ⟨s, l⟩, n, v => ⟨s, (n, v) :: l⟩
def Env.put (e : Env) : Option Nat → Option Value → Env
  | some d, v => Env.set e d v
  | none, _ => e
/-- What the environment says of the temporaries. -/
def Agree (e : Env) (t : Array Value) : Prop := e.length = t.size ∧ ∀ n v, Env.get e n = some v → t.getD n undef = v

theorem Env.set_length (e : Env) (n : Nat) (v : Option Value) : (Env.set e n v).length = e.length := rfl
theorem blt_iff {n s : Nat} : Nat.blt n s = true ↔ n < s := by
  unfold Nat.blt; exact ⟨Nat.le_of_ble_eq_true, Nat.ble_eq_true_of_le⟩
theorem Env.get_of_lt {e : Env} {n : Nat} (h : n < e.length) : Env.get e n = Env.find e.said n := by
  obtain ⟨s, l⟩ := e
  have hb : Nat.blt n s = true := blt_iff.2 h
  show (match Nat.blt n s with | true => Env.find l n | false => none) = _
  rw [hb]
theorem Env.get_of_ge {e : Env} {n : Nat} (h : ¬ n < e.length) : Env.get e n = none := by
  obtain ⟨s, l⟩ := e
  have hb : Nat.blt n s = false := by rw [← Bool.not_eq_true]; exact fun hb => h (blt_iff.1 hb)
  show (match Nat.blt n s with | true => Env.find l n | false => none) = _
  rw [hb]
theorem Env.get_set_same (e : Env) (n : Nat) (v : Option Value) (h : n < e.length) : Env.get (Env.set e n v) n = v := by
  rw [Env.get_of_lt (by rw [Env.set_length]; exact h)]
  show Env.find ((n, v) :: e.said) n = v
  unfold Env.find
  have : Nat.beq n n = true := by simp
  rw [this]
theorem Env.get_set_ne (e : Env) (n m : Nat) (v : Option Value) (h : n ≠ m) : Env.get (Env.set e n v) m = Env.get e m := by
  by_cases hm : m < e.length
  · rw [Env.get_of_lt hm, Env.get_of_lt (by rw [Env.set_length]; exact hm)]
    show Env.find ((n, v) :: e.said) m = _
    conv => lhs; unfold Env.find
    have : Nat.beq n m = false := by rw [← Bool.not_eq_true]; exact fun e => h (Nat.eq_of_beq_eq_true e)
    rw [this]
  · rw [Env.get_of_ge hm, Env.get_of_ge (by rw [Env.set_length]; exact hm)]
theorem Env.get_lt {e : Env} {n : Nat} {v : Value} (h : Env.get e n = some v) : n < e.length := by
  by_cases hm : n < e.length
  · exact hm
  · rw [Env.get_of_ge hm] at h; cases h

theorem Agree.set {e : Env} {t : Array Value} (h : Agree e t) (n : Nat) (v : Value) (u : Option Value) (hu : u = none ∨ u = some v) : Agree (Env.set e n u) (t.setIfInBounds n v) := by
  refine ⟨by simp [Env.set_length, h.1], fun m x hm => ?_⟩
  by_cases hnm : n = m
  · subst hnm
    have hlt := Env.get_lt hm
    rw [Env.set_length] at hlt
    rw [Env.get_set_same e n u hlt] at hm
    rcases hu with rfl | rfl
    · cases hm
    · obtain rfl := Option.some.inj hm
      have : n < t.size := by rw [← h.1]; exact hlt
      simp [this]
  · rw [Env.get_set_ne _ _ _ _ hnm] at hm
    have := h.2 m x hm
    rw [Array.getD_eq_getD_getElem?] at this ⊢
    rw [Array.getElem?_setIfInBounds_ne hnm]; exact this
theorem Agree.put {e : Env} {a : Act} (h : Agree e a.tmps) (d : Option Nat) (v : Value) : Agree (Env.put e d (some v)) (a.put d v).tmps := by
  cases d with
  | none => exact h
  | some d => exact h.set d v _ (.inr rfl)
/-- What is forgotten agrees all the same. -/
theorem Agree.weaken {e e' : Env} {t : Array Value} (h : Agree e t) (hl : e'.length = e.length) (hg : ∀ n v, Env.get e' n = some v → Env.get e n = some v) : Agree e' t :=
  ⟨hl.trans h.1, fun n v hn => h.2 n v (hg n v hn)⟩

def opv (e : Env) : Operand → Option Value
  | .tmp t => Env.get e t
  | .const v => some v
  | .global g => some (.pointer (some ⟨g, 0, none⟩))
  | .func f => some (.func (.func f) #[] #[])
theorem opv_eval {e : Env} {a : Act} (h : Agree e a.tmps) {x : Operand} {v : Value} (hx : opv e x = some v) : a.eval x = v := by
  cases x with
  | tmp t => exact h.2 t v hx
  | const u => exact Option.some.inj hx
  | global g => exact Option.some.inj hx
  | func f => exact Option.some.inj hx

def opvs (e : Env) : List Operand → Option (List Value)
  | [] => some []
  | x :: l => match opv e x, opvs e l with
    | some v, some vs => some (v :: vs)
    | _, _ => none
theorem opvs_eval {e : Env} {a : Act} (h : Agree e a.tmps) : ∀ {l : List Operand} {vs : List Value}, opvs e l = some vs → l.map a.eval = vs
  | [], vs, hl => by simp [opvs] at hl; simp [← hl]
  | x :: l, vs, hl => by
    simp only [opvs] at hl
    split at hl
    · rename_i v vs' hv hvs
      obtain rfl := Option.some.inj hl
      simp [opv_eval h hv, opvs_eval h hvs]
    · cases hl

/-- the environment, laid open -/
def withEnv (e : Env) (K : Env → Prop) : Prop := match e with
  | ⟨s, l⟩ => K ⟨s, l⟩
theorem withEnv_eq (e : Env) (K : Env → Prop) : withEnv e K = K e := rfl

/-- a test; what is tested stands last, so that the kernel compares it first -/
def brL (p q : Prop) (b : Bool) : Prop := match b with
  | true => p
  | false => q
/-- a test -/
abbrev br (b : Bool) (p q : Prop) : Prop := brL p q b
theorem br_iff {b : Bool} {p q : Prop} : br b p q ↔ (b = true → p) ∧ (b = false → q) := by cases b <;> simp [br, brL]
theorem br_of {b : Bool} {p q : Prop} (h1 : b = true → p) (h2 : b = false → q) : br b p q := br_iff.2 ⟨h1, h2⟩
theorem br_imp {b : Bool} {p q r : Prop} (h : br b p q) (hp : b = true → p → r) (hq : b = false → q → r) : r := by cases b; exact hq rfl h; exact hp rfl h
/-- c && x where both are read -/
abbrev bsel (c x y : Bool) : Bool := match c with
  | true => x
  | false => y

end Go.Vc
