import Derived.Test.YtcfegbpoailbdaaDoorVcD
import Derived.Test.YtcfegbpoailbdaaDoorVcE

namespace Go.Vc
set_option linter.unusedVariables false

def updC (a : Addr) (v : Value) : Obj → Obj
  | .cells c elem frozen => .cells (if a.spot.isSome then c else c.setIfInBounds a.off v) elem frozen
  | o => o
def setC (h : Heap) (a : Addr) (v : Value) : Heap := h.modify a.block (updC a v)
def setCs (h : Heap) (a : Addr) : Nat → List Value → Heap
  | _, [] => h
  | i, v :: r => setCs (setC h (a.add i) v) a (i + 1) r
/-- a cell that may be written -/
def Wr (h : Heap) (a : Addr) : Prop := (∃ v, cell h a = some v) ∧ frz h a = false
/-- a value of one cell -/
def one : Value → Bool
  | .agg _ | .tuple _ => false
  | _ => true
/-- a new block -/
structure New (h : Heap) (b : Nat) (o : Obj) (h' : Heap) : Prop where
  at_ : b = h.size
  eq : h' = h.push o
/-- cells written -/
def Put (h : Heap) (a : Addr) (vs : List Value) (h' : Heap) : Prop := h' = setCs h a 0 vs

/-- A store of a value into a variable of n cells. -/
def storeK (n : Nat) (h : Heap) (a : Addr) (v : Value) (K : Heap → Prop) : Prop :=
  match v with
  | .agg cs => cs.size = n ∧ (∀ u ∈ cs.toList, one u = true) ∧ (∀ i, i < n → Wr h (a.add i)) ∧ ∀ h', Put h a cs.toList h' → K h'
  | .tuple _ => False
  | v => n = 1 ∧ Wr h a ∧ ∀ h', Put h a [v] h' → K h'
def newK (h : Heap) (o : Obj) (K : Nat → Heap → Prop) : Prop := ∀ b h', New h b o h' → K b h'
def mkCells (z : Array Value) (n : Nat) : Array Value := (Array.range n).map (z[· % z.size]!)

/-- What is appended, or copied: so many elements, these cells. -/
def srcK (h : Heap) (size : Nat) (x : Value) (m : Nat) (news : List Value) : Prop :=
  match x with
  | .slice a l _ => m = l ∧ news.length = l * size ∧ (∀ ad, a = some ad → CellsAt h ad news) ∧ (a = none → news = [])
  | .string s => m = s.size ∧ news = bytesV s
  | _ => False
/-- An append: the slice's address, length, capacity behind it, and the heap. -/
def appK (P : Program) (el : TypeId) (h : Heap) (a : Option Addr) (l c : Nat) (x : Value) (K : Option Addr → Nat → Nat → Heap → Prop) : Prop :=
  ∃ (m : Nat) (news : List Value), srcK h (P.cellsOf el) x m news ∧
    (l + m ≤ c → (∀ u ∈ news, one u = true) ∧ (∀ ad, a = some ad → ∀ i, i < news.length → Wr h ((ad.add (l * P.cellsOf el)).add i)) ∧
      ∀ h', (∀ ad, a = some ad → Put h (ad.add (l * P.cellsOf el)) news h') → (a = none → h' = h) → K a (l + m) c h') ∧
    (c < l + m → ∃ olds : List Value, olds.length = l * P.cellsOf el ∧ (∀ ad, a = some ad → CellsAt h ad olds) ∧ (a = none → olds = []) ∧
      Builtin.nextslicecap (l + m) c * P.bytesOf el ≤ 281474976710656 ∧
      ∀ c' b h', l + m ≤ c' → New h b (.cells (olds.toArray ++ news.toArray ++ Builtin.zeroCells (((P.info? el).bind (·.zero)).getD undef).cells (c' - (l + m))) el) h' → K (some ⟨b, 0, none⟩) (l + m) c' h')
/-- A copy: how many elements, and the heap. -/
def copyK (P : Program) (el : TypeId) (h : Heap) (a : Option Addr) (l : Nat) (x : Value) (K : Int → Heap → Prop) : Prop :=
  ∃ (m : Nat) (news : List Value), (∃ all : List Value, srcK h (P.cellsOf el) x m all ∧ news = all.take (min m l * P.cellsOf el)) ∧
    (∀ u ∈ news, one u = true) ∧ (∀ ad, a = some ad → ∀ i, i < news.length → Wr h (ad.add i)) ∧
    ∀ h', (∀ ad, a = some ad → Put h ad news h') → (a = none → h' = h) → K (min m l : Nat) h'
/-- The bytes that a constant text was made into: their block is marked behind its end. -/
def markO : Obj → Obj
  | .cells c t (lo, hi) => .cells c t (if lo == hi then (c.size, c.size + 1) else (min lo c.size, max hi (c.size + 1)))
  | o => o
def markK (h : Heap) (b : Nat) (K : Heap → Prop) : Prop := (∃ c t fr, h[b]? = some (.cells c t fr)) ∧ ∀ h', h' = h.modify b markO → K h'
/-- Any other operation: it comes to a value. -/
def semK (P : Program) (s : Sem Value) (h : Heap) (K : Value → Heap → Prop) : Prop :=
  ∀ w : World, w.heap = h → ∃ v w', s.run P w = .ok v w' ∧ Kin w w' ∧ K v w'.heap
def semU (P : Program) (s : Sem Unit) (h : Heap) (K : Heap → Prop) : Prop :=
  ∀ w : World, w.heap = h → ∃ w', s.run P w = .ok () w' ∧ Kin w w' ∧ K w'.heap

def catCells : List (Nat × Value) → List Value
  | [] => []
  | (_, v) :: r => v.cells.toList ++ catCells r
/-- the parts are the elements one behind the other, from the k-th on -/
def seqParts (size : Nat) : Nat → List (Nat × Value) → (Prop → Prop)
  | _, [], p => p
  | k, (i, v) :: r, p => match Nat.beq i k with
    | true => match v with
      | .agg cs => cs.size = size ∧ seqParts size (k + 1) r p
      | _ => match size with
        | 1 => seqParts size (k + 1) r p
        | _ => False
    | false => False
def partsV (e : Env) : List (Nat × Operand) → Option (List (Nat × Value))
  | [] => some []
  | (i, x) :: l => match opv e x, partsV e l with
    | some v, some vs => some ((i, v) :: vs)
    | _, _ => none

/-- a struct put together: each part over the zero value's cells (nz: how many these are) -/
def buildK (P : Program) (fs : Array Field) (nz : Nat) : List (Nat × Value) → List Value → (List Value → Prop) → Prop
  | [], z, K => K z
  | (i, v) :: r, z, K => match fs[i]? with
    | some f => match Nat.ble (f.offset + P.cellsOf f.type) nz with
      | true => match v with
        | .agg cs => cs.size = P.cellsOf f.type ∧ buildK P fs nz r (z.take f.offset ++ cs.toList ++ z.drop (f.offset + P.cellsOf f.type)) K
        | v => match P.cellsOf f.type with
          | 1 => buildK P fs nz r (z.set f.offset v) K
          | _ => False
      | false => False
    | none => False
def buildV (P : Program) (t : TypeId) (parts : Option (List (Nat × Value))) (K : Option Value → Prop) : Prop :=
  match parts with
  | some vs => match (P.info? t).bind (·.zero), P.underlying t with
    | some z, some (.struct fs) => match fs.toList.all fun f => (P.info? f.type).isSome with
      | true => buildK P fs z.cells.size vs z.cells.toList fun l => K (some (.agg l.toArray))
      | false => False
    | some z, some (.array n el) => match vs with
      | [] => match P.info? el with
        | some _ => K (some (.agg z.cells))
        | none => False
      | _ => match Nat.beq vs.length n, P.info? el, Nat.beq z.cells.size (n * P.cellsOf el) with
        | true, some _, true => seqParts (P.cellsOf el) 0 vs (K (some (.agg (catCells vs).toArray)))
        | _, _, _ => False
    | _, _ => False
  | none => False

/-- A call's result, by its type. -/
def resK (P : Program) (t : TypeId) (K : Option Value → Heap → Prop) (v : Value) (h : Heap) : Prop := withSh (sh P t) fun u => v = u ∧ K (some u) h

def callK (P : Program) (t : TypeId) (f : Option Value) (args : Option (List Value)) (h : Heap) (K : Option Value → Heap → Prop) : Prop :=
  match f, args with
  | some (.func (.func g) first captured), some vs => HCalls P g (first.toList ++ vs ++ captured.toList).toArray h (resK P t K)
  | _, _ => False

def isIntD : TypeDesc → Bool
  | .int _ => true
  | _ => false
def vcEff (P : Program) (A : Ann) (o : Oper) (e : Env) (h : Heap) (K : Option Value → Heap → Prop) : Prop :=
  match o.op with
  | .alloc t => match (P.info? t).bind (·.zero) with
    | some z => newK h (.cells z.cells t) fun b h' => K (some (.pointer (some ⟨b, 0, none⟩))) h'
    | none => False
  | .box t x => match opv e x with
    | some v => newK h (.cells v.cells t) fun b h' => K (some (.pointer (some ⟨b, 0, none⟩))) h'
    | none => False
  | .store t x y => match opv e x, opv e y with
    | some (.pointer (some ad)), some v => match P.underlying t with
      | some _ => storeK (P.cellsOf t) h ad v fun h' => K none h'
      | none => False
    | _, _ => False
  | .build t parts => buildV P t (partsV e parts.toList) fun v => K v h
  | .buildSlice t len parts => match P.underlying t, partsV e parts.toList with
    | some (.slice el), some vs => match Nat.beq vs.length len, (P.info? el).bind (·.zero) with
      | true, some _ => seqParts (P.cellsOf el) 0 vs (len * P.cellsOf el ≤ 16777216 ∧ newK h (.cells (catCells vs).toArray el) fun b h' => K (some (.slice (some ⟨b, 0, none⟩) len len)) h')
      | _, _ => False
    | _, _ => False
  | .makeSlice t x y => match opv e x, opv e y with
    | some (.int _ l), some (.int _ c) => match P.underlying t with
      | some (.slice el) => match (P.info? el).bind (·.zero) with
        | some z => 0 ≤ l ∧ l ≤ c ∧ P.bytesOf el * c ≤ 281474976710656 ∧ c < 9223372036854775808 ∧
            newK h (.cells (mkCells z.cells (c.toNat * P.cellsOf el)) el) fun b h' => K (some (.slice (some ⟨b, 0, none⟩) l.toNat c.toNat)) h'
        | none => False
      | _ => False
    | _, _ => False
  | .makeMap _ none => newK h (.map #[] 0) fun b h' => K (some (.map (some b))) h'
  | .convert s d x => match P.underlying d with
    | some (.slice el) => match P.underlying el with
      | some (.int .u8) => match P.underlying s with
        | some _ => match opv e x with
          | some (.string b) => ∀ c b' h', b.size ≤ c → New h b' (.cells ((bytesV b).toArray ++ Array.replicate (c - b.size) (.int .u8 0)) el (c, c + 1)) h' → K (some (.slice (some ⟨b', 0, none⟩) b.size c)) h'
          | some (.slice (some ad) l c) => match Nat.beq s d with
            | true => markK h ad.block fun h' => K (some (.slice (some ad) l c)) h'
            | false => False
          | _ => False
        | none => False
      | _ => False
    | _ => vcPure P A o e h fun v => K v h
  | .lookup t x i ok => match opv e x, opv e i with
    | some m, some k => semK P (Instr.lookup t m k ok) h fun v h' => resK P o.type K v h'
    | _, _ => False
  | .mapUpdate t m k x | .insert t m k x => match opv e m, opv e k, opv e x with
    | some m, some k, some v => semU P (Instr.mapUpdate t m k v) h fun h' => K none h'
    | _, _, _ => False
  | .mapEntry t m k => match opv e m, opv e k with
    | some m, some k => match P.underlying t with
      | some (.map _ el) => semK P (Instr.mapEntry t m k) h fun v h' => withSh (sh P el) fun u => ∃ n : Int, v = .tuple #[u, .int .i64 n] ∧ K (some (.tuple #[u, .int .i64 n])) h'
      | _ => False
    | _, _ => False
  | .entryStore t m s x => match opv e m, opv e s, opv e x with
    | some m, some s, some v => semU P (Instr.entryStore t m s v) h fun h' => K none h'
    | _, _, _ => False
  | .range t x => match opv e x with
    | some v => semK P (Instr.range t v) h fun v h' => ∃ b : Nat, v = .pointer (some ⟨b, 0, none⟩) ∧ K (some (.pointer (some ⟨b, 0, none⟩))) h'
    | none => False
  | .next it b => match opv e it with
    | some v => semK P (Instr.next v b o.type) h fun v h' => (v = .tuple #[.bool false] ∧ K (some (.tuple #[.bool false])) h') ∨ (∃ k u : Value, v = .tuple #[.bool true, k, u] ∧ K (some (.tuple #[.bool true, k, u])) h')
    | none => False
  | .entry it => match opv e it, fnOf A.ents o.dst with
    | some v, some (kt, et) => semK P (Instr.entry v) h fun v h' => withSh (sh P kt) fun k => withSh (sh P et) fun u => v = .tuple #[k, u] ∧ K (some (.tuple #[k, u])) h'
    | _, _ => False
  | .sliceToArrayPointer t x => match opv e x with
    | some (.slice a l _) => match P.underlying t with
      | some (.array n _) => n ≤ l ∧ K (some (.pointer a)) h
      | _ => False
    | _ => False
  | .call c => match c.callee with
    | .builtin .append => match c.argTypes.toList, opvs e c.args.toList with
      | [t, u], some [.slice a l cp, x] => match P.underlying t, P.underlying u with
        | some (.slice el), some d => match P.underlying el, isIntD d with
          | some _, false => match Nat.beq (P.bytesOf el) 0, (P.info? el).bind (·.zero) with
            | false, some _ => appK P el h a l cp x fun a' l' c' h' => K (some (.slice a' l' c')) h'
            | _, _ => False
          | _, _ => False
        | _, _ => False
      | _, _ => False
    | .builtin .copy => match c.argTypes.toList, opvs e c.args.toList with
      | t :: _, some [.slice a l _, x] => match P.underlying t with
        | some (.slice el) => match P.underlying el with
          | some _ => match (match x with | .string _ => Nat.beq (P.cellsOf el) 1 | _ => true) with
            | true => copyK P el h a l x fun n h' => K (some (.int .i64 n)) h'
            | false => False
          | none => False
        | _ => False
      | _, _ => False
    | .builtin .delete => match opvs e c.args.toList with
      | some vs => semK P (Builtin.delete_ c.argTypes o.type vs.toArray) h fun v h' => K (some v) h'
      | none => False
    | .builtin .clear => match opvs e c.args.toList with
      | some vs => semK P (Builtin.clear_ c.argTypes o.type vs.toArray) h fun v h' => K (some v) h'
      | none => False
    | .builtin .len => match c.argTypes.toList with
      | t :: _ => match P.underlying t with
        | some (.map _ _) => match opvs e c.args.toList with
          | some vs => semK P (Builtin.len_ c.argTypes o.type vs.toArray) h fun v h' => resK P o.type K v h'
          | none => False
        | _ => vcPure P A o e h fun v => K v h
      | [] => False
    | .value f => callK P o.type (opv e f) (opvs e c.args.toList) h K
    | _ => vcPure P A o e h fun v => K v h
  | _ => vcPure P A o e h fun v => K v h

/-- an operation that may panic -/
def vcEffP (P : Program) (A : Ann) (o : Oper) (e : Env) (h : Heap) (K : Option Value → Heap → Prop) : Prop :=
  match A.yld with
  | true => (match o.op with
    | .call c => match c.callee with
      | .value f => match opv e f, opvs e c.args.toList with
        | some (.func (.yield l) first captured), some vs => HYield P l (first.toList ++ vs).toArray h (resK P o.type K)
        | _, _ => vcEff P A o e h K
      | _ => vcEff P A o e h K
    | _ => vcEff P A o e h K)
  | false => match A.pans with
  | none => vcEff P A o e h K
  | some ps => match o.op with
    | .panic x => match opv e x with
      | some (.iface _ _) => A.pan h
      | _ => False
    | .call c => match c.callee with
      | .value f => match opv e f, opvs e c.args.toList with
        | some (.func (.func g) first captured), some vs => match ps.contains g with
          | true => HCallsP P g (first.toList ++ vs ++ captured.toList).toArray h (resK P o.type K) A.pan
          | false => vcEff P A o e h K
        | _, _ => False
      | _ => vcEff P A o e h K
    | _ => vcEff P A o e h K
/-- Operations in sequence. 'all': the whole region, for the guards. -/
def vcOps (P : Program) (A : Ann) (all : List Oper) : List Oper → Env → Heap → (Env → Heap → Prop) → Prop
  | [], e, h, K => K e h
  | o :: r, e, h, K => match o.guard with
    | none => vcEffP P A o e h fun v h' => withEnv (Env.put e o.dst v) fun e2 => vcOps P A all r e2 h' K
    | some (j, want) => match (all[j]?).bind (·.dst) with
      | some d => match Env.get e d with
        | some (.bool b) => match want with
          | true => br b (vcEffP P A o (Env.set e d (some (.bool true))) h fun v h' => withEnv (Env.put (Env.set e d (some (.bool true))) o.dst v) fun e2 => vcOps P A all r e2 h' K)
              (withEnv (Env.put (Env.set e d (some (.bool false))) o.dst (some undef)) fun e2 => vcOps P A all r e2 h K)
          | false => br b (withEnv (Env.put (Env.set e d (some (.bool true))) o.dst (some undef)) fun e2 => vcOps P A all r e2 h K)
              (vcEffP P A o (Env.set e d (some (.bool false))) h fun v h' => withEnv (Env.put (Env.set e d (some (.bool false))) o.dst v) fun e2 => vcOps P A all r e2 h' K)
        | some (.tuple _) => withEnv (Env.put e o.dst (some undef)) fun e2 => vcOps P A all r e2 h K
        | _ => False
      | none => False

/-- which heaps a region that draws may see: the one that it began with, or that one grown -/
def Cls (ext : Bool) (h h' : Heap) : Prop := match ext with
  | true => Ext h h'
  | false => h' = h
/-- one operation of a quiet head -/
def vcQo (P : Program) (A : Ann) (ext : Bool) (o : Oper) (e : Env) (h : Heap) (K : Option Value → Prop) : Prop :=
  match o.op with
  | .call c => match c.callee with
    | .value f => match opv e f, opvs e c.args.toList with
      | some (.func (.func g) first captured), some vs => withSh (sh P o.type) fun u => (∀ h1, Cls ext h h1 → HEnt P g (first.toList ++ vs ++ captured.toList).toArray h1 fun v h2 => v = u ∧ Cls ext h1 h2) ∧ K (some u)
      | _, _ => False
    | _ => vcPure P A o e h K
  | .lookup t x i ok => match opv e x, opv e i with
    | some m, some k => withSh (sh P o.type) fun u => (∀ w : World, Cls ext h w.heap → (Instr.lookup t m k ok).run P w = .ok u w) ∧ K (some u)
    | _, _ => False
  | .build t parts => buildV P t (partsV e parts.toList) K
  | _ => vcPure P A o e h K
def vcQ (P : Program) (A : Ann) (ext : Bool) (all : List Oper) : List Oper → Env → Heap → (Env → Prop) → Prop
  | [], e, _, K => K e
  | o :: r, e, h, K => match o.guard with
    | none => vcQo P A ext o e h fun v => withEnv (Env.put e o.dst v) fun e2 => vcQ P A ext all r e2 h K
    | some (j, want) => match (all[j]?).bind (·.dst) with
      | some d => match Env.get e d with
        | some (.bool b) => match want with
          | true => br b (vcQo P A ext o (Env.set e d (some (.bool true))) h fun v => withEnv (Env.put (Env.set e d (some (.bool true))) o.dst v) fun e2 => vcQ P A ext all r e2 h K)
              (withEnv (Env.put (Env.set e d (some (.bool false))) o.dst (some undef)) fun e2 => vcQ P A ext all r e2 h K)
          | false => br b (withEnv (Env.put (Env.set e d (some (.bool true))) o.dst (some undef)) fun e2 => vcQ P A ext all r e2 h K)
              (vcQo P A ext o (Env.set e d (some (.bool false))) h fun v => withEnv (Env.put (Env.set e d (some (.bool false))) o.dst v) fun e2 => vcQ P A ext all r e2 h K)
        | some (.tuple _) => withEnv (Env.put e o.dst (some undef)) fun e2 => vcQ P A ext all r e2 h K
        | _ => False
      | none => False

/-! ### code -/
inductive Ex where
  | normal
  | exit (id : Nat)
  | goto (l : Nat)
  | ret

/-- the first region's number -/
def firstRegion : Code → Nat
  | .region id _ _ => id
  | .seq a _ => firstRegion a
  | .block _ b => firstRegion b
  | .loop b => firstRegion b
  | .scope b => firstRegion b
  | _ => 0
/-- the slots that are written -/
def writes : Code → List Nat
  | .region _ ops _ => ops.toList.filterMap (·.dst)
  | .seq a b => writes a ++ writes b
  | .cond _ a b => writes a ++ writes b
  | .block _ b => writes b
  | .loop b => writes b
  | .scope b => writes b
  | _ => []
def kills : List Nat → Env → Env
  | [], e => e
  | d :: r, e => kills r (Env.set e d none)
def ann {α : Type} (l : List (Nat × α)) (n : Nat) : Option α := match l with
  | [] => none
  | (m, x) :: r => match Nat.beq m n with
    | true => some x
    | false => ann r n

/-- for all values of these shapes in these slots -/
def allIn : List (Nat × Sh) → Env → (Env → Prop) → Prop
  | [], e, f => withEnv e f
  | (d, .int k) :: r, e, f => ∀ n : Int, allIn r (Env.set e d (some (.int k n))) f
  | (d, .bool) :: r, e, f => ∀ b : Bool, allIn r (Env.set e d (some (.bool b))) f
  | (d, .str) :: r, e, f => ∀ s : ByteArray, allIn r (Env.set e d (some (.string s))) f
  | (d, .ptr) :: r, e, f => ∀ a : Option Addr, allIn r (Env.set e d (some (.pointer a))) f
  | (d, .slice) :: r, e, f => ∀ (a : Option Addr) (l c : Nat), allIn r (Env.set e d (some (.slice a l c))) f
  | (d, .map) :: r, e, f => ∀ m : Option Nat, allIn r (Env.set e d (some (.map m))) f
  | (d, _) :: r, e, f => ∀ v : Value, allIn r (Env.set e d (some v)) f
/-- what is said of values of these shapes -/
@[reducible] def Inv : List (Nat × Sh) → Type
  | [] => Heap → Prop
  | (_, .int _) :: r => Int → Inv r
  | (_, .bool) :: r => Bool → Inv r
  | (_, .str) :: r => ByteArray → Inv r
  | (_, .ptr) :: r => Option Addr → Inv r
  | (_, .slice) :: r => Option Addr → Nat → Nat → Inv r
  | (_, .map) :: r => Option Nat → Inv r
  | (_, _) :: r => Value → Inv r
@[reducible] def Meas : List (Nat × Sh) → Type
  | [] => Heap → Nat
  | (_, .int _) :: r => Int → Meas r
  | (_, .bool) :: r => Bool → Meas r
  | (_, .str) :: r => ByteArray → Meas r
  | (_, .ptr) :: r => Option Addr → Meas r
  | (_, .slice) :: r => Option Addr → Nat → Nat → Meas r
  | (_, .map) :: r => Option Nat → Meas r
  | (_, _) :: r => Value → Meas r
/-- it holds of the values in the slots -/
def invAt : (l : List (Nat × Sh)) → Inv l → Env → Heap → Prop
  | [], I, _, h => I h
  | (d, .int k) :: r, I, e, h => match Env.get e d with
    | some (.int k' n) => ifK k k' (invAt r (I n) e h)
    | _ => False
  | (d, .bool) :: r, I, e, h => match Env.get e d with
    | some (.bool b) => invAt r (I b) e h
    | _ => False
  | (d, .str) :: r, I, e, h => match Env.get e d with
    | some (.string s) => invAt r (I s) e h
    | _ => False
  | (d, .ptr) :: r, I, e, h => match Env.get e d with
    | some (.pointer a) => invAt r (I a) e h
    | _ => False
  | (d, .slice) :: r, I, e, h => match Env.get e d with
    | some (.slice a l c) => invAt r (I a l c) e h
    | _ => False
  | (d, .map) :: r, I, e, h => match Env.get e d with
    | some (.map m) => invAt r (I m) e h
    | _ => False
  | (d, .any) :: r, I, e, h | (d, .agg _) :: r, I, e, h | (d, .struct _) :: r, I, e, h | (d, .tuple _) :: r, I, e, h => match Env.get e d with
    | some v => invAt r (I v) e h
    | _ => False
/-- the measure there is less than m -/
def measAt : (l : List (Nat × Sh)) → Meas l → Env → Heap → (Nat → Prop) → Prop
  | [], M, _, h, f => f (M h)
  | (d, .int _) :: r, M, e, h, f => match Env.get e d with
    | some (.int _ n) => measAt r (M n) e h f
    | _ => False
  | (d, .bool) :: r, M, e, h, f => match Env.get e d with
    | some (.bool b) => measAt r (M b) e h f
    | _ => False
  | (d, .str) :: r, M, e, h, f => match Env.get e d with
    | some (.string s) => measAt r (M s) e h f
    | _ => False
  | (d, .ptr) :: r, M, e, h, f => match Env.get e d with
    | some (.pointer a) => measAt r (M a) e h f
    | _ => False
  | (d, .slice) :: r, M, e, h, f => match Env.get e d with
    | some (.slice a l c) => measAt r (M a l c) e h f
    | _ => False
  | (d, .map) :: r, M, e, h, f => match Env.get e d with
    | some (.map m) => measAt r (M m) e h f
    | _ => False
  | (d, .any) :: r, M, e, h, f | (d, .agg _) :: r, M, e, h, f | (d, .struct _) :: r, M, e, h, f | (d, .tuple _) :: r, M, e, h, f => match Env.get e d with
    | some v => measAt r (M v) e h f
    | _ => False

/-- An operation that makes a block: the block, and the value by the block's number. -/
def vcA (P : Program) (o : Oper) (e : Env) (f : Obj → (Nat → Value) → Prop) : Prop :=
  match o.op with
  | .box t x => match opv e x with
    | some v => f (.cells v.cells t) fun b => .pointer (some ⟨b, 0, none⟩)
    | none => False
  | .alloc t => match (P.info? t).bind (·.zero) with
    | some z => f (.cells z.cells t) fun b => .pointer (some ⟨b, 0, none⟩)
    | none => False
  | .buildSlice t len parts => match P.underlying t, partsV e parts.toList with
    | some (.slice el), some vs => match Nat.beq vs.length len, (P.info? el).bind (·.zero) with
      | true, some _ => seqParts (P.cellsOf el) 0 vs (len * P.cellsOf el ≤ 16777216 ∧ f (.cells (catCells vs).toArray el) fun b => .slice (some ⟨b, 0, none⟩) len len)
      | _, _ => False
    | _, _ => False
  | _ => False

/-- an operation that is asked for, or not -/
def vcGuard (all : List Oper) (o : Oper) (e : Env) (run skip : Env → Prop) : Prop :=
  match o.guard with
  | none => run e
  | some (j, want) => match (all[j]?).bind (·.dst) with
    | some d => match Env.get e d with
      | some (.bool b) => match want with
        | true => br b (run (Env.set e d (some (.bool true)))) (skip (Env.set e d (some (.bool false))))
        | false => br b (skip (Env.set e d (some (.bool true)))) (run (Env.set e d (some (.bool false))))
      | some (.tuple _) => skip e
      | _ => False
    | none => False
/-- a quiet operation of a mixed region: what it comes to in every memory that may come -/
def vcMq (P : Program) (A : Ann) (Rl : Heap → Heap → Prop) (o : Oper) (e : Env) (h : Heap) (K : Option Value → Prop) : Prop :=
  match o.op with
  | .load t x => match opv e x with
    | some (.pointer (some ad)) => withSh (sh P t) fun u => (∀ w : World, Rl h w.heap → (loadVar t ad).run P w = .ok u w) ∧ K (some u)
    | _ => False
  | .lookup t x i ok => match opv e x, opv e i with
    | some m, some k => withSh (sh P o.type) fun u => (∀ w : World, Rl h w.heap → (Instr.lookup t m k ok).run P w = .ok u w) ∧ K (some u)
    | _, _ => False
  | .build t parts => buildV P t (partsV e parts.toList) K
  | .convert s d x => match opv e x with
    | some (.slice a l c) => match P.underlying d with
      | some .string => withSh .str fun u => (∀ w : World, Rl h w.heap → (convert s d (.slice a l c)).run P w = .ok u w) ∧ K (some u)
      | _ => vcPure P A o e #[] K
    | _ => vcPure P A o e #[] K
  | _ => vcPure P A o e #[] K
def vcM (P : Program) (A : Ann) (Rl : Heap → Heap → Prop) (all : List Oper) : Mix → Env → Heap → (Env → Heap → Prop) → Prop
  | .done, e, h, K => K e h
  | .quiet i r, e, h, K => match all[i]? with
    | none => False
    | some o => vcGuard all o e
        (fun e1 => vcMq P A Rl o e1 h fun v => withEnv (Env.put e1 o.dst v) fun e2 => vcM P A Rl all r e2 h K)
        (fun e1 => withEnv (Env.put e1 o.dst (some undef)) fun e2 => vcM P A Rl all r e2 h K)
  | .one i r, e, h, K => match all[i]? with
    | none => False
    | some o => vcGuard all o e
        (fun e1 => vcEff P A o e1 h fun v h' => Rl h h' ∧ withEnv (Env.put e1 o.dst v) fun e2 => vcM P A Rl all r e2 h' K)
        (fun e1 => withEnv (Env.put e1 o.dst (some undef)) fun e2 => vcM P A Rl all r e2 h K)
  | .two i r j s, e, h, K => match all[i]?, all[j]? with
    | some o, some o' => (vcGuard all o e
        (fun e1 => vcEff P A o e1 h fun v h' => Rl h h' ∧ withEnv (Env.put e1 o.dst v) fun e2 => vcM P A Rl all r e2 h' K)
        (fun e1 => withEnv (Env.put e1 o.dst (some undef)) fun e2 => vcM P A Rl all r e2 h K)) ∧
      vcGuard all o' e
        (fun e1 => vcEff P A o' e1 h fun v h' => Rl h h' ∧ withEnv (Env.put e1 o'.dst v) fun e2 => vcM P A Rl all s e2 h' K)
        (fun e1 => withEnv (Env.put e1 o'.dst (some undef)) fun e2 => vcM P A Rl all s e2 h K)
    | _, _ => False
  | .three i r j s k u, e, h, K => match all[i]?, all[j]?, all[k]? with
    | some o, some o', some o3 => (vcGuard all o e
        (fun e1 => vcEff P A o e1 h fun v h' => Rl h h' ∧ withEnv (Env.put e1 o.dst v) fun e2 => vcM P A Rl all r e2 h' K)
        (fun e1 => withEnv (Env.put e1 o.dst (some undef)) fun e2 => vcM P A Rl all r e2 h K)) ∧
      (vcGuard all o' e
        (fun e1 => vcEff P A o' e1 h fun v h' => Rl h h' ∧ withEnv (Env.put e1 o'.dst v) fun e2 => vcM P A Rl all s e2 h' K)
        (fun e1 => withEnv (Env.put e1 o'.dst (some undef)) fun e2 => vcM P A Rl all s e2 h K)) ∧
      vcGuard all o3 e
        (fun e1 => vcEff P A o3 e1 h fun v h' => Rl h h' ∧ withEnv (Env.put e1 o3.dst v) fun e2 => vcM P A Rl all u e2 h' K)
        (fun e1 => withEnv (Env.put e1 o3.dst (some undef)) fun e2 => vcM P A Rl all u e2 h K)
    | _, _, _ => False
  | .last i r, e, h, K => match all[i]? with
    | none => False
    | some o => vcGuard all o e
        (fun e1 => vcEff P A o e1 h fun v h' => True ∧ withEnv (Env.put e1 o.dst v) fun e2 => vcM P A Rl all r e2 h' K)
        (fun e1 => withEnv (Env.put e1 o.dst (some undef)) fun e2 => vcM P A Rl all r e2 h K)

def vcRegion (P : Program) (A : Ann) (id : Nat) (ops : List Oper) (draw : Bool) (e : Env) (h : Heap) (K : Env → Heap → Prop) : Prop :=
  match draw with
  | false => match A.stops.contains id with
    | true => False
    | false => vcOps P A ops ops e h K
  | true => match ann A.draws id with
    | some (m, n) => match Nat.beq m 3 with
      | true => match ann A.mixes id with
        | some s => ∃ Rl : Heap → Heap → Prop, (∀ h, Rl h h) ∧ (∀ a b c, Rl a b → Rl b c → Rl a c) ∧ vcM P A Rl ops s e h K
        | none => False
      | false => match Nat.beq n ops.length with
      | true => vcQ P A (Nat.beq m 1) ops ops e h fun e' => ∀ h', Cls (Nat.beq m 1) h h' → K e' h'
      | false => match Nat.beq m 2 with
        | false => vcQ P A (Nat.beq m 1) ops (ops.take n) e h fun e' => ∀ h', Cls (Nat.beq m 1) h h' → vcOps P A.still ops (ops.drop n) e' h' K
        | true => match ops[n]? with
          | some o => match o.guard with
            | none => vcQ P A true ops (ops.take n) e h fun e' => vcA P o e' fun ob mk => ∀ b h', h.size ≤ b → Ext h h' → h'[b]? = some ob → withEnv (Env.put e' o.dst (some (mk b))) fun e2 => vcOps P A.still ops (ops.drop (n + 1)) e2 h' K
            | some _ => False
          | none => False
    | none => False

/-- is the label ahead in this row of code? -/
def hasLabel : Code → Nat → Bool
  | .seq a b, l => match hasLabel a l with
    | true => true
    | false => hasLabel b l
  | .label m, l => Nat.beq m l
  | _, _ => false
/-- the first label of a scope -/
def theLabel : Code → Option Nat
  | .seq a b => match theLabel a with
    | some l => some l
    | none => theLabel b
  | .label m => some m
  | _ => none

/-- The condition; 'some l': of what stands behind the label l. -/
def vcS (P : Program) (A : Ann) : Code → Option Nat → (Ex → Env → Heap → Prop) → Env → Heap → Prop
  | .skip, none, Q, e, h => Q .normal e h
  | .label _, none, Q, e, h => Q .normal e h
  | .label m, some l, Q, e, h => match Nat.beq m l with
    | true => Q .normal e h
    | false => False
  | .region id ops draw, none, Q, e, h => vcRegion P A id ops.toList draw e h fun e' h' => Q .normal e' h'
  | .seq a b, none, Q, e, h => match ann A.cuts (firstRegion b) with
    | none => vcS P A a none (fun x e' h' => match x with
      | .normal => vcS P A b none Q e' h'
      | x => Q x e' h') e h
    | some l => ∃ I : Inv l, vcS P A a none (fun x e' h' => match x with
        | .normal => invAt l I e' h'
        | x => Q x e' h') e h ∧
        ∀ h1, allIn l (kills (writes a) e) fun e1 => invAt l I e1 h1 → vcS P A b none Q e1 h1
  | .seq a b, some l, Q, e, h => match hasLabel a l with
    | true => vcS P A a (some l) (fun x e' h' => match x with
      | .normal => vcS P A b none Q e' h'
      | x => Q x e' h') e h
    | false => vcS P A b (some l) Q e h
  | .cond c a b, none, Q, e, h => match opv e c with
    | some (.bool t) => br t (vcS P A a none Q e h) (vcS P A b none Q e h)
    | _ => False
  | .block id b, none, Q, e, h => vcS P A b none (fun x e' h' => match x with
    | .exit i => match Nat.beq i id with
      | true => Q .normal e' h'
      | false => Q (.exit i) e' h'
    | x => Q x e' h') e h
  | .loop b, none, Q, e, h => match ann A.loops (firstRegion b) with
    | some l => ∃ (I : Inv l) (M : Meas l), invAt l I e h ∧ ∀ h1, allIn l (kills (writes b) e) fun e1 => invAt l I e1 h1 →
        measAt l M e1 h1 fun m => vcS P A b none (fun x e' h' => match x with
          | .normal => invAt l I e' h' ∧ measAt l M e' h' (· < m)
          | x => Q x e' h') e1 h1
    | none => False
  | .exit id, none, Q, e, h => Q (.exit id) e h
  | .goto l, none, Q, e, h => Q (.goto l) e h
  | .ret, none, Q, e, h => Q .ret e h
  | .scope b, none, Q, e, h => vcS P A b none (fun x e' h' => match x with
    | .goto l => match theLabel b with
      | some m => match Nat.beq m l with
        | true => vcS P A b (some m) (fun x e' h' => match x with
          | .goto _ => False
          | x => Q x e' h') e' h'
        | false => False
      | none => False
    | x => Q x e' h') e h
  | _, _, _, _, _ => False
@[reducible] def vc (P : Program) (A : Ann) (c : Code) (Q : Ex → Env → Heap → Prop) (e : Env) (h : Heap) : Prop := vcS P A c none Q e h

end Go.Vc
