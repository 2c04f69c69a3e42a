import Derived.Test.YtpnbbgcaaogpdaaDoorVcA

namespace Go.Vc

/-! ### words of the conditions -/
def shlI (k : IntKind) (x y : Int) : Int := k.wrap (x * 2 ^ (min y.toNat k.bits))
def shrI (k : IntKind) (x y : Int) : Int := x.fdiv (2 ^ (min y.toNat k.bits))
def andI (k : IntKind) (x y : Int) : Int := k.wrap (BitVec.ofInt k.bits x &&& BitVec.ofInt k.bits y).toNat
def orI (k : IntKind) (x y : Int) : Int := k.wrap (BitVec.ofInt k.bits x ||| BitVec.ofInt k.bits y).toNat
def xorI (k : IntKind) (x y : Int) : Int := k.wrap (BitVec.ofInt k.bits x ^^^ BitVec.ofInt k.bits y).toNat
def andNotI (k : IntKind) (x y : Int) : Int := k.wrap (BitVec.ofInt k.bits x &&& ~~~(BitVec.ofInt k.bits y)).toNat
def notI (k : IntKind) (x : Int) : Int := xorI k (if k.signed then -1 else k.max) x
def minI (x y : Int) : Int := if y < x then y else x
def maxI (x y : Int) : Int := if y > x then y else x
/-- the byte at a place of a text -/
def bt (s : ByteArray) (i : Int) : Int := ((s.data.getD i.toNat 0).toNat : Int)
def seq (a b : ByteArray) : Bool := a.toList == b.toList
def slt (a b : ByteArray) : Bool := Op.bytesLess a.toList b.toList
/-- where a cut of a slice begins -/
def cutAt (m l sz : Nat) (a : Option Addr) : Option Addr := if m = l then a else a.map (·.add (l * sz))

/-- the cells from an address on -/
def CellsAt (h : Heap) (a : Addr) (l : List Value) : Prop := ∀ i v, l[i]? = some v → cell h (a.add i) = some v
/-- the same, spelt out, from the i-th on -/
def cellsFrom (h : Heap) (a : Addr) : Nat → List Value → (Prop → Prop)
  | _, [], p => p
  | i, v :: l, p => cell h (a.add i) = some v ∧ cellsFrom h a (i + 1) l p
/-- the bytes of a slice -/
def bytesV (bs : ByteArray) : List Value := bs.data.toList.map fun b => .int .u8 b.toNat

theorem cellsFrom_spec {h : Heap} {a : Addr} : ∀ {l : List Value} {i : Nat} {p : Prop}, cellsFrom h a i l p → (∀ j v, l[j]? = some v → cell h (a.add (i + j)) = some v) ∧ p
  | [], _, _, H => ⟨by simp, H⟩
  | v :: l, i, _, H => by
    obtain ⟨h1, h2⟩ := H
    obtain ⟨h3, h4⟩ := cellsFrom_spec h2
    refine ⟨fun j u hj => ?_, h4⟩
    cases j with
    | zero => simp at hj; subst hj; exact h1
    | succ j => have := h3 j u (by simpa using hj); rwa [show i + (j + 1) = i + 1 + j by omega]

/-- in which order the operations of a region that draws are looked at: a quiet one that may come now; the only one that may come now; the only two -/
inductive Mix where
  | done
  | quiet (i : Nat) (r : Mix)
  | one (i : Nat) (r : Mix)
  | two (i : Nat) (r : Mix) (j : Nat) (s : Mix)
  | three (i : Nat) (r : Mix) (j : Nat) (s : Mix) (k : Nat) (t : Mix)
  /-- one behind all that reads, in every order: it may write what the others read -/
  | last (i : Nat) (r : Mix)
def Mix.len : Mix → Nat
  | .done => 0
  | .quiet _ r => r.len + 1
  | .one _ r => r.len + 1
  | .two _ r _ _ => r.len + 1
  | .three _ r _ _ _ _ => r.len + 1
  | .last _ r => r.len + 1
def Mix.exempt : Mix → List Nat
  | .done => []
  | .quiet _ r => r.exempt
  | .one _ r => r.exempt
  | .two _ r _ s => r.exempt ++ s.exempt
  | .three _ r _ s _ u => r.exempt ++ (s.exempt ++ u.exempt)
  | .last i r => i :: r.exempt

structure Ann where
  /-- slots whose assignment gets a name of its own -/
  bind : List Nat := []
  /-- slots that are read out of cells which are not written out -/
  opq : List Nat := []
  /-- loops, by the number of their first region: the slots that a round hands on -/
  loops : List (Nat × List (Nat × Sh)) := []
  /-- regions behind which the ways meet: the slots that are handed on -/
  cuts : List (Nat × List (Nat × Sh)) := []
  /-- regions that draw: how (0: the heap stays; 1: it may grow), and how many operations are the quiet head -/
  draws : List (Nat × Nat × Nat) := []
  /-- regions that draw, of the third kind -/
  mixes : List (Nat × Mix) := []
  /-- regions that are never come to -/
  stops : List Nat := []
  /-- the functions whose calls may panic; none: there is nothing that panics -/
  pans : Option (List FuncId) := none
  /-- ranges over functions, by the first region of their body: the slots that yield's arguments come to -/
  rngs : List (Nat × List (Nat × Sh)) := []
  /-- slots that come to hold a function that is known: which, and how many variables it holds -/
  fns : List (Nat × FuncId × Nat) := []
  /-- calls of a loop's yield are taken -/
  yld : Bool := false
  /-- how the heap is where a panic goes out -/
  pan : Heap → Prop := fun _ => False

/-- no yield -/
@[reducible] def Ann.still (A : Ann) : Ann := { A with yld := false }
def fnOf : List (Nat × FuncId × Nat) → Option Nat → Option (FuncId × Nat)
  | _, none => none
  | [], some _ => none
  | (m, x) :: r, some d => match Nat.beq m d with
    | true => some x
    | false => fnOf r (some d)
def capsV : Nat → (List Value → Prop) → Prop
  | 0, K => K []
  | n + 1, K => ∃ ad : Addr, capsV n fun l => K (.pointer (some ad) :: l)
def fnV (f : FuncId) (n : Nat) (v : Value) (K : Value → Prop) : Prop := capsV n fun l => v = .func (.func f) #[] l.toArray ∧ K (.func (.func f) #[] l.toArray)
/-- what a range goes over -/
def fnG (l : List (Nat × FuncId × Nat)) (g : Operand) (v : Value) (K : Value → Prop) : Prop := match g with
  | .tmp d => match fnOf l (some d) with
    | some (f, n) => fnV f n v K
    | none => K v
  | _ => K v
theorem capsV_out : ∀ (n : Nat) {K : List Value → Prop}, capsV n K → ∃ l, K l
  | 0, _, h => ⟨[], h⟩
  | n + 1, _, ⟨_, h⟩ => let ⟨_, h⟩ := capsV_out n h; ⟨_, h⟩
theorem fnV_out {f : FuncId} {n : Nat} {v : Value} {K : Value → Prop} (h : fnV f n v K) : K v := by
  obtain ⟨l, h1, h2⟩ := capsV_out n h
  rw [h1]; exact h2
theorem fnG_out {l : List (Nat × FuncId × Nat)} {g : Operand} {v : Value} {K : Value → Prop} (h : fnG l g v K) : K v := by
  unfold fnG at h
  split at h
  · split at h
    · exact fnV_out h
    · exact h
  · exact h
def bindV : Value → (Value → Prop) → Prop
  | .int k n, f => ∀ m : Int, m = n → f (.int k m)
  | .bool b, f => ∀ c : Bool, c = b → f (.bool c)
  | .string s, f => ∀ t : ByteArray, t = s → f (.string t)
  | .pointer a, f => ∀ b : Option Addr, b = a → f (.pointer b)
  | .slice a l c, f => ∀ (a' : Option Addr) (l' c' : Nat), a' = a → l' = l → c' = c → f (.slice a' l' c')
  | v, f => f v
theorem bindV_out {v : Value} {f : Value → Prop} (h : bindV v f) : f v := by
  cases v <;> simp only [bindV] at h
  case int => exact h _ rfl
  case bool => exact h _ rfl
  case string => exact h _ rfl
  case pointer => exact h _ rfl
  case slice => exact h _ _ _ rfl rfl rfl
  all_goals exact h

section
variable (P : Program)
def flatF (sh : TypeId → Sh) : List Field → Option (List Sh)
  | [] => some []
  | f :: r => match sh f.type, flatF sh r with
    | .agg _, _ => none
    | .struct l, some m => some (l ++ m)
    | s, some m => some (s :: m)
    | _, none => none
def shOf : Nat → TypeId → Sh
  | 0, _ => .any
  | n + 1, t => match P.underlying t with
    | some (.int k) => .int k
    | some .bool => .bool
    | some .string => .str
    | some (.pointer _) => .ptr
    | some (.slice _) => .slice
    | some (.map _ _) => .map
    | some (.struct fs) => match flatF (shOf n) fs.toList with
      | some l => .struct l
      | none => .agg (P.cellsOf t)
    | some (.array _ _) => .agg (P.cellsOf t)
    | some (.tuple ts) => .tuple (ts.toList.map (shOf n))
    | _ => .any
def sh (t : TypeId) : Sh := shOf P 5 t
end

/-- a load of a variable of type t -/
def ldK (P : Program) (t : TypeId) (h : Heap) (ad : Addr) (K : Option Value → Prop) : Prop :=
  match P.underlying t with
  | some (.struct _) | some (.array _ _) => match sh P t with
    | .struct fs => withShs fs fun vs => cellsFrom h ad 0 vs (vs.length = P.cellsOf t ∧ K (some (.agg vs.toArray)))
    | .agg _ => ∃ cs : Array Value, cs.size = P.cellsOf t ∧ CellsAt h ad cs.toList ∧ K (some (.agg cs))
    | _ => False
  | some _ => withSh (sh P t) fun v => cell h ad = some v ∧ K (some v)
  | none => False

def ifK (k k' : IntKind) (p : Prop) : Prop := if k = k' then p else False
theorem ifK_out {k k' : IntKind} {p : Prop} (h : ifK k k' p) : k = k' ∧ p := by unfold ifK at h; split at h; exact ⟨‹_›, h⟩; exact h.elim
def vcInt (op : BinOp) (k : IntKind) (a : Int) (k' : IntKind) (b : Int) (K : Option Value → Prop) : Prop :=
  match op with
  | .shl => 0 ≤ b ∧ K (some (.int k (shlI k a b)))
  | .shr => 0 ≤ b ∧ K (some (.int k (shrI k a b)))
  | .add => ifK k k' (K (some (.int k (k.wrap (a + b)))))
  | .sub => ifK k k' (K (some (.int k (k.wrap (a - b)))))
  | .mul => ifK k k' (K (some (.int k (k.wrap (a * b)))))
  | .quo => ifK k k' (b ≠ 0 ∧ K (some (.int k (k.wrap (a.tdiv b)))))
  | .rem => ifK k k' (b ≠ 0 ∧ K (some (.int k (a.tmod b))))
  | .and => ifK k k' (K (some (.int k (andI k a b))))
  | .or => ifK k k' (K (some (.int k (orI k a b))))
  | .xor => ifK k k' (K (some (.int k (xorI k a b))))
  | .andNot => ifK k k' (K (some (.int k (andNotI k a b))))
  | .eql => ifK k k' (K (some (.bool (a == b))))
  | .neq => ifK k k' (K (some (.bool (a != b))))
  | .lss => ifK k k' (K (some (.bool (decide (a < b)))))
  | .leq => ifK k k' (K (some (.bool (decide (a ≤ b)))))
  | .gtr => ifK k k' (K (some (.bool (decide (a > b)))))
  | .geq => ifK k k' (K (some (.bool (decide (a ≥ b)))))

def vcStr (op : BinOp) (a b : ByteArray) (K : Option Value → Prop) : Prop :=
  match op with
  | .add => a.size + b.size ≤ 9223372036854775807 ∧ K (some (.string (a ++ b)))
  | .eql => K (some (.bool (seq a b)))
  | .neq => K (some (.bool (!(seq a b))))
  | .lss => K (some (.bool (slt a b)))
  | .leq => K (some (.bool (slt a b || seq a b)))
  | .gtr => K (some (.bool (!(slt a b || seq a b))))
  | .geq => K (some (.bool (!(slt a b))))
  | _ => False

/-- '==' of what is neither a number nor a text: a bool, a pointer or a slice or a map against nil, a row of numbers of one kind. -/
def vcEql (P : Program) (t : TypeId) (h : Heap) (x y : Value) (K : Bool → Prop) : Prop :=
  match x, y with
  | .bool a, .bool b => K (a == b)
  | .pointer a, .pointer none => K a.isNone
  | .pointer a, .pointer (some b) => ∃ c : Bool, (∀ w : World, Ext h w.heap → (Op.equal t (.pointer a) (.pointer (some b))).run P w = .ok c w) ∧ P.eqGuardType P.depth t = false ∧ K c
  | .slice a _ _, .slice none _ _ => K a.isNone
  | .map a, .map none => K a.isNone
  | .func _ _ _, .nilFunc => K false
  | .nilFunc, .nilFunc => K true
  | .iface _ _, .nilIface => K false
  | .agg xs, .agg ys => ∃ b : Bool, (∀ w : World, (Op.equal t (.agg xs) (.agg ys)).run P w = .ok b w) ∧ P.eqGuardType P.depth t = false ∧ K b
  | _, _ => False

/-- The type fits the value, as '==' asks. -/
def fitsB : TypeDesc → Value → Bool
  | .bool, .bool _ | .pointer _, .pointer _ | .slice _, .slice _ _ _ | .map _ _, .map _ | .func _ _ _, .func _ _ _ | .func _ _ _, .nilFunc | .interface _, .iface _ _ => true
  | _, .agg _ => true
  | _, _ => false
/-- '==' at a type that fits. -/
def vcEqlAt (P : Program) (t : TypeId) (h : Heap) (x y : Value) (K : Bool → Prop) : Prop :=
  match P.underlying t with
  | some d => match fitsB d x with
    | true => vcEql P t h x y K
    | false => False
  | none => False
/-- A description of one-celled variables -/
def plainD : TypeDesc → Bool
  | .struct _ | .array _ _ => false
  | _ => true

def vcPure (P : Program) (A : Ann) (o : Oper) (e : Env) (h : Heap) (K : Option Value → Prop) : Prop :=
  match o.op with
  | .move x => match opv e x with
    | some v => match fnOf A.fns o.dst with
      | some (f, n) => fnV f n v fun u => K (some u)
      | none => K (some v)
    | none => False
  | .assign x => match opv e x with
    | some v => match fnOf A.fns o.dst with
      | some (f, n) => fnV f n v fun u => K (some u)
      | none => match o.dst with
        | some d => match A.bind.contains d with
          | true => bindV v fun u => K (some u)
          | false => K (some v)
        | none => K (some v)
    | none => False
  | .pick c x y => match opv e c with
    | some (.bool b) => match opv e x, opv e y with
      | some (.bool u), some (.bool v) => K (some (.bool (bsel b u v)))
      | some u, some v => br b (K (some u)) (K (some v))
      | some u, none => br b (K (some u)) False
      | none, some v => br b False (K (some v))
      | none, none => False
    | _ => False
  | .load t x => match opv e x with
    | some (.pointer (some ad)) => ldK P t h ad K
    | _ => False
  | .nilCheck x => match opv e x with
    | some (.pointer a) => ∃ ad, a = some ad ∧ K (some (.pointer (some ad)))
    | some (.func (.func f) u v) => K (some (.func (.func f) u v))
    | _ => False
  | .binOp op t x y _ => match opv e x, opv e y with
    | some (.int k a), some (.int k' b) => vcInt op k a k' b K
    | some (.string a), some (.string b) => vcStr op a b K
    | some u, some v => match op with
      | .eql => vcEqlAt P t h u v fun b => K (some (.bool b))
      | .neq => vcEqlAt P t h u v fun b => K (some (.bool (!b)))
      | _ => False
    | _, _ => False
  | .unOp op _ x => match op, opv e x with
    | .neg, some (.int k n) => K (some (.int k (k.wrap (0 - n))))
    | .xor, some (.int k n) => K (some (.int k (notI k n)))
    | .not, some (.bool b) => K (some (.bool (!b)))
    | _, _ => False
  | .convert s d x => match opv e x with
    | some (.int _ n) => match P.underlying s, P.underlying d with
      | some _, some (.int k) => K (some (.int k (k.wrap n)))
      | _, _ => False
    | some (.string b) => match P.underlying s, P.underlying d with
      | some (.string), some (.string) => K (some (.string b))
      | _, _ => False
    | some (.slice a l _) => match P.underlying s, P.underlying d with
      | some (.slice el), some (.string) => match P.underlying el with
        | some (.int .u8) => ∃ bs : ByteArray, bs.size = l ∧ (∀ ad, a = some ad → CellsAt h ad (bytesV bs)) ∧ (a = none → l = 0) ∧ K (some (.string bs))
        | _ => False
      | _, _ => False
    | _ => False
  | .slice t x lo hi mx => match mx with
    | some q => match opv e x, opv e q with
      | some (.slice a _ m), some (.int _ v) => match P.underlying t with
        | some (.slice el) => match P.underlying el with
          | none => False
          | some _ => match (match lo with | none => some (Value.int .i64 0) | some p => opv e p), hi with
          | some (.int _ l), some y => match opv e y with
            | some (.int _ u) => 0 ≤ l ∧ l ≤ u ∧ u ≤ v ∧ v ≤ m ∧ K (some (.slice (cutAt v.toNat l.toNat (P.cellsOf el) a) (u.toNat - l.toNat) (v.toNat - l.toNat)))
            | _ => False
          | _, _ => False
        | _ => False
      | _, _ => False
    | none => match opv e x with
      | some (.string s) => match P.underlying t with
        | some (.string) =>
          match (match lo with | none => some (Value.int .i64 0) | some p => opv e p), (match hi with | none => some (Value.int .i64 s.size) | some p => opv e p) with
          | some (.int _ l), some (.int _ u) => 0 ≤ l ∧ l ≤ u ∧ u ≤ s.size ∧ K (some (.string (s.extract l.toNat u.toNat)))
          | _, _ => False
        | _ => False
      | some (.slice a n m) => match P.underlying t with
        | some (.slice el) => match P.underlying el with
          | none => False
          | some _ => match (match lo with | none => some (Value.int .i64 0) | some p => opv e p), hi with
          | some (.int _ l), none => 0 ≤ l ∧ l ≤ n ∧ K (some (.slice (cutAt m l.toNat (P.cellsOf el) a) (n - l.toNat) (m - l.toNat)))
          | some (.int _ l), some q => match opv e q with
            | some (.int _ u) => 0 ≤ l ∧ l ≤ u ∧ u ≤ m ∧ K (some (.slice (cutAt m l.toNat (P.cellsOf el) a) (u.toNat - l.toNat) (m - l.toNat)))
            | _ => False
          | _, _ => False
        | _ => False
      | some (.pointer (some ad)) => match P.underlying t with
        | some (.array n el) => match P.underlying el with
          | none => False
          | some _ => match (match lo with | none => some (Value.int .i64 0) | some p => opv e p), (match hi with | none => some (Value.int .i64 n) | some p => opv e p) with
          | some (.int _ l), some (.int _ u) => 0 ≤ l ∧ l ≤ u ∧ u ≤ n ∧ K (some (.slice (cutAt n l.toNat (P.cellsOf el) (some ad)) (u.toNat - l.toNat) (n - l.toNat)))
          | _, _ => False
        | _ => False
      | _ => False
  | .fieldAddr t x f => match opv e x with
    | some (.pointer (some ad)) => match P.underlying t with
      | some (.struct fs) => match fs[f]? with
        | some fl => match P.cellsOf fl.type with
          | 0 => False
          | _ + 1 => K (some (.pointer (some (ad.add fl.offset))))
        | none => False
      | _ => False
    | _ => False
  | .field t x f => match opv e x with
    | some (.agg cs) => match P.underlying t with
      | some (.struct fs) => match fs[f]? with
        | some fl => match P.underlying fl.type with
          | some (.struct _) | some (.array _ _) => K (some (.agg ((cs.toList.drop fl.offset).take (P.cellsOf fl.type)).toArray))
          | some _ => match o.dst with
            | some d => match A.opq.contains d with
              | true => withSh (sh P fl.type) fun v => cs[fl.offset]? = some v ∧ K (some v)
              | false => match cs.toList[fl.offset]? with
                | some v => K (some v)
                | none => False
            | none => False
          | none => False
        | none => False
      | _ => False
    | _ => False
  | .index t x i => match opv e i with
    | some (.int _ n) => match opv e x with
      | some (.string s) => match P.underlying t with
        | some (.string) => 0 ≤ n ∧ n < s.size ∧ K (some (.int .u8 (bt s n)))
        | _ => False
      | some (.agg cs) => match P.underlying t with
        | some (.array len el) => match P.underlying el with
          | some (.struct _) | some (.array _ _) => 0 ≤ n ∧ n < len ∧ K (some (.agg ((cs.toList.drop (n.toNat * P.cellsOf el)).take (P.cellsOf el)).toArray))
          | some _ => 0 ≤ n ∧ n < len ∧ withSh (sh P el) fun v => cs[n.toNat * P.cellsOf el]? = some v ∧ K (some v)
          | none => False
        | _ => False
      | _ => False
    | _ => False
  | .indexAddr t x i => match opv e i with
    | some (.int _ n) => match opv e x with
      | some (.slice a l _) => match P.underlying t with
        | some (.slice el) => match P.underlying el with
          | none => False
          | some _ => ∃ ad, a = some ad ∧ 0 ≤ n ∧ n < l ∧ K (some (.pointer (some (ad.add (n.toNat * P.cellsOf el)))))
        | _ => False
      | some (.pointer (some ad)) => match P.underlying t with
        | some (.array len el) => match P.underlying el with
          | none => False
          | some _ => 0 ≤ n ∧ n < len ∧ K (some (.pointer (some (ad.add (n.toNat * P.cellsOf el)))))
        | _ => False
      | _ => False
    | _ => False
  | .extract x ix => match opv e x with
    | some (.tuple vs) => match vs.toList[ix]? with
      | some v => K (some v)
      | none => False
    | _ => False
  | .makeInterface t x => match opv e x with
    | some v => match P.underlying t with
      | some (.interface _) => False
      | some _ => K (some (.iface t v))
      | none => False
    | none => False
  | .sliceToArrayPointer t x => match opv e x with
    | some (.slice a l _) => match P.underlying t with
      | some (.array n _) => n ≤ l ∧ ∃ ad, a = some ad ∧ K (some (.pointer (some ad)))
      | _ => False
    | _ => False
  | .makeFunc fn u v => match opvs e u.toList, opvs e v.toList with
    | some us, some vs => K (some (.func fn us.toArray vs.toArray))
    | _, _ => False
  | .call c => match c.callee with
    | .builtin .len => match c.argTypes.toList, opvs e c.args.toList with
      | t :: _, some (v :: _) => match P.underlying t, v with
        | some .string, .string s => K (some (.int .i64 s.size))
        | some (.slice _), .slice _ n _ => K (some (.int .i64 n))
        | some (.array n _), _ => K (some (.int .i64 n))
        | _, _ => False
      | _, _ => False
    | .builtin .cap => match c.argTypes.toList, opvs e c.args.toList with
      | t :: _, some (v :: _) => match P.underlying t, v with
        | some (.slice _), .slice _ _ n => K (some (.int .i64 n))
        | _, _ => False
      | _, _ => False
    | .builtin .min => match opvs e c.args.toList with
      | some [.int k x, .int _ y] => K (some (.int k (minI x y)))
      | some [.int k x, .int _ y, .int _ z] => K (some (.int k (minI (minI x y) z)))
      | _ => False
    | .builtin .max => match opvs e c.args.toList with
      | some [.int k x, .int _ y] => K (some (.int k (maxI x y)))
      | some [.int k x, .int _ y, .int _ z] => K (some (.int k (maxI (maxI x y) z)))
      | _ => False
    | _ => False
  | _ => False

end Go.Vc
