import Derived.Test.YtfknpbgneeefjaaDoorShaText
import Derived.Test.YtfknpbgneeefjaaDoorTrailSpec
import Derived.Test.YtfknpbgneeefjaaDoorVcY

namespace Go.Packs
open Go.Vc Go.Sha Go.Trail
set_option linter.unusedVariables false

structure RefV where
  sum : List Nat
  size : Int
structure PackV where
  owner : Int
  name : ByteArray
  ver : ByteArray
  refs : List RefV
structure Hdr where
  a : Option Addr
  l : Nat
  c : Nat
/-- a sum's cells -/
def sumCells (s : List Nat) : List Value := s.map fun n : Nat => Value.int .u8 n
def RefV.cells (r : RefV) : List Value := sumCells r.sum ++ [.int .i64 r.size]
def RefV.ok (r : RefV) : Prop := r.sum.length = 32 ∧ ∀ x ∈ r.sum, x < 256
def PackV.cells (p : PackV) (d : Hdr) : List Value := [.int .i64 p.owner, .string p.name, .string p.ver, .slice d.a d.l d.c]
def PackV.ok (p : PackV) : Prop := p.name.size < 9223372036854775808 ∧ p.ver.size < 9223372036854775808

structure RefsAt (h : Heap) (a : Option Addr) (l c : Nat) (rs : List RefV) : Prop where
  rows : Tab 33 h a l c (rs.map RefV.cells)
  ok : ∀ r ∈ rs, r.ok
structure PacksAt (h : Heap) (a : Option Addr) (l c : Nat) (ps : List PackV) (ds : List Hdr) : Prop where
  len : ds.length = ps.length
  rows : Tab 4 h a l c (List.zipWith PackV.cells ps ds)
  refs : ∀ (i : Nat) (p : PackV) (d : Hdr), ps[i]? = some p → ds[i]? = some d → RefsAt h d.a d.l d.c p.refs
  ok : ∀ p ∈ ps, p.ok

theorem RefsAt.grow {h h' : Heap} {a : Option Addr} {l c : Nat} {rs : List RefV} (r : RefsAt h a l c rs) (x : Ext h h') : RefsAt h' a l c rs := ⟨r.rows.grow x, r.ok⟩
theorem PacksAt.grow {h h' : Heap} {a : Option Addr} {l c : Nat} {ps : List PackV} {ds : List Hdr} (p : PacksAt h a l c ps ds) (x : Ext h h') : PacksAt h' a l c ps ds :=
  ⟨p.len, p.rows.grow x, fun i q d hi hd => (p.refs i q d hi hd).grow x, p.ok⟩
theorem RefsAt.len {h : Heap} {a : Option Addr} {l c : Nat} {rs : List RefV} (r : RefsAt h a l c rs) : rs.length = l := by
  have := r.rows.len; simpa using this
theorem PacksAt.length {h : Heap} {a : Option Addr} {l c : Nat} {ps : List PackV} {ds : List Hdr} (p : PacksAt h a l c ps ds) : ps.length = l := by
  have := p.rows.len
  rw [List.length_zipWith, p.len, Nat.min_self] at this; exact this
theorem cells_len (r : RefV) (h : r.ok) : r.cells.length = 33 := by simp [RefV.cells, sumCells, h.1]
/-- the i-th package -/
theorem PacksAt.get {h : Heap} {a : Option Addr} {l c : Nat} {ps : List PackV} {ds : List Hdr} (p : PacksAt h a l c ps ds) {i : Nat} (hi : i < l) :
    ∃ q x d, ps[i]? = some x ∧ ds[i]? = some d ∧ a = some q ∧ x.ok ∧ RefsAt h d.a d.l d.c x.refs ∧ cell h ((q.add (i * 4)).add 0) = some (.int .i64 x.owner) ∧ cell h ((q.add (i * 4)).add 1) = some (.string x.name) ∧ cell h ((q.add (i * 4)).add 2) = some (.string x.ver) ∧ cell h ((q.add (i * 4)).add 3) = some (.slice d.a d.l d.c) := by
  have hl := p.length
  have h1 : ps[i]? = some (ps[i]'(by omega)) := List.getElem?_eq_getElem (by omega)
  have h2 : ds[i]? = some (ds[i]'(by have := p.len; omega)) := List.getElem?_eq_getElem (by have := p.len; omega)
  generalize ps[i]'(by omega) = x at *
  generalize ds[i]'(by have := p.len; omega) = d at *
  have hz : (List.zipWith PackV.cells ps ds)[i]? = some (x.cells d) := by rw [List.getElem?_zipWith, h1, h2]
  obtain ⟨q, e, _, hc⟩ := p.rows.get hz
  exact ⟨q, x, d, h1, h2, e, p.ok x (List.mem_of_getElem? h1), p.refs i x d h1 h2, hc 0 _ rfl, hc 1 _ rfl, hc 2 _ rfl, hc 3 _ rfl⟩
theorem PacksAt.at_ {h : Heap} {a : Option Addr} {l c : Nat} {ps : List PackV} {ds : List Hdr} (p : PacksAt h a l c ps ds) {i : Nat} (hi : i < l) :
    ∃ b o x d, ps[i]? = some x ∧ ds[i]? = some d ∧ a = some ⟨b, o, none⟩ ∧ x.ok ∧ RefsAt h d.a d.l d.c x.refs ∧ ∀ j v, (x.cells d)[j]? = some v → cell h ⟨b, o + i * 4 + j, none⟩ = some v := by
  have hl := p.length
  have h1 : ps[i]? = some (ps[i]'(by omega)) := List.getElem?_eq_getElem (by omega)
  have h2 : ds[i]? = some (ds[i]'(by have := p.len; omega)) := List.getElem?_eq_getElem (by have := p.len; omega)
  generalize ps[i]'(by omega) = x at *
  generalize ds[i]'(by have := p.len; omega) = d at *
  have hz : (List.zipWith PackV.cells ps ds)[i]? = some (x.cells d) := by rw [List.getElem?_zipWith, h1, h2]
  obtain ⟨b, o, e, _, hc⟩ := p.rows.at_ (fun e => by rw [e] at hz; simp at hz)
  exact ⟨b, o, x, d, h1, h2, e, p.ok x (List.mem_of_getElem? h1), p.refs i x d h1 h2, fun j v hv => hc i _ hz j v hv⟩
theorem PacksAt.take {h : Heap} {a : Option Addr} {l c : Nat} {ps : List PackV} {ds : List Hdr} (p : PacksAt h a l c ps ds) (k : Nat) (hk : k ≤ l) : PacksAt h a k c (ps.take k) (ds.take k) := by
  refine ⟨by rw [List.length_take, List.length_take, p.len], ?_, fun i q d hi hd => ?_, fun q hq => p.ok q (List.mem_of_mem_take hq)⟩
  · rw [← List.take_zipWith]; exact p.rows.take k hk
  · rw [List.getElem?_take] at hi hd
    split at hi
    · rename_i hik
      rw [if_pos hik] at hd
      exact p.refs i q d hi hd
    · cases hi
theorem add_add (q : Addr) (b o i j : Nat) (h : q = ⟨b, o, none⟩) : (q.add i).add j = q.add (i + j) := by subst h; rw [add_mk, add_mk, add_mk, Nat.add_assoc]
/-- the i-th layer -/
theorem RefsAt.get {h : Heap} {a : Option Addr} {l c : Nat} {rs : List RefV} (p : RefsAt h a l c rs) {i : Nat} (hi : i < l) :
    ∃ q x, rs[i]? = some x ∧ a = some q ∧ x.ok ∧ CellsAt h (q.add (i * 33)) x.cells ∧ CellsAt h ((q.add (i * 33)).add 0) (sumCells x.sum) ∧ cell h ((q.add (i * 33)).add 32) = some (.int .i64 x.size) := by
  have hl := p.len
  have h1 : rs[i]? = some (rs[i]'(by omega)) := List.getElem?_eq_getElem (by omega)
  generalize rs[i]'(by omega) = x at *
  have hx := p.ok x (List.mem_of_getElem? h1)
  have hz : (rs.map RefV.cells)[i]? = some x.cells := by rw [List.getElem?_map, h1]; rfl
  obtain ⟨q, e, _, hc⟩ := p.rows.get hz
  obtain ⟨b, o, e2, _⟩ := p.rows.at_ (fun e => by rw [e] at hz; simp at hz)
  rw [e] at e2
  obtain rfl := Option.some.inj e2
  refine ⟨_, x, h1, e, hx, fun j v hv => hc j v hv, fun j v hv => ?_, hc 32 _ ?_⟩
  · have := hc j v (by
      rw [RefV.cells, List.getElem?_append_left (List.getElem?_eq_some_iff.1 hv).1]; exact hv)
    rw [add_mk] at this ⊢
    rw [add_mk] at this
    rw [add_mk, add_mk, Nat.add_zero]; exact this
  · simp [RefV.cells, sumCells, hx.1]

/-! ### what may be -/
def nameC (c : Nat) : Prop := (97 ≤ c ∧ c ≤ 122) ∨ (48 ≤ c ∧ c ≤ 57) ∨ c = 45 ∨ c = 46
instance (c : Nat) : Decidable (nameC c) := by unfold nameC; infer_instance
def nameP (l : List Nat) : Prop := 1 ≤ l.length ∧ l.length ≤ 16 ∧ ∀ c ∈ l, nameC c
instance (l : List Nat) : Decidable (nameP l) := by unfold nameP; infer_instance
/-- the layers of a manifest: those ahead; those to come -/
def refsC : List (List Nat) → List RefV → Nat
  | _, [] => 0
  | seen, r :: t => if r.size < 0 ∨ r.size > 2147483647 then 2 else if r.sum ∈ seen then 8 else refsC (seen ++ [r.sum]) t
def manC (name ver : ByteArray) (rs : List RefV) : Nat :=
  if ¬ nameP (lst name) ∨ ¬ nameP (lst ver) then 2 else if rs.length = 0 then 9 else if rs.length > 8 then 3 else refsC [] rs
/-- the packages of a stack: the names ahead, the layers ahead; those to come -/
def packsC : List (List Nat) → Nat → List PackV → Nat
  | _, _, [] => 0
  | seen, n, p :: t => if p.owner < 1 ∨ p.owner > 8 then 2 else if manC p.name p.ver p.refs ≠ 0 then manC p.name p.ver p.refs else if lst p.name ∈ seen then 8 else if n + p.refs.length > 16 then 3 else packsC (seen ++ [lst p.name]) (n + p.refs.length) t
theorem manC_len {name ver : ByteArray} {rs : List RefV} (h : manC name ver rs = 0) : rs.length ≤ 8 := by
  unfold manC at h
  split at h
  · cases h
  · split at h
    · cases h
    · split at h
      · cases h
      · omega

structure MsgV where
  kind : Int
  from_ : Int
  to : Int
  txn : Int
  yes : Bool
  packs : List PackV
def rootP (n : Int) : Prop := 1 ≤ n ∧ n ≤ 6
instance (n : Int) : Decidable (rootP n) := by unfold rootP; infer_instance
def goesP (k f t : Int) : Prop := if k = 1 ∨ k = 3 ∨ k = 4 then f = 0 ∧ rootP t else t = 0 ∧ rootP f
instance (k f t : Int) : Decidable (goesP k f t) := by unfold goesP; infer_instance
def msgC (m : MsgV) : Nat :=
  if m.kind < 1 ∨ m.kind > 6 then 13 else if ¬ goesP m.kind m.from_ m.to ∨ m.txn < 1 ∨ m.txn > 1099511627776 then 2
  else if (m.yes = true ∧ m.kind ≠ 2) ∨ (m.packs ≠ [] ∧ m.kind ≠ 1) then 5 else packsC [] 0 m.packs

/-! ### sums as keys -/
def sumV (s : List Nat) : Value := .agg (sumCells s).toArray
def sumOk (s : List Nat) : Prop := s.length = 32 ∧ ∀ x ∈ s, x < 256
theorem sumCells_int (s : List Nat) : (sumCells s).toArray = ((s.map Int.ofNat).map fun z => Value.int .u8 z).toArray := by
  simp [sumCells, List.map_map]
theorem sum_int_inj {s t : List Nat} : s.map Int.ofNat = t.map Int.ofNat ↔ s = t := by
  constructor
  · intro h
    have := congrArg (List.map Int.toNat) h
    rw [List.map_map, List.map_map, show (Int.toNat ∘ Int.ofNat) = id from rfl, List.map_id, List.map_id] at this
    exact this
  · rintro rfl; rfl

theorem run_chk_int {P : Program} {e : TypeId} {k : IntKind} (he : P.underlying e = some (.int k)) (em : Bool) (d : Nat) (z : Int) (w : World) : (Instr.checkKey em (d + 1) e (.int k z)).run P w = .ok () w := by
  simp [Instr.checkKey, run_und he]
theorem run_chk_ints {P : Program} {t e : TypeId} {k : IntKind} {n d : Nat} {em : Bool} (hin : ∀ z w, (Instr.checkKey em d e (.int k z)).run P w = .ok () w) (ht : P.underlying t = some (.array n e)) (he : P.underlying e = some (.int k)) (hc : P.cellsOf e = 1) (zs : List Int) (hz : zs.length = n) (w : World) :
    (Instr.checkKey em (d + 1) t (.agg (zs.map fun z => Value.int k z).toArray)).run P w = .ok () w := by
  have hs : ∀ w, (sizeOf e).run P w = .ok 1 w := fun w => by rw [run_size he, hc]
  have hp : ∀ (i : Nat) (z : Int), zs[i]? = some z → ∀ w, (part e (zs.map fun z => Value.int k z).toArray (i * 1)).run P w = .ok (.int k z) w := fun i z hz w =>
    Vc.run_part_plain he rfl (by simp [hz]) w
  have key : ∀ (m i : Nat), i + m = n → ∀ w, (forIn (m := Sem) (List.range' i m 1) () fun i r => do
      Instr.checkKey em d e (← part e (zs.map fun z => Value.int k z).toArray (i * (← sizeOf e)))
      pure (ForInStep.yield ())).run P w = .ok () w := by
    intro m
    induction m with
    | zero => intro i _ w; simp
    | succ m ih =>
      intro i hi w
      obtain ⟨a, ha⟩ : ∃ a, zs[i]? = some a := ⟨zs[i]'(by omega), List.getElem?_eq_getElem (by omega)⟩
      rw [List.range'_succ, List.forIn_cons]
      simp only [Sem.run_bind, hs, hp i a ha, Result.andThen_ok, hin, Sem.run_pure]
      exact ih (i + 1) (by omega) w
  simp only [Instr.checkKey, Sem.run_bind, run_und ht, Result.andThen_ok]
  rw [Std.Legacy.Range.forIn_eq_forIn_range']
  have := key n 0 (by omega) w
  simp only [Std.Legacy.Range.size, Nat.sub_zero, Nat.add_sub_cancel, Nat.div_one]
  have h2 := congrArg (fun r => Result.andThen r fun _ w' => Sem.run P (pure ()) w') this
  exact h2
theorem sameBits_ints (k : IntKind) (d : Nat) (zs : List Int) : Instr.sameBits (d + 1) (.agg (zs.map fun z => Value.int k z).toArray) (.agg (zs.map fun z => Value.int k z).toArray) = true := by
  have : ∀ l : List Int, ((l.map fun z => Value.int k z).zip (l.map fun z => Value.int k z)).all (fun (x, y) => Instr.sameBits d x y) = true := by
    intro l
    induction l with
    | nil => rfl
    | cons z l ih => simp only [List.map_cons, List.zip_cons_cons, List.all_cons, ih, Bool.and_true]; cases d <;> simp [Instr.sameBits]
  simp only [Instr.sameBits, beq_self_eq_true, Bool.true_and]
  exact this zs
theorem sums_keyed {P : Program} {t e : TypeId} (ht : P.underlying t = some (.array 32 e)) (he : P.underlying e = some (.int .u8)) (hc : P.cellsOf e = 1) : Keyed P t sumV sumOk where
  und := ⟨_, ht, .inr fun _ _ => rfl⟩
  eq a b ha hb w := by
    unfold sumV
    rw [sumCells_int, sumCells_int, run_equal_ints ht he hc _ _ (by simp [ha.1]) (by simp [hb.1])]
    congr 1
    exact decide_eq_decide.2 sum_int_inj
  chk em a ha w := by
    unfold sumV
    rw [sumCells_int]
    exact run_chk_ints (d := 9999) (fun z w => run_chk_int he em 9998 z w) ht he hc _ (by simp [ha.1]) w
  same a ha := by
    unfold sumV
    rw [sumCells_int]
    exact sameBits_ints .u8 9999 _
end Go.Packs
