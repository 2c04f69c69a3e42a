import Derived.Test.YtcfegbpoailbdaaDoorVcN
import Derived.WalkKit
import Derived.ProofKit
import Derived.OpenShut
import Derived.Below
import Derived.Carry
import Derived.ChangeOld
import Derived.Lib.LaidTab
import Derived.ChangeSlices

namespace Go.Vc
open Go.ChangeShapes Go.WideShapes Go.ChangeAt Go.RowKit
set_option linter.unusedVariables false
variable {H : Type} {enc : TypeId × Value → H} {P : Program}

/-- what a law's contract gives a call of it -/
theorem HEnt.calls {f : FuncId} {args : Array Value} {w : World} (c : HEnt P f args w.heap fun v h' => v = .bool true ∧ Ext w.heap h') :
    Calls P f args w fun e w' => e = .returned (.bool true) ∧ Below w.heap.size w w' :=
  (c w rfl).2.mono fun e w' ⟨v, he, hk, hv, hx⟩ => ⟨by rw [he, hv], hk.os, hk.tape, hk.output, hx.size, hx.block⟩

/-- arguments read as they did -/
theorem trodAll_stays (hl : laidOutB P = true) {W W' : World} (hb : Below W.heap.size W W') : ∀ {ts : List TypeId} {vs : List Value} {ds : List (DataW H)} {ps : List MemPlace},
    (∀ t ∈ ts, P.readableRec t = true ∧ t < P.types.size) → DataW.TrodAll enc P W 0 (fun _ => true) true ts vs ds ps →
    DataW.TrodAll enc P W' 0 (fun b => decide (b < W.heap.size)) true ts vs ds ps
  | [], vs, ds, ps, _, h => by
    cases vs <;> cases ds <;> simp [DataW.TrodAll] at h
    exact h
  | t :: ts, vs, ds, ps, ht, h => by
    obtain ⟨v, vs', d, ds', p, q, rfl, rfl, rfl, h1, h2⟩ := trodAll_cons h
    refine trodAll_cons_mk (Below.trod hl (ht t (List.mem_cons_self ..)).1 (ht t (List.mem_cons_self ..)).2 h1 hb ?_) (trodAll_stays hl hb (fun u hu => ht u (List.mem_cons_of_mem _ hu)) h2)
    obtain ⟨m, hm⟩ := h1
    exact DataW.trod_lt m _ _ _ hm

/-- A law that is true, and leaves all as it was: what its row asks. -/
theorem row_of {n : FuncId} {fn : Func} {s : ChangeSpec} {W : World} {args : Array Value} {ds gs : List (DataW H)} {before : List MemPlace} {tb : TypeId} (hl : laidOutB P = true)
    (ht : ∀ t ∈ fn.params.toList, P.readableRec t = true ∧ t < P.types.size) (hvars : s.vars = []) (hres : fn.resultTypes = #[tb]) (hb : P.underlying tb = some .bool)
    (hfn : ∀ ds : List (DataW H), ds.length = fn.params.size → s.fn H (ds ++ []) = { results := [.lit (.bool true)], args := ds })
    (hW : DataW.Whole enc P fn.params.toList s.vars false W args.toList ds gs before)
    (c : HEnt P n args W.heap fun v h' => v = .bool true ∧ Ext W.heap h') :
    Calls P n args W fun e W' => ∃ v, e = .returned v ∧ s.post enc P fn false true false false W args v W' := by
  have hW' := hW
  obtain ⟨p, q, hA, hV, rfl, hfz, hnd⟩ := hW
  rw [hvars] at hV
  obtain ⟨rfl, rfl⟩ := trodVars_none hV
  have hlen : ds.length = fn.params.size := by
    have : ∀ {ts : List TypeId} {vs : List Value} {ds : List (DataW H)} {ps : List MemPlace}, DataW.TrodAll enc P W 0 (fun _ => true) true ts vs ds ps → ds.length = ts.length := by
      intro ts
      induction ts with
      | nil => intro vs ds ps h; cases vs <;> cases ds <;> simp [DataW.TrodAll] at h; rfl
      | cons t ts ih => intro vs ds ps h; obtain ⟨v, vs', d, ds', p, q, rfl, rfl, rfl, h1, h2⟩ := trodAll_cons h; simp [ih h2]
    rw [this hA]; simp
  refine c.calls.mono fun e W' ⟨he, bel⟩ => ?_
  subst he
  refine ⟨_, rfl, _, _, _, [], p, [], hW', ?_, ?_, ?_, bel.frame _, fun h => by cases h⟩
  · rw [hfn ds hlen, hres]; exact trodAll_mk1 (shut_bool hb _)
  · rw [hfn ds hlen]; exact trodAll_stays hl bel ht hA
  · rw [hfn ds hlen, hvars]; rfl

/-- an array of numbers -/
theorem open_arr {W : World} {t e : TypeId} {k : IntKind} {n : Nat} {v : Value} {d : DataW H} {ps : List MemPlace} {base b0 : Nat} {r : Reach} {sp : Nat → Bool} {hd : Bool} (ht : P.underlying t = some (.array n e)) (he : P.underlying e = some (.int k)) (hc : P.cellsOf e = 1) (hct : P.cellsOf t = n)
    (hval : Value.okWide P W r b0 t v) (h : DataW.Trod enc P W base sp hd t v d ps) : ∃ zs : List Int, v = .agg (zs.map fun z => Value.int k z).toArray ∧ zs.length = n ∧ ∀ z ∈ zs, (Lit.int k z).wf = true := by
  unfold Value.okWide at hval
  rw [ht] at hval
  obtain ⟨cs, rfl, hs, _⟩ := hval
  obtain ⟨fuel, h⟩ := h
  cases fuel with
  | zero => cases h
  | succ fuel =>
    have h' := h
    unfold DataW.trod at h'
    rw [ht] at h'
    have hcs : (Value.agg cs).cells.toList = cs.toList := rfl
    rw [hcs] at h'
    simp only [hc, Nat.mul_one] at h'
    split at h'
    · rename_i hlen
      obtain ⟨xs, hx, _⟩ := Option.map_eq_some_iff.1 h'
      rw [hct] at hlen
      have key : ∀ i, i < n → ∃ z, cs.toList[i]? = some (.int k z) ∧ (Lit.int k z).wf = true := by
        intro i hi
        obtain ⟨b, hb1, hb2⟩ := Lib.mapM_at hx i i (by simp [hi])
        have hl : i < cs.toList.length := by rw [hlen]; exact hi
        have e1 : (cs.toList.drop i).take 1 = [cs.toList[i]] := by
          rw [List.drop_eq_getElem_cons hl]; rfl
        rw [e1] at hb2
        cases fuel with
        | zero => cases hb2
        | succ fuel =>
          unfold DataW.trod at hb2
          rw [he] at hb2
          cases hv : cs.toList[i] with
          | int k' z =>
            rw [hv] at hb2
            simp only at hb2
            split at hb2
            · rename_i hk; refine ⟨z, ?_, hk.2⟩
              rw [List.getElem?_eq_getElem hl, hv, hk.1]
            · cases hb2
          | _ => rw [hv] at hb2; cases hb2
      refine ⟨(List.range n).map fun i => ((cs.toList[i]?).bind fun v => match v with | .int _ z => some z | _ => none).getD 0, ?_, by simp, ?_⟩
      · congr 1
        apply Array.ext'
        apply List.ext_getElem?
        intro i
        by_cases hi : i < n
        · obtain ⟨z, hz, _⟩ := key i hi
          rw [hz]
          simp [hi]
          have : cs[i]? = some (.int k z) := by simpa using hz
          rw [this]; rfl
        · have h1 : cs.toList[i]? = none := List.getElem?_eq_none (by omega)
          rw [h1]; simp [hi]
      · intro z hz
        simp only [List.mem_map, List.mem_range] at hz
        obtain ⟨i, hi, rfl⟩ := hz
        obtain ⟨z, hz, hw⟩ := key i hi
        rw [hz]; exact hw
    · cases h'

/-- a slice of bytes that came in -/
structure InB (h0 : Heap) (a : Option Addr) (l c : Nat) (bs : List Nat) : Prop where
  len : bs.length = l
  cap : l ≤ c
  lt : ∀ x ∈ bs, x < 256
  at_ : ∀ ad, a = some ad → bs ≠ [] → ∃ b o, ad = ⟨b, o, none⟩ ∧ b < h0.size ∧ CellsAt h0 ⟨b, o, none⟩ (bs.map fun n : Nat => Value.int .u8 n)
  nil : a = none → bs = []

theorem nats_of (zs : List Int) (hw : ∀ z ∈ zs, (Lit.int .u8 z).wf = true) : ∃ D : List Nat, zs = D.map Int.ofNat ∧ ∀ x ∈ D, x < 256 := by
  refine ⟨zs.map Int.toNat, ?_, ?_⟩
  · rw [List.map_map]
    conv => lhs; rw [← List.map_id zs]
    apply List.map_congr_left
    intro z hz
    have := hw z hz
    simp [Lit.wf, IntKind.min, IntKind.max, IntKind.signed, IntKind.bits] at this
    simp; omega
  · intro x hx
    obtain ⟨z, hz, rfl⟩ := List.mem_map.1 hx
    have := hw z hz
    simp [Lit.wf, IntKind.min, IntKind.max, IntKind.signed, IntKind.bits] at this
    omega

theorem open_bytes {W : World} {t e : TypeId} {v : Value} {d : DataW H} {ps : List MemPlace} {b0 : Nat} {r : Reach} (ht : P.underlying t = some (.slice e)) (he : P.underlying e = some (.int .u8)) (hc : P.cellsOf e = 1)
    (hval : Value.okWide P W r b0 t v) (h : DataW.Trod enc P W 0 (fun _ => true) true t v d ps) :
    ∃ a l c bs, v = .slice a l c ∧ InB W.heap a l c bs ∧ c ≤ maxLen ∧ ((d = .nil ∧ bs = []) ∨ ∃ els sp, d = .slice els sp ∧ els.length = l ∧ els.length + sp.length = c) := by
  obtain ⟨a, l, c, rfl⟩ := okWide_slice ht hval
  obtain ⟨fuel, hf⟩ := h
  have hval' : Cell.okWide P W r b0 t (.slice a l c) := by
    unfold Value.okWide at hval; rw [ht] at hval; exact hval
  have hok : Cell.ok P W r b0 t (.slice a l c) := by
    unfold Cell.okWide at hval'; rw [ht] at hval'; exact hval'
  rcases open_ints ht he hc hf with ⟨hcs, hx⟩ | ⟨x, l', c', zs, hcs, _, hl, hm, hz, hx, hcell, hwz⟩
  · simp [Value.cells] at hcs
    obtain ⟨rfl, rfl, rfl⟩ := hcs
    exact ⟨none, 0, 0, [], rfl, ⟨rfl, Nat.le_refl _, by simp, (fun ad e => by cases e), fun _ => rfl⟩, Nat.zero_le _, .inl ⟨congrArg Prod.fst hx, rfl⟩⟩
  · simp [Value.cells] at hcs
    obtain ⟨rfl, rfl, rfl⟩ := hcs
    simp at hz
    unfold Cell.ok at hok
    rw [ht] at hok
    obtain ⟨_, _, _, hspot, row, cells, hsh, _⟩ := hok
    obtain ⟨xb, xo, xs⟩ := x
    simp only at hspot
    subst hspot
    have hblt : xb < W.heap.size := by
      unfold World.shape? at hsh
      cases hb : W.heap[xb]? with
      | none => simp only at hsh; rw [hb] at hsh; cases hsh
      | some o => exact blk_lt hb
    obtain ⟨D, rfl, hD⟩ := nats_of zs hwz
    rw [List.length_map] at hz
    refine ⟨_, l, c, D.take l, rfl, ⟨by simp; omega, hl, fun y hy => hD y (List.mem_of_mem_take hy), ?_, by rintro ⟨⟩⟩, hm, .inr ⟨_, _, congrArg Prod.fst hx, ?_, ?_⟩⟩
    · rintro ad ⟨⟩ _
      refine ⟨xb, xo, rfl, hblt, fun i v hv => ?_⟩
      have hi : i < l := by
        have := (List.getElem?_eq_some_iff.1 hv).1
        simp at this; omega
      have := hcell i (by rw [List.length_map]; omega)
      rw [List.getElem?_map, List.getElem?_take, if_pos hi] at hv
      show W.cell? _ = _
      rw [this, ← hv]
      simp [show i < D.length by omega]
    · simp [lits]; omega
    · simp [lits]; omega
end Go.Vc
