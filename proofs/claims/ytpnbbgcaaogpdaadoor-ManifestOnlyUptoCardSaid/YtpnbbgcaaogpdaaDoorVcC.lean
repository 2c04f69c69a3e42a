import Derived.Test.YtpnbbgcaaogpdaaDoorVcB

namespace Go.Vc
variable {P : Program}

theorem run_und {t : TypeId} {d : TypeDesc} (h : P.underlying t = some d) (w : World) : (underlying t).run P w = .ok d w := by
  unfold underlying; rw [Sem.run_bind]; simp [h]
theorem info_of_und {t : TypeId} {d : TypeDesc} (h : P.underlying t = some d) : ∃ i, P.info? t = some i := by
  unfold Program.underlying at h
  split at h
  · exact ⟨_, ‹_›⟩
  · exact ⟨_, ‹_›⟩
  · cases h
theorem run_size {t : TypeId} {d : TypeDesc} (h : P.underlying t = some d) (w : World) : (sizeOf t).run P w = .ok (P.cellsOf t) w := by
  obtain ⟨i, hi⟩ := info_of_und h
  unfold sizeOf typeInfo; simp [Sem.run_bind, hi, Program.cellsOf]
theorem run_isAgg_true {t : TypeId} {d : TypeDesc} (h : P.underlying t = some d) (hd : plainD d = false) (w : World) : (isAgg t).run P w = .ok true w := by
  unfold isAgg; rw [Sem.run_bind, run_und h]; cases d <;> simp_all [plainD]
theorem run_isAgg_false {t : TypeId} {d : TypeDesc} (h : P.underlying t = some d) (hd : plainD d = true) (w : World) : (isAgg t).run P w = .ok false w := by
  unfold isAgg; rw [Sem.run_bind, run_und h]; cases d <;> simp_all [plainD]

theorem CellsAt.ext {h h' : Heap} {a : Addr} {l : List Value} (c : CellsAt h a l) (x : Ext h h') : CellsAt h' a l := fun i v hv => x.some (c i v hv)

theorem run_cells {w : World} {a : Addr} {l : List Value} (h : CellsAt w.heap a l) : (loadCells a l.length).run P w = .ok l.toArray w :=
  run_loadCells_list (P := P) w a l (fun j v hv => h j v hv)

theorem run_ld {t : TypeId} {h : Heap} {ad : Addr} {K : Option Value → Prop} (H : ldK P t h ad K) :
    ∃ v, K (some v) ∧ ∀ w : World, Ext h w.heap → (loadVar t ad).run P w = .ok v w := by
  have agg : ∀ (d : TypeDesc), P.underlying t = some d → plainD d = false → (match sh P t with
    | .struct fs => withShs fs fun vs => cellsFrom h ad 0 vs (vs.length = P.cellsOf t ∧ K (some (.agg vs.toArray)))
    | .agg _ => ∃ cs : Array Value, cs.size = P.cellsOf t ∧ CellsAt h ad cs.toList ∧ K (some (.agg cs))
    | _ => False) → ∃ v, K (some v) ∧ ∀ w : World, Ext h w.heap → (loadVar t ad).run P w = .ok v w := by
    intro d hd hp H
    split at H
    · obtain ⟨vs, H⟩ := withShs_some H
      obtain ⟨hc, hl, hk⟩ := cellsFrom_spec H
      refine ⟨_, hk, fun w hx => ?_⟩
      have hc' : CellsAt w.heap ad vs := fun i v hv => hx.some (by have := hc i v hv; rwa [Nat.zero_add] at this)
      have hr := run_cells (P := P) hc'
      unfold loadVar
      simp [Sem.run_bind, run_isAgg_true hd hp, run_size hd, ← hl, hr]
    · obtain ⟨cs, hs, hc, hk⟩ := H
      refine ⟨_, hk, fun w hx => ?_⟩
      have hr := run_cells (P := P) (hc.ext hx)
      simp only [Array.length_toList] at hr
      unfold loadVar
      simp [Sem.run_bind, run_isAgg_true hd hp, run_size hd, ← hs, hr]
    · exact H.elim
  unfold ldK at H
  split at H
  · rename_i fs hd; exact agg _ hd rfl H
  · rename_i n el hd; exact agg _ hd rfl H
  · rename_i d h1 h2 hd
    obtain ⟨v, hc, hk⟩ := withSh_some H
    refine ⟨v, hk, fun w hx => ?_⟩
    have hp : plainD d = true := by cases d <;> simp_all [plainD]
    have hc' : w.cell? ad = some v := hx.some hc
    unfold loadVar
    simp [Sem.run_bind, run_isAgg_false hd hp, hc']
  · exact H.elim

theorem run_part {t : TypeId} {cs : Array Value} {off : Nat} {d : TypeDesc} (hd : P.underlying t = some d) (hp : plainD d = false) (w : World) :
    (part t cs off).run P w = .ok (.agg ((cs.toList.drop off).take (P.cellsOf t)).toArray) w := by
  unfold part
  simp only [Sem.run_bind, run_isAgg_true hd hp, Result.andThen_ok, if_true, run_size hd, Sem.run_pure]
  congr 2
  apply Array.ext'
  simp [List.extract_eq_take_drop]
theorem run_part_plain {t : TypeId} {cs : Array Value} {off : Nat} {d : TypeDesc} {v : Value} (hd : P.underlying t = some d) (hp : plainD d = true) (hv : cs[off]? = some v) (w : World) :
    (part t cs off).run P w = .ok v w := by
  unfold part
  simp [Sem.run_bind, run_isAgg_false hd hp, hv]

/-- The operations of a walk that are values at once. -/
def Gives (P : Program) (s : Sem Value) (h : Heap) (v : Value) : Prop := ∀ w : World, Ext h w.heap → s.run P w = .ok v w

theorem run_int {op : BinOp} {t : TypeId} {k k' : IntKind} {a b : Int} {K : Option Value → Prop} (H : vcInt op k a k' b K) :
    ∃ v, K (some v) ∧ ∀ w, (binOp op t (.int k a) (.int k' b)).run P w = .ok v w := by
  cases op <;> simp only [vcInt] at H
  case shl => exact ⟨_, H.2, fun w => by simp [binOp, Op.shift, Int.not_lt.2 H.1, shlI]⟩
  case shr => exact ⟨_, H.2, fun w => by simp [binOp, Op.shift, Int.not_lt.2 H.1, shrI]⟩
  case quo => obtain ⟨rfl, h0, hk⟩ := ifK_out H; exact ⟨_, hk, fun w => by simp [binOp, Op.intDiv, h0]⟩
  case rem => obtain ⟨rfl, h0, hk⟩ := ifK_out H; exact ⟨_, hk, fun w => by simp [binOp, Op.intDiv, h0]⟩
  all_goals
    obtain ⟨rfl, hk⟩ := ifK_out H
    exact ⟨_, hk, fun w => by simp [binOp, Op.intArith, Op.intBits, Op.intCmp, andI, orI, xorI, andNotI]⟩

theorem run_str {op : BinOp} {t : TypeId} {a b : ByteArray} {K : Option Value → Prop} (H : vcStr op a b K) :
    ∃ v, K (some v) ∧ ∀ w, (binOp op t (.string a) (.string b)).run P w = .ok v w := by
  cases op <;> simp only [vcStr] at H
  case add =>
    refine ⟨_, H.2, fun w => ?_⟩
    have : ¬ (((a.size + b.size : Nat) : Int) > IntKind.i64.max) := by
      have h := H.1
      have : IntKind.i64.max = 9223372036854775807 := by decide
      omega
    simp only [binOp, Op.stringOp]
    rw [if_neg this]; simp
  all_goals first | exact H.elim | exact ⟨_, H, fun w => by simp [binOp, Op.stringOp, seq, slt]⟩

end Go.Vc
