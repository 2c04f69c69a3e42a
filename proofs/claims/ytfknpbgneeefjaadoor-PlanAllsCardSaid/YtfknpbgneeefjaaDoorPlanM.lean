import Derived.Test.YtfknpbgneeefjaaDoorPlanSort
import Derived.Test.YtfknpbgneeefjaaDoorPlanK

namespace Go.Proofs.YtfknpbgneeefjaaDoor
open Go.Vc Go.Sha Go.Trail Go.Packs Go.Plan Go.Sort
set_option linter.unusedVariables false
set_option linter.unusedSimpArgs false
set_option maxRecDepth 20000
/-- a plan as it is sorted: its root, and where its packages lie -/
def PE : Type := { p : Int × Hdr // -1000 ≤ p.1 ∧ p.1 ≤ 1000 }
instance : Inhabited PE := ⟨⟨(0, ⟨none, 0, 0⟩), by decide⟩⟩
def encP (x : PE) : List Value := [.int .i64 x.1.1, .slice x.1.2.a x.1.2.l x.1.2.c]
def cfP (x y : PE) : Int := x.1.1 - y.1.1
theorem ltP (x y : PE) : ltOf cfP x y = decide (x.1.1 < y.1.1) := by
  unfold ltOf cfP
  apply decide_eq_decide.2
  omega
theorem swoP : SWO (ltOf cfP) where
  irrefl x := by rw [ltP]; simp
  trans x y z h1 h2 := by rw [ltP] at *; simp at *; omega
  ntrans x y z h1 h2 := by rw [ltP] at *; simp at *; omega
set_option maxHeartbeats 1000000 in
theorem closure44 (x y : PE) (W : World) : Calls Tryd.prog 44 #[.agg #[.int .i64 x.1.1, .slice x.1.2.a x.1.2.l x.1.2.c], .agg #[.int .i64 y.1.1, .slice y.1.2.a y.1.2.l y.1.2.c]] W fun e w' => e = .returned (.int .i64 (cfP x y)) ∧ ∃ q os', w' = grow (W.drewN q) os' := by
  have hx := x.2
  have hy := y.2
  have hw : IntKind.i64.wrap (x.1.1 - y.1.1) = x.1.1 - y.1.1 := i64_lt _ (by omega) (by omega)
  unfold cfP
  rw [← hw]
  clear hw hx hy
  generalize x.1.1 = u
  generalize y.1.1 = v
  generalize x.1.2 = d
  generalize y.1.2 = d2
  go_enter Tryd.func44, Tryd.ntmps44
  go_wp2_with (fail)
  go_ret
  exact ⟨by show Ending.returned (Value.int .i64 (RowKit.wrap64 (u - v))) = _; rw [IntWalk.i64_left], 0, _, by rw [alloc_eq_grow, alloc_eq_grow, grow_grow]; rfl⟩
theorem cmpLays44 (blk off size : Nat) (w : World) : CmpLays Tryd.prog 44 #[] encP 2 cfP blk off size w := fun _ _ _ _ x y => closure44 x y _
/-- the rows of the plans, in the cells of a block -/
def PRows (cs : Array Value) (d : Array PE) : Prop := ∀ i, i < d.size → cs[i * 2]? = some (.int .i64 d[i]!.1.1) ∧ cs[i * 2 + 1]? = some (.slice d[i]!.1.2.a d[i]!.1.2.l d[i]!.1.2.c)
theorem flat_get2 (d : Array PE) (i : Nat) (h : i < d.size) : (flatK encP 2 d)[i * 2]! = .int .i64 d[i]!.1.1 ∧ (flatK encP 2 d)[i * 2 + 1]! = .slice d[i]!.1.2.a d[i]!.1.2.l d[i]!.1.2.c := by
  rw [get_flatK _ _ _ _ (by omega), get_flatK _ _ _ _ (by omega), show i * 2 / 2 = i by omega, show i * 2 % 2 = 0 by omega, show (i * 2 + 1) / 2 = i by omega, show (i * 2 + 1) % 2 = 1 by omega]
  exact ⟨rfl, rfl⟩
theorem sort_ok (b c : Nat) (d : Array PE) (cs : Array Value) (h : Heap) (hb : h[b]? = some (.cells cs 49 (0, 0))) (hr : PRows cs d) (hsz : d.size < 1000) :
    HEnt Tryd.prog 43 #[.slice (some ⟨b, 0, none⟩) d.size c, .func (.func 44) #[] #[]] h fun v h' => v = .tuple #[] ∧ ∃ (d' : Array PE) (cs' : Array Value), d'.size = d.size ∧ d'.toList.Perm d.toList ∧ (∀ i j, i < j → j < d.size → d'[i]!.1.1 ≤ d'[j]!.1.1) ∧ h'[b]? = some (.cells cs' 49 (0, 0)) ∧ PRows cs' d' ∧ Keep (· = b) h h' := by
  refine HEnt.of_body Tryd.func43 (by kernel_rfl) (by kernel_rfl) fun w hw => ?_
  have eg : ∀ args w, (callFunc 44 args).run Tryd.prog w = .ok (.enter 44 args) w := enters_of Tryd.func44 (by kernel_rfl) rfl
  have hcell : ∀ j, j < cs.size → w.cell? ⟨b, j, none⟩ = cs[j]? := fun j hj => by
    show Vc.cell w.heap _ = _
    rw [hw, cell_blk hb]
  have hH : HoldsK encP 2 w b 0 d := by
    intro j hj
    rw [size_flatK] at hj
    refine ⟨?_, ?_⟩
    · have hc : w.cell? ⟨b, 0 + j, none⟩ = cs[j]? := by
        show Vc.cell w.heap _ = _
        rw [hw, cell_blk hb, Nat.zero_add]
      rw [hc]
      obtain ⟨g1, g2⟩ := hr (j / 2) (by omega)
      obtain ⟨f1, f2⟩ := flat_get2 d (j / 2) (by omega)
      rcases Nat.mod_two_eq_zero_or_one j with e | e
      · have ej : j / 2 * 2 = j := by omega
        rw [ej] at g1 f1
        rw [g1, f1]; rfl
      · have ej : j / 2 * 2 + 1 = j := by omega
        rw [ej] at g2 f2
        rw [g2, f2]; rfl
    · unfold World.frozen?
      simp [hw, hb]
  have hblk : b < w.heap.size := by rw [hw]; exact blk_lt hb
  have hcon := AnyQ.slices_SortFunc Tryd.sf43 2 Tryd.isAgg49 Tryd.sizeOf49 encP (fun _ => rfl) (fun x v hv => by simp [encP] at hv; rcases hv with rfl | rfl <;> rfl) cfP swoP 44 #[] b 0 c d w eg (cmpLays44 b 0 d.size w) hH hblk (by omega)
  change Calls Tryd.prog 43 _ _ _ at hcon
  refine hcon.mono fun e w' ⟨he, d', n, os, hp, hs, hw'⟩ => ?_
  subst hw'
  refine ⟨_, he, ⟨rfl, rfl, rfl⟩, rfl, d', putCells id 0 (flatK encP 2 d') cs, hp.1, ?_, fun i j hij hj => ?_, ?_, ?_, ?_⟩
  · have h2 := hp.2.2
    rw [show d'.extract 0 d.size = d' by rw [← hp.1]; simp, show d.extract 0 d.size = d by simp] at h2
    exact h2
  · have := hs i j (Nat.zero_le _) hij hj
    rw [ltP] at this
    simpa using this
  · show ((w.heap.modify b (onCells (putCells id 0 (flatK encP 2 d')))) ++ os)[b]? = _
    rw [Array.getElem?_append_left (by rw [Array.size_modify]; exact hblk), Array.getElem?_modify, if_pos rfl, hw, hb]
    rfl
  · intro i hi
    obtain ⟨g1, g2⟩ := hr i (by rw [← hp.1]; exact hi)
    obtain ⟨f1, f2⟩ := flat_get2 d' i hi
    unfold putCells
    rw [Array.getElem?_mapIdx, Array.getElem?_mapIdx, g1, g2]
    simp only [Option.map_some, size_flatK, Nat.zero_add, Nat.sub_zero, Nat.zero_le, true_and]
    rw [if_pos (by omega), if_pos (by omega), f1, f2]
    exact ⟨rfl, rfl⟩
  · refine ⟨?_, fun k hk hne => ?_⟩
    · show h.size ≤ ((w.heap.modify b (onCells (putCells id 0 (flatK encP 2 d')))) ++ os).size
      rw [Array.size_append, Array.size_modify, hw]; omega
    · show ((w.heap.modify b (onCells (putCells id 0 (flatK encP 2 d')))) ++ os)[k]? = _
      rw [Array.getElem?_append_left (by rw [Array.size_modify, hw]; exact hk), Array.getElem?_modify, if_neg (fun e => hne e.symm), hw]
end Go.Proofs.YtfknpbgneeefjaaDoor
