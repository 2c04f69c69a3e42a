/- Chapter 3: what the rows' list gives, and a world for their witnesses. -/
import Derived.Test.YtoheacfggalcbaaDoorShaE
import Derived.Test.YtoheacfggalcbaaDoorVcR
import Derived.Test.YtoheacfggalcbaaDoorCards
import Derived.Test.YtoheacfggalcbaaDoorTie
import Derived.Deep.DeepHandedRow
namespace Go.Proofs.YtoheacfggalcbaaDoor
open Go.ChangeShapes Go.WideShapes Go.ChangeAt Go.RowKit Go.Vc Go.Sha
set_option linter.unusedVariables false
set_option maxRecDepth 100000

theorem own : ownKnob Tryd.prog.godebug = none := by kernel_rfl
theorem laidOut : laidOutB Tryd.prog = true := by kernel_rfl
theorem gK : Tryd.prog.globalNamed "veneer/sha.k" = some 0 := by kernel_rfl
theorem gKType : (Tryd.prog.globals[0]?).map (·.type) = some 59 := by kernel_rfl
theorem cells59 : Tryd.prog.cellsOf 59 = 64 := by kernel_rfl
theorem listed : (Rows.laid_veneer_sha_k : DataW Unit) = Lib.tabData .u32 (Sha.K.map Int.ofNat) := by rfl
theorem kAt {W : World} (h : laidMet Tryd.prog [("veneer/sha.k", Rows.laid_veneer_sha_k)] W) : KAt W.heap := by
  rw [listed] at h
  have t : Lib.TabIs Tryd.prog W "veneer/sha.k" .u32 (Sha.K.map Int.ofNat) := Lib.tabIs_of_head (rest := []) gK gKType Tryd.underlying59 Tryd.underlying44 (by kernel_rfl) cells59 h
  unfold Lib.TabIs World.var? at t
  rw [gK] at t
  simp only [Option.bind_some] at t
  cases hb : W.heap[0]? with
  | none => rw [hb] at t; cases t
  | some o =>
    rw [hb] at t
    cases o with
    | cells cs ty fr =>
      simp only [Option.some.injEq] at t
      exact ⟨ty, fr, by rw [hb, t, List.map_map]; rfl⟩
    | _ => cases t

theorem nats8 (zs : List Int) (hw : ∀ z ∈ zs, (Lit.int .u8 z).wf = true) : ∃ D : List Nat, zs = D.map Int.ofNat ∧ ∀ x ∈ D, x < 256 := by
  refine ⟨zs.map Int.toNat, ?_, ?_⟩
  · rw [List.map_map]
    conv => lhs; rw [← List.map_id zs]
    apply List.map_congr_left
    intro z hz
    have := hw z hz
    simp [Lit.wf, IntKind.min, IntKind.max, IntKind.signed, IntKind.bits] at this
    simp; omega
  · intro x hx
    obtain ⟨z, hz, rfl⟩ := List.mem_map.1 hx
    have := hw z hz
    simp [Lit.wf, IntKind.min, IntKind.max, IntKind.signed, IntKind.bits] at this
    omega

/-- the settled world, the table holding what its initialiser lays -/
noncomputable def laidWorld (os : Os) : World :=
  { World.holding Tryd.prog os ⟨#[], #[], []⟩ with heap := (World.holding Tryd.prog os ⟨#[], #[], []⟩).heap.modify 0 fun
      | .cells _ t frozen => .cells (Sha.K.map u32).toArray t frozen
      | o => o }
theorem laid_met (os : Os) (args : Array Value) : laidMet Tryd.prog [("veneer/sha.k", Rows.laid_veneer_sha_k)] ((laidWorld os).forCall (fun _ _ => 0) ⟨#[], args, []⟩).memory :=
  laidMet_of_run' 8 (by kernel_rfl) (by kernel_rfl)
end Go.Proofs.YtoheacfggalcbaaDoor
