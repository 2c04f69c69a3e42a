import Derived.Test.YtpnbbgcaaogpdaaDoorManUb
import Derived.Test.YtpnbbgcaaogpdaaDoorManY
import Derived.Lib.LaidTab

namespace Go.Proofs.YtpnbbgcaaogpdaaDoor
open Go.ChangeShapes Go.WideShapes Go.ChangeAt Go.RowKit Go.Vc Go.Sha
set_option linter.unusedVariables false
set_option maxRecDepth 100000
noncomputable def laidWorldK (os : Os) : World :=
  { World.holding Tryd.prog os ⟨#[], #[], []⟩ with heap := ((((World.holding Tryd.prog os ⟨#[], #[], []⟩).heap.modify ((Tryd.prog.globalNamed "unicode/utf8.acceptRanges").getD 0) (layCells (ranges.map fun n : Nat => Value.int .u8 n).toArray)).modify ((Tryd.prog.globalNamed "unicode/utf8.first").getD 0) (layCells (Pinned.utf8FirstZ.map fun n : Nat => Value.int .u8 n).toArray)).modify 1 (layCells (Sha.K.map Sh.u32).toArray)) }
theorem laid_metK (os : Os) (args : Array Value) : laidMet Tryd.prog [("unicode/utf8.acceptRanges", Rows.laid_unicode_utf8_acceptRanges), ("veneer/sha.k", Rows.laid_veneer_sha_k), ("unicode/utf8.first", Rows.laid_unicode_utf8_first)] ((laidWorldK os).forCall (fun _ _ => 0) ⟨#[], args, []⟩).memory :=
  laidMet_of_run' 8 (by kernel_rfl) (by kernel_rfl)
theorem laidMet_tail {P : Program} {W : World} {x : String × DataW Unit} {r : List (String × DataW Unit)} (h : laidMet P (x :: r) W) : laidMet P r W := by
  obtain ⟨ps, hv, hn, hc⟩ := h
  obtain ⟨n, d⟩ := x
  obtain ⟨g, t, cs, fuel, p, q, _, _, _, _, hq, rfl⟩ := hv
  exact ⟨q, hq, (List.nodup_append.1 hn).2.1, fun b off hm => hc b off (List.mem_append_right _ hm)⟩
theorem gK : Tryd.prog.globalNamed "veneer/sha.k" = some 1 := by kernel_rfl
theorem gKType : (Tryd.prog.globals[1]?).map (·.type) = some 104 := by kernel_rfl
theorem cells104 : Tryd.prog.cellsOf 104 = 64 := by kernel_rfl
theorem listed : (Rows.laid_veneer_sha_k : DataW Unit) = Lib.tabData .u32 (Sha.K.map Int.ofNat) := by rfl
theorem kAt {W : World} (h : laidMet Tryd.prog [("unicode/utf8.acceptRanges", Rows.laid_unicode_utf8_acceptRanges), ("veneer/sha.k", Rows.laid_veneer_sha_k), ("unicode/utf8.first", Rows.laid_unicode_utf8_first)] W) : Sh.KAt W.heap := by
  replace h := laidMet_tail h
  rw [listed] at h
  have t : Lib.TabIs Tryd.prog W "veneer/sha.k" .u32 (Sha.K.map Int.ofNat) := Lib.tabIs_of_head gK gKType Tryd.underlying104 Tryd.underlying72 (by kernel_rfl) cells104 h
  unfold Lib.TabIs World.var? at t
  rw [gK] at t
  simp only [Option.bind_some] at t
  cases hb : W.heap[1]? with
  | none => rw [hb] at t; cases t
  | some o =>
    rw [hb] at t
    cases o with
    | cells cs ty fr =>
      simp only [Option.some.injEq] at t
      exact ⟨ty, fr, by rw [hb, t, List.map_map]; rfl⟩
    | _ => cases t
end Go.Proofs.YtpnbbgcaaogpdaaDoor
