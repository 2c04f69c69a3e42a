import Derived.Test.YtpnbbgcaaogpdaaDoorManU
import Derived.Test.YtpnbbgcaaogpdaaDoorManQ

namespace Go.Proofs.YtpnbbgcaaogpdaaDoor
open Go.ChangeShapes Go.WideShapes Go.ChangeAt Go.RowKit Go.Vc Go.Sha
set_option linter.unusedVariables false
theorem inB_tab {h : Heap} {a : Option Addr} {l c : Nat} {bs : List Nat} (i : InB h a l c bs) : Tab 1 h a l c (rows8 bs) := by
  refine ⟨by rw [rows8_len, i.len], i.cap, fun r hr => ?_, fun hne => ?_, fun e => by rw [i.nil e]; rfl⟩
  · obtain ⟨n, _, rfl⟩ := List.mem_map.1 hr; rfl
  · have hb : bs ≠ [] := fun e => hne (by rw [e]; rfl)
    cases a with
    | none => exact absurd (i.nil rfl) hb
    | some ad =>
      obtain ⟨b, o, rfl, hlt, hc⟩ := i.at_ ad rfl hb
      refine ⟨b, o, rfl, hlt, fun k r hk j v hj => ?_⟩
      rw [rows8, List.getElem?_map] at hk
      obtain ⟨n, hn, rfl⟩ := Option.map_eq_some_iff.1 hk
      match j, hj with
      | 0, hj =>
        cases hj
        have := hc k (u8 n) (by rw [List.getElem?_map, hn]; rfl)
        rw [add_mk] at this
        rw [Nat.mul_one, Nat.add_zero]; exact this
theorem wf_i64 {z : Int} (h : (Lit.int .i64 z).wf = true) : -9223372036854775808 ≤ z ∧ z < 9223372036854775808 := by
  simp [Lit.wf, IntKind.min, IntKind.max, IntKind.signed, IntKind.bits] at h
  omega
end Go.Proofs.YtpnbbgcaaogpdaaDoor
