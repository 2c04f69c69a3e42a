import Derived.Test.YtnahhdkekchmfaaDoorLayU
import Derived.Test.YtnahhdkekchmfaaDoorLayO

namespace Go.Proofs.YtnahhdkekchmfaaDoor
open Go.Vc
set_option maxRecDepth 100000
theorem inB_tab {h : Heap} {a : Option Addr} {l c : Nat} {bs : List Nat} (i : InB h a l c bs) : Tab 1 h a l c (rows8 bs) := by
  refine ⟨by rw [rows8_len, i.len], i.cap, fun r hr => ?_, fun hne => ?_, fun e => by rw [i.nil e]; rfl⟩
  · obtain ⟨n, _, rfl⟩ := List.mem_map.1 hr; rfl
  · have hb : bs ≠ [] := fun e => hne (by rw [e]; rfl)
    cases a with
    | none => exact absurd (i.nil rfl) hb
    | some ad =>
      obtain ⟨b, o, rfl, hlt, hc⟩ := i.at_ ad rfl hb
      refine ⟨b, o, rfl, hlt, fun k r hk j v hj => ?_⟩
      rw [rows8, List.getElem?_map] at hk
      obtain ⟨n, hn, rfl⟩ := Option.map_eq_some_iff.1 hk
      match j, hj with
      | 0, hj =>
        cases hj
        have := hc k (u8 n) (by rw [List.getElem?_map, hn]; rfl)
        rw [add_mk] at this
        rw [Nat.mul_one, Nat.add_zero]; exact this
theorem u8_nat {z : Int} (hw : (Lit.int .u8 z).wf = true) : ∃ m : Nat, z = m ∧ m < 256 := by
  simp [Lit.wf, IntKind.min, IntKind.max, IntKind.signed, IntKind.bits] at hw
  exact ⟨z.toNat, by omega, by omega⟩
end Go.Proofs.YtnahhdkekchmfaaDoor
