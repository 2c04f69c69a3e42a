/- Chapter 3: the pieces that came in, opened. -/
import Derived.Test.YtoheacfggalcbaaDoorShaM
import Derived.Test.YtoheacfggalcbaaDoorShaU
import Derived.Test.YtoheacfggalcbaaDoorVcO
namespace Go.Proofs.YtoheacfggalcbaaDoor
open Go.Vc Go.Sha
set_option linter.unusedVariables false
theorem cells42 : Tryd.prog.cellsOf 42 = 3 := by kernel_rfl
theorem cells22 : Tryd.prog.cellsOf 22 = 1 := by kernel_rfl
theorem cells4 : Tryd.prog.cellsOf 4 = 1 := by kernel_rfl

theorem bulk_part {H : Type} {d : DataW H} {l : List (DataW H)} {i : Nat} (h : l[i]? = some d) : Rows.uptoBulk d + 1 ≤ Rows.uptoBulk (.agg l) := by
  have := bulk_at (l := l) i h
  show _ ≤ Rows.uptoBulkAll l + 1
  omega
theorem bulk_elem {H : Type} {d : DataW H} {l sp : List (DataW H)} {i : Nat} (h : l[i]? = some d) : Rows.uptoBulk d + 1 ≤ Rows.uptoBulk (.slice l sp) := by
  have := bulk_at (l := l) i h
  show _ ≤ Rows.uptoBulkAll l + Rows.uptoBulkAll sp + 1
  omega

theorem pieces_law {H : Type} {enc : TypeId × Value → H} {W : World} {v : Value} {d : DataW H} {ps : List MemPlace} {b0 : Nat} {r : Reach} (hval : Value.okWide Tryd.prog W r b0 40 v) (h0 : DataW.Trod enc Tryd.prog W 0 (fun _ => true) true 40 v d ps)
    (hb : Rows.uptoBulk d ≤ 1048576) (hK : KAt W.heap) : HEnt Tryd.prog 7 #[v] W.heap fun v h' => v = .bool true ∧ Ext W.heap h' := by
  rcases open_elems Tryd.underlying40 hval h0 with rfl | ⟨b, o, l, c, m, els, sp, rfl, hlc, rfl, hl, hel⟩
  · exact pieces_ok none 0 0 [] W.heap hK ⟨rfl, fun i hi => by simp at hi⟩ (by decide)
  · have key : ∀ i, i < l → ∃ bs : List Nat, (∃ a' l' c', Vc.cell W.heap ⟨b, o + i * 3, none⟩ = some (.slice a' l' c') ∧ In W.heap a' l' c' bs) ∧ bs.length ≤ 1048576 ∧
        (∃ x, Vc.cell W.heap ⟨b, o + i * 3 + 1, none⟩ = some (.bool x)) ∧ ∃ x, Vc.cell W.heap ⟨b, o + i * 3 + 2, none⟩ = some (.bool x) := by
      intro i hi
      obtain ⟨cs, pl, hlen, hc, ht⟩ := hel i (by omega)
      rw [cells42] at hlen hc
      obtain ⟨xs, n, rfl, hx, -, hxl, hf⟩ := DataW.trod_struct Tryd.underlying42 ht
      have hxl3 : xs.length = 3 := hxl
      have f0 : DataW.trod enc Tryd.prog W 0 (fun _ => true) true n 22 ((cs.drop 0).take (Tryd.prog.cellsOf 22)) = xs[0]? := hf 0 _ rfl
      have f1 : DataW.trod enc Tryd.prog W 0 (fun _ => true) true n 4 ((cs.drop 1).take (Tryd.prog.cellsOf 4)) = xs[1]? := hf 1 _ rfl
      have f2 : DataW.trod enc Tryd.prog W 0 (fun _ => true) true n 4 ((cs.drop 2).take (Tryd.prog.cellsOf 4)) = xs[2]? := hf 2 _ rfl
      rw [cells22] at f0
      rw [cells4] at f1 f2
      match cs, hlen, xs, hxl3 with
      | [c0, c1, c2], _, [y0, y1, y2], _ =>
        simp only [List.getElem?_cons_zero, List.getElem?_cons_succ] at f0 f1 f2
        obtain ⟨a', l', c', bs, e0, i0, d0⟩ := trod_bytes Tryd.underlying22 Tryd.underlying5 cells5 f0
        obtain ⟨x1, e1⟩ := trod_bool Tryd.underlying4 f1
        obtain ⟨x2, e2⟩ := trod_bool Tryd.underlying4 f2
        have e0' : c0 = .slice a' l' c' := by simpa using e0
        have e1' : c1 = .bool x1 := by simpa using e1
        have e2' : c2 = .bool x2 := by simpa using e2
        have h0 := hc 0 (by omega)
        have h1 := hc 1 (by omega)
        have h2 := hc 2 (by omega)
        refine ⟨bs, ⟨a', l', c', by rw [← e0']; exact h0, inB i0⟩, ?_, ⟨x1, by rw [← e1']; exact h1⟩, ⟨x2, by rw [← e2']; exact h2⟩⟩
        have b1 := bulk_bytes i0 d0
        have b2 : Rows.uptoBulk y0.1 + 1 ≤ Rows.uptoBulk els[i] := by
          have : els[i] = .agg [y0.1, y1.1, y2.1] := congrArg Prod.fst hx
          rw [this]; exact bulk_part (i := 0) rfl
        have b3 : Rows.uptoBulk els[i] + 1 ≤ Rows.uptoBulk (.slice els sp) := bulk_elem (i := i) (List.getElem?_eq_getElem (by omega))
        omega
    obtain ⟨pss, hpl, hps⟩ := list_of key
    have hbl := bulk_len els
    have hbs : Rows.uptoBulk (.slice els sp) = Rows.uptoBulkAll els + Rows.uptoBulkAll sp + 1 := rfl
    exact pieces_ok _ l c pss W.heap hK ⟨hpl, fun i hi => ⟨b, o, rfl, hps i hi⟩⟩ (by omega)
end Go.Proofs.YtoheacfggalcbaaDoor
