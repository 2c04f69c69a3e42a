/- Chapter 16: what the two Checks of a manifest compute. -/
import Derived.Test.YtnhnioodlciajaaWireA
namespace Go.Proofs.Ytnhnioodlciajaa
open Go.Vc Go.Sha Go.Trail Go.Packs
set_option linter.unusedVariables false

theorem keyed84 : Keyed Try.prog 84 sumV sumOk := sums_keyed Try.underlying84 Try.underlying5 (by kernel_rfl)
theorem zero3 : (Try.prog.info? 3).bind (·.zero) = some (.int .i64 0) := by kernel_rfl
theorem zeroC86 : (zeroC Try.prog 86).size = 33 := by kernel_rfl
theorem eqg84 : Try.prog.eqGuardType Try.prog.depth 84 = false := by kernel_rfl
theorem cells84 : Try.prog.cellsOf 84 = 32 := by kernel_rfl
theorem refsC_step (seen : List (List Nat)) (r : RefV) (t : List RefV) (h1 : ¬ (r.size < 0 ∨ r.size > 2147483647)) (h2 : r.sum ∉ seen) : refsC seen (r :: t) = refsC (seen ++ [r.sum]) t := by
  conv => lhs; unfold refsC
  rw [if_neg h1, if_neg h2]
theorem takeR_succ {α : Type} {l : List α} {k : Nat} {x : α} (hx : l[k]? = some x) : l.take (k + 1) = l.take k ++ [x] := by
  obtain ⟨h1, h2⟩ := List.getElem?_eq_some_iff.1 hx
  rw [List.take_succ_eq_append_getElem h1, h2]
theorem dropR_cons {α : Type} {l : List α} {k : Nat} {x : α} (hx : l[k]? = some x) : l.drop k = x :: l.drop (k + 1) := by
  obtain ⟨h1, h2⟩ := List.getElem?_eq_some_iff.1 hx
  rw [List.drop_eq_getElem_cons h1, h2]
/-- each sum so far, once -/
def seenM (rs : List RefV) : List (List Nat × Value) := rs.map fun r => (r.sum, .int .i64 1)
theorem seenM_look (rs : List RefV) (s : List Nat) : lookA (seenM rs) s = if s ∈ rs.map RefV.sum then some (.int .i64 1) else none := by
  induction rs with
  | nil => rfl
  | cons r t ih =>
    show (if s = r.sum then some (Value.int .i64 1) else lookA (seenM t) s) = _
    rw [ih]
    by_cases h : s = r.sum
    · simp [h]
    · by_cases h2 : s ∈ t.map RefV.sum
      · rw [if_neg h, if_pos h2, if_pos (by rw [List.map_cons]; exact List.mem_cons_of_mem _ h2)]
      · rw [if_neg h, if_neg h2, if_neg (by rw [List.map_cons]; intro hm; rcases List.mem_cons.1 hm with hm | hm; exact h hm; exact h2 hm)]
theorem seenM_upd {rs : List RefV} {r : RefV} (h : r.sum ∉ rs.map RefV.sum) : updA (seenM rs) r.sum (.int .i64 1) = seenM (rs ++ [r]) := by
  induction rs with
  | nil => rfl
  | cons q t ih =>
    have h1 : r.sum ≠ q.sum := fun e => h (by rw [e]; simp)
    have h2 : r.sum ∉ t.map RefV.sum := fun e => h (by rw [List.map_cons]; exact List.mem_cons_of_mem _ e)
    show (if r.sum = q.sum then _ else (q.sum, Value.int .i64 1) :: updA (seenM t) r.sum (.int .i64 1)) = _
    rw [if_neg h1, ih h2]; rfl
theorem sumCells_len (s : List Nat) : (sumCells s).length = s.length := by simp [sumCells]
theorem sumCells_one (s : List Nat) : ∀ u ∈ sumCells s, one u = true := by
  intro u hu
  obtain ⟨n, _, rfl⟩ := List.mem_map.1 hu
  rfl
theorem cells_one (r : RefV) : ∀ u ∈ r.cells, one u = true := by
  intro u hu
  rcases List.mem_append.1 hu with h | h
  · exact sumCells_one _ u h
  · rw [List.mem_singleton] at h; rw [h]; rfl
theorem toNat_pos {x : Int} (h : decide (x > 0) = true) : 0 < x := by simpa using h

theorem man_ok (nm vr : ByteArray) (a : Option Addr) (l c : Nat) (rs : List RefV) (h : Heap) (hr : RefsAt h a l c rs) (hn : nm.size < 9223372036854775808) (hv : vr.size < 9223372036854775808) :
    HEnt Try.prog 54 #[.agg #[.string nm, .string vr, .slice a l c]] h fun v h' => v = .int .i64 (manC nm vr rs) ∧ Ext h h' := by
  refine F54_ent _ _ _ _ _ _ _ ?_
  have hlen := hr.len
  unfold F54
  refine (St.start h).new fun b1 h1 s1 x1 _ => ?_
  have bad : (¬ nameP (lst nm) ∨ ¬ nameP (lst vr)) → F54_k1 (at0 b1) true h1 fun v h' => v = .int .i64 (manC nm vr rs) ∧ Ext h h' := fun hb => by
    unfold F54_k1
    refine br_of (fun _ => ⟨?_, s1.ext⟩) (fun e => by cases e)
    unfold manC; rw [if_pos hb]; rfl
  refine ⟨nm, s1.cell 0 rfl rfl, HEnt.use (name_ok nm hn h1) ?_⟩
  rintro _ h1 ⟨rfl, rfl⟩
  refine ⟨_, rfl, br_of (fun e => bad (.inl (by simpa using e))) (fun e1 => ?_)⟩
  have n1 : nameP (lst nm) := by simpa using e1
  refine ⟨vr, s1.cell 0 rfl rfl, HEnt.use (name_ok vr hv _) ?_⟩
  rintro _ h1 ⟨rfl, rfl⟩
  refine ⟨_, rfl, ?_⟩
  by_cases n2 : nameP (lst vr)
  case neg => rw [decide_eq_false n2]; exact bad (.inr n2)
  rw [decide_eq_true n2]
  have hman : manC nm vr rs = if rs.length = 0 then 9 else if rs.length > 8 then 3 else refsC [] rs := by
    unfold manC; rw [if_neg (fun e => e.elim (fun e => e n1) fun e => e n2)]
  unfold F54_k1
  refine br_of (fun e => by cases e) (fun _ => ⟨a, l, c, s1.cell 0 rfl rfl, br_of (fun e => ⟨?_, s1.ext⟩) (fun e => ?_)⟩)
  · have : (l : Int) = 0 := by simpa using e
    rw [hman, if_pos (by omega)]; rfl
  have hl0 : l ≠ 0 := by
    have : ¬ (l : Int) = 0 := by simpa using e
    omega
  refine ⟨a, l, c, s1.cell 0 rfl rfl, br_of (fun e => ⟨?_, s1.ext⟩) (fun e => ?_)⟩
  · have : (l : Int) > 8 := by simpa using e
    rw [hman, if_neg (by omega), if_pos (by omega)]; rfl
  have hl8 : l ≤ 8 := by
    have : ¬ (l : Int) > 8 := by simpa using e
    omega
  rw [hman, if_neg (by omega), if_neg (by omega)]
  unfold F54_k2
  refine newK_intro fun h2 nm2 x2 _ => ?_
  have hm0 : MapAt sumV sumOk h2 h1.size [] := MapAt.new nm2
  generalize hmb : h1.size = mb at *
  have hmb0 : h.size ≤ mb := by rw [← hmb]; exact s1.ext.size
  have s2 := s1.grow x2
  have b1m : b1 < mb := by rw [← hmb]; exact s1.lt (i := 0) rfl
  refine ⟨a, l, c, s2.cell 0 rfl rfl, ?_⟩
  refine ⟨fun x h' => ∃ k : Nat, x = k ∧ k ≤ l ∧ Ext h h' ∧ MapAt sumV sumOk h' mb (seenM (rs.take k)) ∧ refsC [] rs = refsC ((rs.take k).map RefV.sum) (rs.drop k), fun x _ => (l - x).toNat,
    ⟨0, rfl, by omega, s2.ext, by simpa [seenM] using hm0, by simp⟩, ?_⟩
  rintro h3 _ ⟨k, rfl, hk, x3, hm3, he⟩
  unfold F54_b3
  refine br_of (fun ht => ?_) (fun hf => ?_)
  · have hk' : k < l := by
      have : (k : Int) < (l : Int) := by simpa using ht
      omega
    obtain ⟨q, r, hri, ea, hrok, hc33, hc32, hsz⟩ := (hr.grow x3).get hk'
    have hd := dropR_cons hri
    rw [hd] at he
    unfold F54_k4
    refine ⟨q, ea, by omega, by omega, r.cells.toArray, by simp [cells_len r hrok], by rw [Int.toNat_natCast]; exact hc33, ?_⟩
    refine (St.start h3).new fun b5 h4 s4 x4 hb5 => ?_
    refine s4.storeAll 0 rfl (by simp [cells_len r hrok]) zeroC86 (by simpa using cells_one r) fun h5 s5 o5 => ?_
    have x35 : Ext h3 h5 := s5.ext
    have hm5 := hm3.grow x35
    have c32 : r.cells[32]? = some (.int .i64 r.size) := by simp [RefV.cells, sumCells, hrok.1]
    have b5m : b5 ≠ mb := by have := hm3.lt; omega
    have bad2 : (r.size < 0 ∨ r.size > 2147483647) → F54_k5 (fun x h' => ∃ k : Nat, x = k ∧ k ≤ l ∧ Ext h h' ∧ MapAt sumV sumOk h' mb (seenM (rs.take k)) ∧ refsC [] rs = refsC ((rs.take k).map RefV.sum) (rs.drop k)) (fun x _ => (l - x).toNat) (((l : Int) - (k : Int)).toNat) (some mb) (at0 b5) a l c (l : Int) (k : Int) true h5 fun v h' => v = .int .i64 (refsC [] rs) ∧ Ext h h' := fun hb => by
      unfold F54_k5
      refine br_of (fun _ => ⟨?_, x3.trans x35⟩) (fun e => by cases e)
      rw [he]; unfold refsC; rw [if_pos hb]; rfl
    refine ⟨r.size, s5.cell 0 rfl (by simpa using c32), br_of (fun e => bad2 (.inl (of_decide_eq_true e))) (fun e1 => ⟨r.size, s5.cell 0 rfl (by simpa using c32), ?_⟩)⟩
    have g1 := of_decide_eq_false e1
    by_cases g2 : r.size > 2147483647
    case pos => rw [decide_eq_true g2]; exact bad2 (.inr g2)
    rw [decide_eq_false g2]
    unfold F54_k5
    refine br_of (fun e => by cases e) (fun _ => ?_)
    unfold F54_k6
    have csum : CellsAt h5 ((at0 b5).add 0) (sumCells r.sum) := s5.cells 0 rfl fun j v hv => by
      have hl := (List.getElem?_eq_some_iff.1 hv).1
      have : r.cells[j]? = some v := by rw [RefV.cells, List.getElem?_append_left hl]; exact hv
      simpa using this
    refine ⟨(sumCells r.sum).toArray, by simp [sumCells_len, hrok.1], csum, ?_⟩
    refine semK_lookup keyed84 Try.underlying95 zero3 hm5 hrok ?_
    rw [seenM_look]
    by_cases hin : r.sum ∈ (rs.take k).map RefV.sum
    · rw [if_pos hin]
      refine ⟨1, rfl, br_of (fun _ => ⟨?_, x3.trans x35⟩) (fun e => by cases e)⟩
      rw [he]; unfold refsC; rw [if_neg (fun e => e.elim g1 g2), if_pos hin]; rfl
    · rw [if_neg hin]
      refine ⟨0, rfl, br_of (fun e => by cases e) (fun _ => ?_)⟩
      have hnext : refsC [] rs = refsC ((rs.take (k + 1)).map RefV.sum) (rs.drop (k + 1)) := by
        rw [he, refsC_step _ _ _ (fun e => e.elim g1 g2) hin, takeR_succ hri, List.map_append]; rfl
      have fin : ∀ h9, MapAt sumV sumOk h9 mb (updA (seenM (rs.take k)) r.sum (.int .i64 1)) → Only mb h5 h9 → F54_k8 (fun x h' => ∃ k : Nat, x = k ∧ k ≤ l ∧ Ext h h' ∧ MapAt sumV sumOk h' mb (seenM (rs.take k)) ∧ refsC [] rs = refsC ((rs.take k).map RefV.sum) (rs.drop k)) (fun x _ => (l - x).toNat) (((l : Int) - (k : Int)).toNat) (some mb) a l c (l : Int) (k : Int) h9 fun v h' => v = .int .i64 (refsC [] rs) ∧ Ext h h' := by
        intro h9 m9 o9
        unfold F54_k8
        rw [wrap_succ k _ hk' (by omega)]
        refine ⟨⟨k + 1, rfl, by omega, ?_, ?_, hnext⟩, less_succ _ _ hk'⟩
        · have x := x3.trans x35
          exact ⟨Nat.le_trans x.size (Nat.le_of_eq o9.size.symm), fun j hj => (o9.block j (by omega)).trans (x.block j hj)⟩
        · rw [seenM_upd hin, ← takeR_succ hri] at m9; exact m9
      unfold F54_k7
      refine ⟨Keep (· = mb), fun h => Keep.refl _ h, fun _ _ _ x y => x.trans y, (sumCells r.sum).toArray, by simp [sumCells_len, hrok.1], fun w hw => ?_, ?_, ?_⟩
      · have hb : w.heap[b5]? = h5[b5]? := hw.block b5 (s5.lt (i := 0) rfl) b5m
        have hcw : CellsAt w.heap ((at0 b5).add 0) (sumCells r.sum) := fun j v hv => by
          have := csum j v hv
          rw [add_at0, add_mk] at this ⊢
          rw [← this]; simp only [cell, hb]
        have := run_cells (P := Try.prog) hcw
        rw [sumCells_len, hrok.1] at this
        unfold loadVar
        simp only [Sem.run_bind, run_isAgg_true Try.underlying84 rfl, Result.andThen_ok, if_true, run_size Try.underlying84, cells84, this, Sem.run_pure]
      · refine semK_lookup keyed84 Try.underlying95 zero3 hm5 hrok ?_
        rw [seenM_look, if_neg hin]
        refine ⟨0, rfl, Keep.refl _ _, semK_entry keyed84 Try.underlying95 zero3 hm5 hrok fun n h6 o6 m6 hst => ?_⟩
        rw [seenM_look, if_neg hin]
        refine ⟨0, n, rfl, o6.keep rfl, hst _ _ fun h7 m7 o7 => ⟨?_, fin h7 m7 o7⟩⟩
        exact ⟨by rw [o6.size, o7.size]; exact Nat.le_refl _, fun j hj hne => (o7.block j hne).trans (o6.block j hne).symm⟩
      · refine semK_entry keyed84 Try.underlying95 zero3 hm5 hrok fun n h6 o6 m6 hst => ?_
        rw [seenM_look, if_neg hin] at m6 ⊢
        refine ⟨0, n, rfl, o6.keep rfl, semK_lookup keyed84 Try.underlying95 zero3 m6 hrok ?_⟩
        rw [look_upd, if_pos rfl]
        refine ⟨0, rfl, Keep.refl _ _, hst _ _ fun h7 m7 o7 => ⟨?_, fin h7 m7 o7⟩⟩
        exact ⟨by rw [o6.size, o7.size]; exact Nat.le_refl _, fun j hj hne => (o7.block j hne).trans (o6.block j hne).symm⟩
  · have hk' : k = l := by
      have : ¬ (k : Int) < (l : Int) := by simpa using hf
      omega
    unfold F54_k9
    rw [List.drop_of_length_le (by omega)] at he
    exact ⟨by rw [he]; rfl, x3⟩

theorem refMan_ok (nm vr : ByteArray) (a : Option Addr) (l c : Nat) (rs : List RefV) (h : Heap) (hr : RefsAt h a l c rs) (hn : nm.size < 9223372036854775808) (hv : vr.size < 9223372036854775808) :
    HEnt Try.prog 57 #[.agg #[.string nm, .string vr, .slice a l c]] h fun v h' => v = .int .i64 (manC nm vr rs) ∧ Ext h h' := by
  refine F57_ent _ _ _ _ _ _ _ ?_
  have hlen := hr.len
  unfold F57
  refine (St.start h).new fun b1 h1 s1 x1 _ => ?_
  have bad : (¬ nameP (lst nm) ∨ ¬ nameP (lst vr)) → F57_k1 (at0 b1) true h1 fun v h' => v = .int .i64 (manC nm vr rs) ∧ Ext h h' := fun hb => by
    unfold F57_k1
    refine br_of (fun _ => ⟨?_, s1.ext⟩) (fun e => by cases e)
    unfold manC; rw [if_pos hb]; rfl
  refine ⟨nm, s1.cell 0 rfl rfl, HEnt.use (refName_ok nm hn h1) ?_⟩
  rintro _ h1 ⟨rfl, rfl⟩
  refine ⟨_, rfl, br_of (fun e => bad (.inl (by simpa using e))) (fun e1 => ?_)⟩
  have n1 : nameP (lst nm) := by simpa using e1
  refine ⟨vr, s1.cell 0 rfl rfl, HEnt.use (refName_ok vr hv _) ?_⟩
  rintro _ h1 ⟨rfl, rfl⟩
  refine ⟨_, rfl, ?_⟩
  by_cases n2 : nameP (lst vr)
  case neg => rw [decide_eq_false n2]; exact bad (.inr n2)
  rw [decide_eq_true n2]
  have hman : manC nm vr rs = if rs.length = 0 then 9 else if rs.length > 8 then 3 else refsC [] rs := by
    unfold manC; rw [if_neg (fun e => e.elim (fun e => e n1) fun e => e n2)]
  have c2 := s1.cell 0 rfl (k := 2) (v := .slice a l c) rfl
  have hr1 := hr.grow s1.ext
  unfold F57_k1
  refine br_of (fun e => by cases e) (fun _ => ?_)
  unfold F57_k2
  refine ⟨a, l, c, c2, br_of (fun e => ⟨?_, s1.ext⟩) (fun e => ?_)⟩
  · have : (l : Int) = 0 := by simpa using e
    rw [hman, if_pos (by omega)]; rfl
  have hl0 : l ≠ 0 := by
    have : ¬ (l : Int) = 0 := by simpa using e
    omega
  unfold F57_k3
  refine ⟨a, l, c, c2, br_of (fun e => ⟨?_, s1.ext⟩) (fun e => ?_)⟩
  · have : (l : Int) > 8 := by simpa using e
    rw [hman, if_neg (by omega), if_pos (by omega)]; rfl
  have hl8 : l ≤ 8 := by
    have : ¬ (l : Int) > 8 := by simpa using e
    omega
  rw [hman, if_neg (by omega), if_neg (by omega)]
  unfold F57_k4
  rintro _ rfl
  refine ⟨fun x h' => ∃ k : Nat, x = k ∧ k ≤ l ∧ h' = h1 ∧ refsC [] rs = refsC ((rs.take k).map RefV.sum) (rs.drop k), fun x _ => (l - x).toNat, ⟨0, rfl, by omega, rfl, by simp⟩, ?_⟩
  rintro h2 _ ⟨k, rfl, hk, rfl, he⟩
  unfold F57_b5
  refine ⟨a, l, c, c2, br_of (fun ht => ?_) (fun hf => ?_)⟩
  · have hk' : k < l := by
      have : (k : Int) < (l : Int) := by simpa using ht
      omega
    obtain ⟨q, r, hri, ea, hrok, hc33, hc32, hsz⟩ := hr1.get hk'
    have hd := dropR_cons hri
    rw [hd] at he
    have bad2 : (r.size < 0 ∨ r.size > 2147483647) → F57_k7 (fun x h' => ∃ k : Nat, x = k ∧ k ≤ l ∧ h' = h2 ∧ refsC [] rs = refsC ((rs.take k).map RefV.sum) (rs.drop k)) (fun x _ => (l - x).toNat) (((l : Int) - (k : Int)).toNat) (at0 b1) (k : Int) true h2 fun v h' => v = .int .i64 (refsC [] rs) ∧ Ext h h' := fun hb => by
      unfold F57_k7
      refine br_of (fun _ => ⟨?_, s1.ext⟩) (fun e => by cases e)
      rw [he]; unfold refsC; rw [if_pos hb]; rfl
    unfold F57_k6
    refine ⟨a, l, c, c2, q, ea, by omega, by omega, r.size, by rw [Int.toNat_natCast]; exact hsz, br_of (fun e => bad2 (.inl (of_decide_eq_true e))) (fun e1 => ⟨a, l, c, c2, q, ea, by omega, by omega, r.size, by rw [Int.toNat_natCast]; exact hsz, ?_⟩)⟩
    have g1 := of_decide_eq_false e1
    by_cases g2 : r.size > 2147483647
    case pos => rw [decide_eq_true g2]; exact bad2 (.inr g2)
    rw [decide_eq_false g2]
    unfold F57_k7
    refine br_of (fun e => by cases e) (fun _ => ?_)
    unfold F57_k8
    rintro _ rfl
    refine ⟨fun x h' => ∃ j : Nat, x = j ∧ j ≤ k ∧ h' = h2 ∧ r.sum ∉ (rs.take j).map RefV.sum, fun x _ => (k - x).toNat, ⟨0, rfl, by omega, rfl, by simp⟩, ?_⟩
    rintro h3 _ ⟨j, rfl, hj, rfl, hno⟩
    unfold F57_b9
    refine br_of (fun htj => ?_) (fun hfj => ?_)
    · have hj' : j < k := by
        have : (j : Int) < (k : Int) := by simpa using htj
        omega
      obtain ⟨q', r', hri', ea', hrok', hc33', hc32', hsz'⟩ := hr1.get (show j < l by omega)
      unfold F57_k10
      refine ⟨a, l, c, c2, q', ea', by omega, by omega, (sumCells r'.sum).toArray, by simp [sumCells_len, hrok'.1], by rw [Int.toNat_natCast]; exact hc32', a, l, c, c2, q, ea, by omega, by omega, (sumCells r.sum).toArray, by simp [sumCells_len, hrok.1], by rw [Int.toNat_natCast]; exact hc32,
        decide (r'.sum = r.sum), fun w => keyed84.eq _ _ hrok' hrok w, eqg84, ?_⟩
      intro h4 hcl; obtain rfl := hcl.eq
      refine br_of (fun hb => ⟨?_, s1.ext⟩) (fun hb => ?_)
      · have hb' := of_decide_eq_true hb
        have hin : r.sum ∈ (rs.take k).map RefV.sum := by
          rw [← hb']
          exact List.mem_map.2 ⟨r', List.mem_of_getElem? (i := j) (by rw [List.getElem?_take, if_pos hj']; exact hri'), rfl⟩
        rw [he]; unfold refsC; rw [if_neg (fun e => e.elim g1 g2), if_pos hin]; rfl
      · have hb' := of_decide_eq_false hb
        unfold F57_k11
        rintro _ rfl
        rw [wrap_succ j _ hj' (by omega)]
        refine ⟨⟨j + 1, rfl, by omega, rfl, ?_⟩, less_succ _ _ hj'⟩
        rw [takeR_succ hri', List.map_append]
        intro hm
        rcases List.mem_append.1 hm with hm | hm
        · exact hno hm
        · simp at hm; exact hb' hm.symm
    · have hj' : j = k := by
        have : ¬ (j : Int) < (k : Int) := by simpa using hfj
        omega
      subst hj'
      unfold F57_k12
      rintro _ rfl
      rw [wrap_succ j _ hk' (by omega)]
      refine ⟨⟨j + 1, rfl, by omega, rfl, ?_⟩, less_succ _ _ hk'⟩
      rw [he, refsC_step _ _ _ (fun e => e.elim g1 g2) hno, takeR_succ hri, List.map_append]; rfl
  · have hk' : k = l := by
      have : ¬ (k : Int) < (l : Int) := by simpa using hf
      omega
    unfold F57_k13
    rw [List.drop_of_length_le (by omega)] at he
    exact ⟨by rw [he]; rfl, s1.ext⟩
end Go.Proofs.Ytnhnioodlciajaa
