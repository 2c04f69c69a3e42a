import Derived.Test.YtnhnioodlciajaaWireA

namespace Go.Proofs.Ytnhnioodlciajaa
open Go.Vc Go.Sha Go.Trail Go.Packs
set_option linter.unusedVariables false

theorem keyed84 : Keyed Try.prog 84 sumV sumOk := sums_keyed Try.underlying84 Try.underlying5 (by kernel_rfl)
theorem zero3 : (Try.prog.info? 3).bind (·.zero) = some (.int .i64 0) := by kernel_rfl
theorem zeroC86 : (zeroC Try.prog 86).size = 33 := by kernel_rfl
theorem eqg84 : Try.prog.eqGuardType Try.prog.depth 84 = false := by kernel_rfl
theorem cells84 : Try.prog.cellsOf 84 = 32 := by kernel_rfl
theorem refsC_step (seen : List (List Nat)) (r : RefV) (t : List RefV) (h1 : ¬ (r.size < 0 ∨ r.size > 2147483647)) (h2 : r.sum ∉ seen) : refsC seen (r :: t) = refsC (seen ++ [r.sum]) t := by
  conv => lhs; unfold refsC
  rw [if_neg h1, if_neg h2]
theorem takeR_succ {α : Type} {l : List α} {k : Nat} {x : α} (hx : l[k]? = some x) : l.take (k + 1) = l.take k ++ [x] := by
  obtain ⟨h1, h2⟩ := List.getElem?_eq_some_iff.1 hx
  rw [List.take_succ_eq_append_getElem h1, h2]
theorem dropR_cons {α : Type} {l : List α} {k : Nat} {x : α} (hx : l[k]? = some x) : l.drop k = x :: l.drop (k + 1) := by
  obtain ⟨h1, h2⟩ := List.getElem?_eq_some_iff.1 hx
  rw [List.drop_eq_getElem_cons h1, h2]
/-- each sum so far, once -/
def seenM (rs : List RefV) : List (List Nat × Value) := rs.map fun r => (r.sum, .int .i64 1)
theorem seenM_look (rs : List RefV) (s : List Nat) : lookA (seenM rs) s = if s ∈ rs.map RefV.sum then some (.int .i64 1) else none := by
  induction rs with
  | nil => rfl
  | cons r t ih =>
    show (if s = r.sum then some (Value.int .i64 1) else lookA (seenM t) s) = _
    rw [ih]
    by_cases h : s = r.sum
    · simp [h]
    · by_cases h2 : s ∈ t.map RefV.sum
      · rw [if_neg h, if_pos h2, if_pos (by rw [List.map_cons]; exact List.mem_cons_of_mem _ h2)]
      · rw [if_neg h, if_neg h2, if_neg (by rw [List.map_cons]; intro hm; rcases List.mem_cons.1 hm with hm | hm; exact h hm; exact h2 hm)]
theorem seenM_upd {rs : List RefV} {r : RefV} (h : r.sum ∉ rs.map RefV.sum) : updA (seenM rs) r.sum (.int .i64 1) = seenM (rs ++ [r]) := by
  induction rs with
  | nil => rfl
  | cons q t ih =>
    have h1 : r.sum ≠ q.sum := fun e => h (by rw [e]; simp)
    have h2 : r.sum ∉ t.map RefV.sum := fun e => h (by rw [List.map_cons]; exact List.mem_cons_of_mem _ e)
    show (if r.sum = q.sum then _ else (q.sum, Value.int .i64 1) :: updA (seenM t) r.sum (.int .i64 1)) = _
    rw [if_neg h1, ih h2]; rfl
theorem sumCells_len (s : List Nat) : (sumCells s).length = s.length := by simp [sumCells]
theorem sumCells_one (s : List Nat) : ∀ u ∈ sumCells s, one u = true := by
  intro u hu
  obtain ⟨n, _, rfl⟩ := List.mem_map.1 hu
  rfl
theorem cells_one (r : RefV) : ∀ u ∈ r.cells, one u = true := by
  intro u hu
  rcases List.mem_append.1 hu with h | h
  · exact sumCells_one _ u h
  · rw [List.mem_singleton] at h; rw [h]; rfl
theorem toNat_pos {x : Int} (h : decide (x > 0) = true) : 0 < x := by simpa using h

theorem man_ok (nm vr : ByteArray) (a : Option Addr) (l c : Nat) (rs : List RefV) (h : Heap) (hr : RefsAt h a l c rs) (hn : nm.size < 9223372036854775808) (hv : vr.size < 9223372036854775808) :
    HEnt Try.prog 54 #[.agg #[.string nm, .string vr, .slice a l c]] h fun v h' => v = .int .i64 (manC nm vr rs) ∧ Ext h h' := by
  refine F54_ent _ _ _ _ _ _ _ ?_
  have hlen := hr.len
  unfold F54
  refine (St.start h).new fun b1 h1 s1 x1 _ => ?_
  have bad : (¬ nameP (lst nm) ∨ ¬ nameP (lst vr)) → F54_k1 (at0 b1) true h1 fun v h' => v = .int .i64 (manC nm vr rs) ∧ Ext h h' := fun hb => by
    unfold F54_k1
    refine br_of (fun _ => ⟨?_, s1.ext⟩) (fun e => by cases e)
    unfold manC; rw [if_pos hb]; rfl
  refine ⟨nm, s1.cell 0 rfl rfl, HEnt.use (name_ok nm hn h1) ?_⟩
  rintro _ h1 ⟨rfl, rfl⟩
  refine ⟨_, rfl, br_of (fun e => bad (.inl (by simpa using e))) (fun e1 => ?_)⟩
  have n1 : nameP (lst nm) := by simpa using e1
  refine ⟨vr, s1.cell 0 rfl rfl, HEnt.use (name_ok vr hv _) ?_⟩
  rintro _ h1 ⟨rfl, rfl⟩
  refine ⟨_, rfl, ?_⟩
  by_cases n2 : nameP (lst vr)
  case neg => rw [decide_eq_false n2]; exact bad (.inr n2)
  rw [decide_eq_true n2]
  have hman : manC nm vr rs = if rs.length = 0 then 9 else if rs.length > 8 then 3 else refsC [] rs := by
    unfold manC; rw [if_neg (fun e => e.elim (fun e => e n1) fun e => e n2)]
  unfold F54_k1
  refine br_of (fun e => by cases e) (fun _ => ⟨a, l, c, s1.cell 0 rfl rfl, br_of (fun e => ⟨?_, s1.ext⟩) (fun e => ?_)⟩)
  · have : (l : Int) = 0 := by simpa using e
    rw [hman, if_pos (by omega)]; rfl
  have hl0 : l ≠ 0 := by
    have : ¬ (l : Int) = 0 := by simpa using e
    omega
  refine ⟨a, l, c, s1.cell 0 rfl rfl, br_of (fun e => ⟨?_, s1.ext⟩) (fun e => ?_)⟩
  · have : (l : Int) > 8 := by simpa using e
    rw [hman, if_neg (by omega), if_pos (by omega)]; rfl
  have hl8 : l ≤ 8 := by
    have : ¬ (l : Int) > 8 := by simpa using e
    omega
  rw [hman, if_neg (by omega), if_neg (by omega)]
  unfold F54_k2
  refine newK_intro fun h2 nm2 x2 _ => ?_
  have hm0 : MapAt sumV sumOk h2 h1.size [] := MapAt.new nm2
  generalize hmb : h1.size = mb at *
  have hmb0 : h.size ≤ mb := by rw [← hmb]; exact s1.ext.size
  have s2 := s1.grow x2
  have b1m : b1 < mb := by rw [← hmb]; exact s1.lt (i := 0) rfl
  refine ⟨a, l, c, s2.cell 0 rfl rfl, ?_⟩
  refine ⟨fun x h' => ∃ k : Nat, x = k ∧ k ≤ l ∧ Ext h h' ∧ MapAt sumV sumOk h' mb (seenM (rs.take k)) ∧ refsC [] rs = refsC ((rs.take k).map RefV.sum) (rs.drop k), fun x _ => (l - x).toNat,
    ⟨0, rfl, by omega, s2.ext, by simpa [seenM] using hm0, by simp⟩, ?_⟩
  rintro h3 _ ⟨k, rfl, hk, x3, hm3, he⟩
  unfold F54_b3
  refine br_of (fun ht => ?_) (fun hf => ?_)
  · have hk' : k < l := by
      have : (k : Int) < (l : Int) := by simpa using ht
      omega
    obtain ⟨q, r, hri, ea, hrok, hc33, hc32, hsz⟩ := (hr.grow x3).get hk'
    have hd := dropR_cons hri
    rw [hd] at he
    unfold F54_k4
    refine ⟨q, ea, by omega, by omega, r.cells.toArray, by simp [cells_len r hrok], by rw [Int.toNat_natCast]; exact hc33, ?_⟩
    refine (St.start h3).new fun b5 h4 s4 x4 hb5 => ?_
    refine s4.storeAll 0 rfl (by simp [cells_len r hrok]) zeroC86 (by simpa using cells_one r) fun h5 s5 o5 => ?_
    have x35 : Ext h3 h5 := s5.ext
    have hm5 := hm3.grow x35
    have c32 : r.cells[32]? = some (.int .i64 r.size) := by simp [RefV.cells, sumCells, hrok.1]
    have b5m : b5 ≠ mb := by have := hm3.lt; omega
    have bad2 : (r.size < 0 ∨ r.size > 2147483647) → F54_k5 (fun x h' => ∃ k : Nat, x = k ∧ k ≤ l ∧ Ext h h' ∧ MapAt sumV sumOk h' mb (seenM (rs.take k)) ∧ refsC [] rs = refsC ((rs.take k).map RefV.sum) (rs.drop k)) (fun x _ => (l - x).toNat) (((l : Int) - (k : Int)).toNat) (some mb) (at0 b5) a l c (l : Int) (k : Int) true h5 fun v h' => v = .int .i64 (refsC [] rs) ∧ Ext h h' := fun hb => by
      unfold F54_k5
      refine br_of (fun _ => ⟨?_, x3.trans x35⟩) (fun e => by cases e)
      rw [he]; unfold refsC; rw [if_pos hb]; rfl
    refine ⟨r.size, s5.cell 0 rfl (by simpa using c32), br_of (fun e => bad2 (.inl (of_decide_eq_true e))) (fun e1 => ⟨r.size, s5.cell 0 rfl (by simpa using c32), ?_⟩)⟩
    have g1 := of_decide_eq_false e1
    by_cases g2 : r.size > 2147483647
    case pos => rw [decide_eq_true g2]; exact bad2 (.inr g2)
    rw [decide_eq_false g2]
    unfold F54_k5
    refine br_of (fun e => by cases e) (fun _ => ?_)
    unfold F54_k6
    have csum : CellsAt h5 ((at0 b5).add 0) (sumCells r.sum) := s5.cells 0 rfl fun j v hv => by
      have hl := (List.getElem?_eq_some_iff.1 hv).1
      have : r.cells[j]? = some v := by rw [RefV.cells, List.getElem?_append_left hl]; exact hv
      simpa using this
    refine ⟨(sumCells r.sum).toArray, by simp [sumCells_len, hrok.1], csum, ?_⟩
    refine semK_lookup keyed84 Try.underlying95 zero3 hm5 hrok ?_
    rw [seenM_look]
    by_cases hin : r.sum ∈ (rs.take k).map RefV.sum
    · rw [if_pos hin]
      refine ⟨1, rfl, br_of (fun _ => ⟨?_, x3.trans x35⟩) (fun e => by cases e)⟩
      rw [he]; unfold refsC; rw [if_neg (fun e => e.elim g1 g2), if_pos hin]; rfl
    · rw [if_neg hin]
      refine ⟨0, rfl, br_of (fun e => by cases e) (fun _ => ?_)⟩
      have hnext : refsC [] rs = refsC ((rs.take (k + 1)).map RefV.sum) (rs.drop (k + 1)) := by
        rw [he, refsC_step _ _ _ (fun e => e.elim g1 g2) hin, takeR_succ hri, List.map_append]; rfl
      have fin : ∀ h9, MapAt sumV sumOk h9 mb (updA (seenM (rs.take k)) r.sum (.int .i64 1)) → Only mb h5 h9 → F54_k8 (fun x h' => ∃ k : Nat, x = k ∧ k ≤ l ∧ Ext h h' ∧ MapAt sumV sumOk h' mb (seenM (rs.take k)) ∧ refsC [] rs = refsC ((rs.take k).map RefV.sum) (rs.drop k)) (fun x _ => (l - x).toNat) (((l : Int) - (k : Int)).toNat) (some mb) a l c (l : Int) (k : Int) h9 fun v h' => v = .int .i64 (refsC [] rs) ∧ Ext h h' := by
        intro h9 m9 o9
        unfold F54_k8
        rw [wrap_succ k _ hk' (by omega)]
        refine ⟨⟨k + 1, rfl, by omega, ?_, ?_, hnext⟩, less_succ _ _ hk'⟩
        · have x := x3.trans x35
          exact ⟨Nat.le_trans x.size (Nat.le_of_eq o9.size.symm), fun j hj => (o9.block j (by omega)).trans (x.block j hj)⟩
        · rw [seenM_upd hin, ← takeR_succ hri] at m9; exact m9
      unfold F54_k7
      refine ⟨Keep (· = mb), fun h => Keep.refl _ h, fun _ _ _ x y => x.trans y, (sumCells r.sum).toArray, by simp [sumCells_len, hrok.1], fun w hw => ?_, ?_, ?_⟩
      · have hb : w.heap[b5]? = h5[b5]? := hw.block b5 (s5.lt (i := 0) rfl) b5m
        have hcw : CellsAt w.heap ((at0 b5).add 0) (sumCells r.sum) := fun j v hv => by
          have := csum j v hv
          rw [add_at0, add_mk] at this ⊢
          rw [← this]; simp only [cell, hb]
        have := run_cells (P := Try.prog) hcw
        rw [sumCells_len, hrok.1] at this
        unfold loadVar
        simp only [Sem.run_bind, run_isAgg_true Try.underlying84 rfl, Result.andThen_ok, if_true, run_size Try.underlying84, cells84, this, Sem.run_pure]
      · refine semK_lookup keyed84 Try.underlying95 zero3 hm5 hrok ?_
        rw [seenM_look, if_neg hin]
        refine ⟨0, rfl, Keep.refl _ _, semK_entry keyed84 Try.underlying95 zero3 hm5 hrok fun n h6 o6 m6 hst => ?_⟩
        rw [seenM_look, if_neg hin]
        refine ⟨0, n, rfl, o6.keep rfl, hst _ _ fun h7 m7 o7 => ⟨?_, fin h7 m7 o7⟩⟩
        exact ⟨by rw [o6.size, o7.size]; exact Nat.le_refl _, fun j hj hne => (o7.block j hne).trans (o6.block j hne).symm⟩
      · refine semK_entry keyed84 Try.underlying95 zero3 hm5 hrok fun n h6 o6 m6 hst => ?_
        rw [seenM_look, if_neg hin] at m6 ⊢
        refine ⟨0, n, rfl, o6.keep rfl, semK_lookup keyed84 Try.underlying95 zero3 m6 hrok ?_⟩
        rw [look_upd, if_pos rfl]
        refine ⟨0, rfl, Keep.refl _ _, hst _ _ fun h7 m7 o7 => ⟨?_, fin h7 m7 o7⟩⟩
        exact ⟨by rw [o6.size, o7.size]; exact Nat.le_refl _, fun j hj hne => (o7.block j hne).trans (o6.block j hne).symm⟩
  · have hk' : k = l := by
      have : ¬ (k : Int) < (l : Int) := by simpa using hf
      omega
    unfold F54_k9
    rw [List.drop_of_length_le (by omega)] at he
    exact ⟨by rw [he]; rfl, x3⟩

theorem refMan_ok (nm vr : ByteArray) (a : Option Addr) (l c : Nat) (rs : List RefV) (h : Heap) (hr : RefsAt h a l c rs) (hn : nm.size < 9223372036854775808) (hv : vr.size < 9223372036854775808) :
    HEnt Try.prog 57 #[.agg #[.string nm, .string vr, .slice a l c]] h fun v h' => v = .int .i64 (manC nm vr rs) ∧ Ext h h' := by
  refine F57_ent _ _ _ _ _ _ _ ?_
  have hlen := hr.len
  unfold F57
  refine (St.start h).new fun b1 h1 s1 x1 _ => ?_
  have bad : (¬ nameP (lst nm) ∨ ¬ nameP (lst vr)) → F57_k1 (at0 b1) true h1 fun v h' => v = .int .i64 (manC nm vr rs) ∧ Ext h h' := fun hb => by
    unfold F57_k1
    refine br_of (fun _ => ⟨?_, s1.ext⟩) (fun e => by cases e)
    unfold manC; rw [if_pos hb]; rfl
  refine ⟨nm, s1.cell 0 rfl rfl, HEnt.use (refName_ok nm hn h1) ?_⟩
  rintro _ h1 ⟨rfl, rfl⟩
  refine ⟨_, rfl, br_of (fun e => bad (.inl (by simpa using e))) (fun e1 => ?_)⟩
  have n1 : nameP (lst nm) := by simpa using e1
  refine ⟨vr, s1.cell 0 rfl rfl, HEnt.use (refName_ok vr hv _) ?_⟩
  rintro _ h1 ⟨rfl, rfl⟩
  refine ⟨_, rfl, ?_⟩
  by_cases n2 : nameP (lst vr)
  case neg => rw [decide_eq_false n2]; exact bad (.inr n2)
  rw [decide_eq_true n2]
  have hman : manC nm vr rs = if rs.length = 0 then 9 else if rs.length > 8 then 3 else refsC [] rs := by
    unfold manC; rw [if_neg (fun e => e.elim (fun e => e n1) fun e => e n2)]
  have c2 := s1.cell 0 rfl (k := 2) (v := .slice a l c) rfl
  have hr1 := hr.grow s1.ext
  unfold F57_k1
  refine br_of (fun e => by cases e) (fun _ => ?_)
  unfold F57_k2
  refine ⟨a, l, c, c2, br_of (fun e => ⟨?_, s1.ext⟩) (fun e => ?_)⟩
  · have : (l : Int) = 0 := by simpa using e
    rw [hman, if_pos (by omega)]; rfl
  have hl0 : l ≠ 0 := by
    have : ¬ (l : Int) = 0 := by simpa using e
    omega
  unfold F57_k3
  refine ⟨a, l, c, c2, br_of (fun e => ⟨?_, s1.ext⟩) (fun e => ?_)⟩
  · have : (l : Int) > 8 := by simpa using e
    rw [hman, if_neg (by omega), if_pos (by omega)]; rfl
  have hl8 : l ≤ 8 := by
    have : ¬ (l : Int) > 8 := by simpa using e
    omega
  rw [hman, if_neg (by omega), if_neg (by omega)]
  unfold F57_k4
  rintro _ rfl
  refine ⟨fun x h' => ∃ k : Nat, x = k ∧ k ≤ l ∧ h' = h1 ∧ refsC [] rs = refsC ((rs.take k).map RefV.sum) (rs.drop k), fun x _ => (l - x).toNat, ⟨0, rfl, by omega, rfl, by simp⟩, ?_⟩
  rintro h2 _ ⟨k, rfl, hk, rfl, he⟩
  unfold F57_b5
  refine ⟨a, l, c, c2, br_of (fun ht => ?_) (fun hf => ?_)⟩
  · have hk' : k < l := by
      have : (k : Int) < (l : Int) := by simpa using ht
      omega
    obtain ⟨q, r, hri, ea, hrok, hc33, hc32, hsz⟩ := hr1.get hk'
    have hd := dropR_cons hri
    rw [hd] at he
    have bad2 : (r.size < 0 ∨ r.size > 2147483647) → F57_k7 (fun x h' => ∃ k : Nat, x = k ∧ k ≤ l ∧ h' = h2 ∧ refsC [] rs = refsC ((rs.take k).map RefV.sum) (rs.drop k)) (fun x _ => (l - x).toNat) (((l : Int) - (k : Int)).toNat) (at0 b1) (k : Int) true h2 fun v h' => v = .int .i64 (refsC [] rs) ∧ Ext h h' := fun hb => by
      unfold F57_k7
      refine br_of (fun _ => ⟨?_, s1.ext⟩) (fun e => by cases e)
      rw [he]; unfold refsC; rw [if_pos hb]; rfl
    unfold F57_k6
    refine ⟨a, l, c, c2, q, ea, by omega, by omega, r.size, by rw [Int.toNat_natCast]; exact hsz, br_of (fun e => bad2 (.inl (of_decide_eq_true e))) (fun e1 => ⟨a, l, c, c2, q, ea, by omega, by omega, r.size, by rw [Int.toNat_natCast]; exact hsz, ?_⟩)⟩
    have g1 := of_decide_eq_false e1
    by_cases g2 : r.size > 2147483647
    case pos => rw [decide_eq_true g2]; exact bad2 (.inr g2)
    rw [decide_eq_false g2]
    unfold F57_k7
    refine br_of (fun e => by cases e) (fun _ => ?_)
    unfold F57_k8
    rintro _ rfl
    refine ⟨fun x h' => ∃ j : Nat, x = j ∧ j ≤ k ∧ h' = h2 ∧ r.sum ∉ (rs.take j).map RefV.sum, fun x _ => (k - x).toNat, ⟨0, rfl, by omega, rfl, by simp⟩, ?_⟩
    rintro h3 _ ⟨j, rfl, hj, rfl, hno⟩
    unfold F57_b9
    refine br_of (fun htj => ?_) (fun hfj => ?_)
    · have hj' : j < k := by
        have : (j : Int) < (k : Int) := by simpa using htj
        omega
      obtain ⟨q', r', hri', ea', hrok', hc33', hc32', hsz'⟩ := hr1.get (show j < l by omega)
      unfold F57_k10
      refine ⟨a, l, c, c2, q', ea', by omega, by omega, (sumCells r'.sum).toArray, by simp [sumCells_len, hrok'.1], by rw [Int.toNat_natCast]; exact hc32', a, l, c, c2, q, ea, by omega, by omega, (sumCells r.sum).toArray, by simp [sumCells_len, hrok.1], by rw [Int.toNat_natCast]; exact hc32,
        decide (r'.sum = r.sum), fun w => keyed84.eq _ _ hrok' hrok w, eqg84, ?_⟩
      intro h4 hcl; obtain rfl := hcl.eq
      refine br_of (fun hb => ⟨?_, s1.ext⟩) (fun hb => ?_)
      · have hb' := of_decide_eq_true hb
        have hin : r.sum ∈ (rs.take k).map RefV.sum := by
          rw [← hb']
          exact List.mem_map.2 ⟨r', List.mem_of_getElem? (i := j) (by rw [List.getElem?_take, if_pos hj']; exact hri'), rfl⟩
        rw [he]; unfold refsC; rw [if_neg (fun e => e.elim g1 g2), if_pos hin]; rfl
      · have hb' := of_decide_eq_false hb
        unfold F57_k11
        rintro _ rfl
        rw [wrap_succ j _ hj' (by omega)]
        refine ⟨⟨j + 1, rfl, by omega, rfl, ?_⟩, less_succ _ _ hj'⟩
        rw [takeR_succ hri', List.map_append]
        intro hm
        rcases List.mem_append.1 hm with hm | hm
        · exact hno hm
        · simp at hm; exact hb' hm.symm
    · have hj' : j = k := by
        have : ¬ (j : Int) < (k : Int) := by simpa using hfj
        omega
      subst hj'
      unfold F57_k12
      rintro _ rfl
      rw [wrap_succ j _ hk' (by omega)]
      refine ⟨⟨j + 1, rfl, by omega, rfl, ?_⟩, less_succ _ _ hk'⟩
      rw [he, refsC_step _ _ _ (fun e => e.elim g1 g2) hno, takeR_succ hri, List.map_append]; rfl
  · have hk' : k = l := by
      have : ¬ (k : Int) < (l : Int) := by simpa using hf
      omega
    unfold F57_k13
    rw [List.drop_of_length_le (by omega)] at he
    exact ⟨by rw [he]; rfl, s1.ext⟩
end Go.Proofs.Ytnhnioodlciajaa

namespace Go.Proofs.Ytnhnioodlciajaa
open Go.Vc Go.Sha Go.Trail Go.Packs
set_option linter.unusedVariables false

theorem zeroC68 : (zeroC Try.prog 68).size = 4 := by kernel_rfl
theorem seq_names (s t : ByteArray) : seq s t = decide (lst s = lst t) := seq_lst s t

theorem closure_ok (p : PackV) (d : Hdr) (q : Addr) (nm : ByteArray) (h : Heap) (hq : Vc.cell h ((q.add 1).add 0) = some (.string nm)) :
    HEnt Try.prog 56 #[.agg #[.int .i64 p.owner, .string p.name, .string p.ver, .slice d.a d.l d.c], .pointer (some q)] h fun v h' => v = .bool (decide (lst p.name = lst nm)) ∧ Ext h h' := by
  refine F56_ent _ _ _ _ _ _ _ _ _ ?_
  unfold F56
  refine (St.start h).new fun b h1 s1 x1 _ => ⟨_, s1.cell2 0 rfl rfl, _, x1.some hq, ?_, x1⟩
  rw [seq_names]
theorem indexFunc_ok (a : Option Addr) (l c : Nat) (ps : List PackV) (ds : List Hdr) (q : Addr) (nm : ByteArray) (h : Heap) (hp : PacksAt h a l c ps ds) (hl : l < 9223372036854775808) (hq : Vc.cell h ((q.add 1).add 0) = some (.string nm)) :
    HEnt Try.prog 62 #[.slice a l c, .func (.func 56) #[] #[.pointer (some q)]] h fun v h' => (∃ n : Int, v = .int .i64 n ∧ (0 ≤ n ↔ lst nm ∈ ps.map fun p => lst p.name)) ∧ Ext h h' := by
  refine F62_ent _ _ _ _ _ _ ?_
  have hlen := hp.length
  unfold F62
  refine ⟨fun y h' => ∃ k : Nat, y = k ∧ k ≤ l ∧ lst nm ∉ ((ps.take k).map fun p => lst p.name) ∧ Ext h h', fun y _ => (l - y).toNat, ⟨0, rfl, by omega, by simp, Ext.refl h⟩, ?_⟩
  rintro h1 _ ⟨k, rfl, hk, hno, x1⟩
  unfold F62_b1
  refine br_of (fun ht => ?_) (fun hf => ?_)
  · have hk' : k < l := by
      have : (k : Int) < (l : Int) := by simpa using ht
      omega
    obtain ⟨b, o, p, d, hpi, hdi, rfl, pok, _, hc⟩ := (hp.grow x1).at_ hk'
    unfold F62_k2
    refine ⟨_, rfl, by omega, by omega, p.owner, p.name, p.ver, d.a, d.l, d.c, by rw [Int.toNat_natCast, add_mk, add_mk]; exact hc 0 _ rfl, by rw [Int.toNat_natCast, add_mk, add_mk]; exact hc 1 _ rfl, by rw [Int.toNat_natCast, add_mk, add_mk]; exact hc 2 _ rfl, by rw [Int.toNat_natCast, add_mk, add_mk]; exact hc 3 _ rfl, rfl, ?_⟩
    refine HEnt.use (closure_ok p d q nm h1 (x1.some hq)) ?_
    rintro _ h2 ⟨rfl, x2⟩
    refine ⟨_, rfl, br_of (fun he => ?_) (fun he => ?_)⟩
    · have he' := of_decide_eq_true he
      exact ⟨⟨k, rfl, fun _ => by rw [← he']; exact List.mem_map.2 ⟨p, List.mem_of_getElem? hpi, rfl⟩, fun _ => by omega⟩, x1.trans x2⟩
    · have he' := of_decide_eq_false he
      unfold F62_k3
      rw [wrap_succ k _ hk' hl]
      refine ⟨⟨k + 1, rfl, by omega, ?_, x1.trans x2⟩, less_succ _ _ hk'⟩
      rw [takeR_succ hpi, List.map_append]
      intro hm
      rcases List.mem_append.1 hm with hm | hm
      · exact hno hm
      · simp at hm; exact he' hm.symm
  · have hk' : k = l := by
      have : ¬ (k : Int) < (l : Int) := by simpa using hf
      omega
    rw [List.take_of_length_le (by omega)] at hno
    unfold F62_k4
    exact ⟨⟨-1, rfl, fun h => by omega, fun h => absurd h hno⟩, x1⟩
theorem containsFunc_ok (a : Option Addr) (l c : Nat) (ps : List PackV) (ds : List Hdr) (q : Addr) (nm : ByteArray) (h : Heap) (hp : PacksAt h a l c ps ds) (hl : l < 9223372036854775808) (hq : Vc.cell h ((q.add 1).add 0) = some (.string nm)) :
    HEnt Try.prog 55 #[.slice a l c, .func (.func 56) #[] #[.pointer (some q)]] h fun v h' => v = .bool (decide (lst nm ∈ ps.map fun p => lst p.name)) ∧ Ext h h' := by
  refine F55_ent _ _ _ _ _ _ ?_
  unfold F55
  refine HEnt.use (indexFunc_ok a l c ps ds q nm h hp hl hq) ?_
  rintro _ h1 ⟨⟨n, rfl, hi⟩, x1⟩
  refine ⟨n, rfl, ?_, x1⟩
  congr 1
  exact decide_eq_decide.2 hi

theorem packsC_step (seen : List (List Nat)) (n : Nat) (p : PackV) (t : List PackV) (h1 : ¬ (p.owner < 1 ∨ p.owner > 8)) (h2 : manC p.name p.ver p.refs = 0) (h3 : lst p.name ∉ seen) (h4 : ¬ n + p.refs.length > 16) :
    packsC seen n (p :: t) = packsC (seen ++ [lst p.name]) (n + p.refs.length) t := by
  conv => lhs; unfold packsC
  rw [if_neg h1, if_neg (fun e => e h2), if_neg h3, if_neg h4]

theorem packs_ok (a : Option Addr) (l c : Nat) (ps : List PackV) (ds : List Hdr) (h : Heap) (hp : PacksAt h a l c ps ds) (hl : l < 9223372036854775808) :
    HEnt Try.prog 43 #[.slice a l c] h fun v h' => v = .int .i64 (packsC [] 0 ps) ∧ Ext h h' := by
  refine F43_ent _ _ _ _ _ ?_
  have hlen := hp.length
  have hcap := hp.rows.cap
  unfold F43
  rintro _ rfl
  obtain ⟨I, hI⟩ : ∃ I : Int → Int → Heap → Prop, I = fun (x y : Int) h' => ∃ n k : Nat, x = n ∧ y = k ∧ k ≤ l ∧ n ≤ 16 ∧ Ext h h' ∧ packsC [] 0 ps = packsC ((ps.take k).map fun p => lst p.name) n (ps.drop k) := ⟨_, rfl⟩
  refine ⟨I, fun _ y _ => (l - y).toNat, by rw [hI]; exact ⟨0, 0, rfl, rfl, by omega, by omega, Ext.refl h, by simp⟩, ?_⟩
  intro h1 x3 x9 hinv
  rw [hI] at hinv
  obtain ⟨n, k, rfl, rfl, hk, hn, x1, he⟩ := hinv
  unfold F43_b1
  refine br_of (fun ht => ?_) (fun hf => ?_)
  · have hk' : k < l := by
      have : (k : Int) < (l : Int) := by simpa using ht
      omega
    obtain ⟨b, o, p, d, hpi, hdi, rfl, pok, hrefs, hc⟩ := (hp.grow x1).at_ hk'
    rw [dropR_cons hpi] at he
    unfold F43_k2
    refine ⟨_, rfl, by omega, by omega, p.owner, p.name, p.ver, d.a, d.l, d.c, by rw [Int.toNat_natCast, add_mk, add_mk]; exact hc 0 _ rfl, by rw [Int.toNat_natCast, add_mk, add_mk]; exact hc 1 _ rfl, by rw [Int.toNat_natCast, add_mk, add_mk]; exact hc 2 _ rfl, by rw [Int.toNat_natCast, add_mk, add_mk]; exact hc 3 _ rfl, rfl, ?_⟩
    refine (St.start h1).new fun b5 h2 s2 x2 hb5 => ?_
    refine s2.storeAll 0 rfl rfl zeroC68 (by intro u hu; simp at hu; rcases hu with rfl | rfl | rfl | rfl <;> rfl) fun h3 s3 o3 => ?_
    have x13 := s3.ext
    have bad : (p.owner < 1 ∨ p.owner > 8) → F43_k3 I (fun _ y _ => (l - y).toNat) (((l : Int) - (k : Int)).toNat) (some ⟨b, o, none⟩) l c (n : Int) (k : Int) (at0 b5) (some ⟨b, o, none⟩) l c (l : Int) (k : Int) true h3 fun v h' => v = .int .i64 (packsC [] 0 ps) ∧ Ext h h' := fun hb => by
      unfold F43_k3
      refine br_of (fun _ => ⟨?_, x1.trans x13⟩) (fun e => by cases e)
      rw [he]; unfold packsC; rw [if_pos hb]; rfl
    refine ⟨p.owner, s3.cell 0 rfl rfl, br_of (fun e => bad (.inl (of_decide_eq_true e))) (fun e1 => ⟨p.owner, s3.cell 0 rfl rfl, ?_⟩)⟩
    have g1 := of_decide_eq_false e1
    by_cases g2 : p.owner > 8
    case pos => rw [decide_eq_true g2]; exact bad (.inr g2)
    rw [decide_eq_false g2]
    have hown : ¬ (p.owner < 1 ∨ p.owner > 8) := fun e => e.elim g1 g2
    unfold F43_k3
    refine br_of (fun e => by cases e) (fun _ => ?_)
    unfold F43_k4
    refine ⟨p.name, p.ver, d.a, d.l, d.c, s3.cell2 0 rfl rfl, s3.cell2 0 rfl rfl, s3.cell2 0 rfl rfl, rfl, ?_⟩
    refine HEnt.use (man_ok p.name p.ver d.a d.l d.c p.refs h3 (hrefs.grow x13) pok.1 pok.2) ?_
    rintro _ h4 ⟨rfl, x4⟩
    have s4 := s3.grow x4
    refine ⟨_, rfl, br_of (fun e => ⟨?_, (x1.trans x13).trans x4⟩) (fun e => ?_)⟩
    · have hne : manC p.name p.ver p.refs ≠ 0 := by
        intro e0; rw [e0] at e; simp at e
      rw [he]
      unfold packsC
      rw [if_neg hown, if_pos hne]
    have hman : manC p.name p.ver p.refs = 0 := by
      have : ((manC p.name p.ver p.refs : Nat) : Int) = 0 := by simpa using e
      omega
    unfold F43_k5
    refine ⟨by omega, by omega, by omega, ?_⟩
    rw [cutAt0, Int.toNat_natCast, Nat.sub_zero, Nat.sub_zero]
    refine HEnt.use (containsFunc_ok _ k c (ps.take k) (ds.take k) (at0 b5) p.name h4 ((hp.grow ((x1.trans x13).trans x4)).take k hk) (by omega) (s4.cell2 0 rfl rfl)) ?_
    rintro _ h5 ⟨rfl, x5⟩
    have x15 := ((x1.trans x13).trans x4).trans x5
    have s5 := s4.grow x5
    refine ⟨_, rfl, br_of (fun e => ⟨?_, x15⟩) (fun e => ?_)⟩
    · rw [he]
      unfold packsC
      rw [if_neg hown, if_neg (fun e => e hman), if_pos (of_decide_eq_true e)]; rfl
    have hname := of_decide_eq_false e
    have hrl := manC_len hman
    have hdl : p.refs.length = d.l := hrefs.len
    unfold F43_k6
    refine ⟨d.a, d.l, d.c, s5.cell2 0 rfl rfl, ?_⟩
    rintro _ rfl
    have ew : IntKind.i64.wrap ((n : Int) + (d.l : Int)) = ((n + d.l : Nat) : Int) := by rw [i64_lt _ (by omega) (by omega)]; omega
    rw [ew]
    refine br_of (fun e => ⟨?_, x15⟩) (fun e => ?_)
    · have : ((n + d.l : Nat) : Int) > 16 := by simpa using e
      rw [he]
      unfold packsC
      rw [if_neg hown, if_neg (fun e => e hman), if_neg hname, if_pos (by omega)]; rfl
    · have g4 : ¬ ((n + d.l : Nat) : Int) > 16 := by simpa using e
      unfold F43_k7
      rw [wrap_succ k _ hk' hl, hI]
      refine ⟨⟨n + d.l, k + 1, rfl, rfl, by omega, by omega, x15, ?_⟩, less_succ _ _ hk'⟩
      rw [he, packsC_step _ _ _ _ hown hman hname (by omega), takeR_succ hpi, List.map_append, hdl]; rfl
  · have hk' : k = l := by
      have : ¬ (k : Int) < (l : Int) := by simpa using hf
      omega
    unfold F43_k8
    rw [List.drop_of_length_le (by omega)] at he
    exact ⟨by rw [he]; rfl, x1⟩
end Go.Proofs.Ytnhnioodlciajaa

namespace Go.Proofs.Ytnhnioodlciajaa
open Go.Vc Go.Sha Go.Trail Go.Packs
set_option linter.unusedVariables false

theorem refPacks_ok (a : Option Addr) (l c : Nat) (ps : List PackV) (ds : List Hdr) (h : Heap) (hp : PacksAt h a l c ps ds) (hl : l < 9223372036854775808) :
    HEnt Try.prog 45 #[.slice a l c] h fun v h' => v = .int .i64 (packsC [] 0 ps) ∧ Ext h h' := by
  refine F45_ent _ _ _ _ _ ?_
  have hlen := hp.length
  have hcap := hp.rows.cap
  unfold F45
  obtain ⟨I, hI⟩ : ∃ I : Int → Int → Heap → Prop, I = fun (x y : Int) h' => ∃ n k : Nat, x = n ∧ y = k ∧ k ≤ l ∧ n ≤ 16 ∧ Ext h h' ∧ packsC [] 0 ps = packsC ((ps.take k).map fun p => lst p.name) n (ps.drop k) := ⟨_, rfl⟩
  refine ⟨I, fun _ y _ => (l - y).toNat, by rw [hI]; exact ⟨0, 0, rfl, rfl, by omega, by omega, Ext.refl h, by simp⟩, ?_⟩
  intro h1 x3 x4 hinv
  rw [hI] at hinv
  obtain ⟨n, k, rfl, rfl, hk, hn, x1, he⟩ := hinv
  unfold F45_b1
  refine br_of (fun ht => ?_) (fun hf => ?_)
  · have hk' : k < l := by
      have : (k : Int) < (l : Int) := by simpa using ht
      omega
    obtain ⟨b, o, p, d, hpi, hdi, rfl, pok, hrefs, hc⟩ := (hp.grow x1).at_ hk'
    rw [dropR_cons hpi] at he
    have c0 : Vc.cell h1 (((⟨b, o, none⟩ : Addr).add ((k : Int).toNat * 4)).add 0) = some (.int .i64 p.owner) := by rw [Int.toNat_natCast, add_mk, add_mk]; exact hc 0 _ rfl
    have c1 : Vc.cell h1 ((((⟨b, o, none⟩ : Addr).add ((k : Int).toNat * 4)).add 1).add 0) = some (.string p.name) := by rw [Int.toNat_natCast, add_mk, add_mk, add_mk]; exact hc 1 _ rfl
    have c2 : Vc.cell h1 ((((⟨b, o, none⟩ : Addr).add ((k : Int).toNat * 4)).add 1).add 1) = some (.string p.ver) := by rw [Int.toNat_natCast, add_mk, add_mk, add_mk]; exact hc 2 _ rfl
    have c3 : Vc.cell h1 ((((⟨b, o, none⟩ : Addr).add ((k : Int).toNat * 4)).add 1).add 2) = some (.slice d.a d.l d.c) := by rw [Int.toNat_natCast, add_mk, add_mk, add_mk]; exact hc 3 _ rfl
    have bad : (p.owner < 1 ∨ p.owner > 8) → F45_k3 I (fun _ y _ => (l - y).toNat) (((l : Int) - (k : Int)).toNat) (some ⟨b, o, none⟩) l c (n : Int) (k : Int) true h1 fun v h' => v = .int .i64 (packsC [] 0 ps) ∧ Ext h h' := fun hb => by
      unfold F45_k3
      refine br_of (fun _ => ⟨?_, x1⟩) (fun e => by cases e)
      rw [he]; unfold packsC; rw [if_pos hb]; rfl
    unfold F45_k2
    refine ⟨_, rfl, by omega, by omega, p.owner, c0, br_of (fun e => bad (.inl (of_decide_eq_true e))) (fun e1 => ⟨_, rfl, by omega, by omega, p.owner, c0, ?_⟩)⟩
    have g1 := of_decide_eq_false e1
    by_cases g2 : p.owner > 8
    case pos => rw [decide_eq_true g2]; exact bad (.inr g2)
    rw [decide_eq_false g2]
    have hown : ¬ (p.owner < 1 ∨ p.owner > 8) := fun e => e.elim g1 g2
    unfold F45_k3
    refine br_of (fun e => by cases e) (fun _ => ?_)
    unfold F45_k4
    refine ⟨_, rfl, by omega, by omega, p.name, p.ver, d.a, d.l, d.c, c1, c2, c3, rfl, ?_⟩
    refine HEnt.use (refMan_ok p.name p.ver d.a d.l d.c p.refs h1 hrefs pok.1 pok.2) ?_
    rintro _ h4 ⟨rfl, x4⟩
    have x14 := x1.trans x4
    refine ⟨_, rfl, br_of (fun e => ⟨?_, x14⟩) (fun e => ?_)⟩
    · have hne : manC p.name p.ver p.refs ≠ 0 := by
        intro e0; rw [e0] at e; simp at e
      rw [he]
      unfold packsC
      rw [if_neg hown, if_pos hne]
    have hman : manC p.name p.ver p.refs = 0 := by
      have : ((manC p.name p.ver p.refs : Nat) : Int) = 0 := by simpa using e
      omega
    unfold F45_k5
    refine ⟨fun x h' => ∃ j : Nat, x = j ∧ j ≤ k ∧ h' = h4 ∧ lst p.name ∉ ((ps.take j).map fun p => lst p.name), fun x _ => (k - x).toNat, ⟨0, rfl, by omega, rfl, by simp⟩, ?_⟩
    rintro h5 _ ⟨j, rfl, hj, rfl, hno⟩
    unfold F45_b6
    refine br_of (fun htj => ?_) (fun hfj => ?_)
    · have hj' : j < k := by
        have : (j : Int) < (k : Int) := by simpa using htj
        omega
      obtain ⟨b', o', p', d', hpi', hdi', e', pok', hrefs', hc'⟩ := (hp.grow x14).at_ (show j < l by omega)
      cases e'
      unfold F45_k7
      refine ⟨_, rfl, by omega, by omega, p'.name, by rw [Int.toNat_natCast, add_mk, add_mk, add_mk]; exact hc' 1 _ rfl, _, rfl, by omega, by omega, p.name, x4.some c1, ?_⟩
      intro h6 hcl; obtain rfl := hcl.eq
      rw [seq_names]
      refine br_of (fun hb => ⟨?_, x14⟩) (fun hb => ?_)
      · have hb' := of_decide_eq_true hb
        have hin : lst p.name ∈ (ps.take k).map fun p => lst p.name := by
          rw [← hb']
          exact List.mem_map.2 ⟨p', List.mem_of_getElem? (i := j) (by rw [List.getElem?_take, if_pos hj']; exact hpi'), rfl⟩
        rw [he]
        unfold packsC
        rw [if_neg hown, if_neg (fun e => e hman), if_pos hin]; rfl
      · have hb' := of_decide_eq_false hb
        unfold F45_k8
        rw [wrap_succ j _ hj' (by omega)]
        refine ⟨⟨j + 1, rfl, by omega, rfl, ?_⟩, less_succ _ _ hj'⟩
        rw [takeR_succ hpi', List.map_append]
        intro hm
        rcases List.mem_append.1 hm with hm | hm
        · exact hno hm
        · simp at hm; exact hb' hm.symm
    · have hj' : j = k := by
        have : ¬ (j : Int) < (k : Int) := by simpa using hfj
        omega
      subst hj'
      have hrl := manC_len hman
      have hdl : p.refs.length = d.l := hrefs.len
      unfold F45_k9
      refine ⟨_, rfl, by omega, by omega, d.a, d.l, d.c, x4.some c3, ?_⟩
      have ew : IntKind.i64.wrap ((n : Int) + (d.l : Int)) = ((n + d.l : Nat) : Int) := by rw [i64_lt _ (by omega) (by omega)]; omega
      rw [ew]
      refine br_of (fun e => ⟨?_, x14⟩) (fun e => ?_)
      · have : ((n + d.l : Nat) : Int) > 16 := by simpa using e
        rw [he]
        unfold packsC
        rw [if_neg hown, if_neg (fun e => e hman), if_neg hno, if_pos (by omega)]; rfl
      · have g4 : ¬ ((n + d.l : Nat) : Int) > 16 := by simpa using e
        unfold F45_k10
        rw [wrap_succ j _ hk' hl, hI]
        refine ⟨⟨n + d.l, j + 1, rfl, rfl, by omega, by omega, x14, ?_⟩, less_succ _ _ hk'⟩
        rw [he, packsC_step _ _ _ _ hown hman hno (by omega), takeR_succ hpi, List.map_append, hdl]; rfl
  · have hk' : k = l := by
      have : ¬ (k : Int) < (l : Int) := by simpa using hf
      omega
    unfold F45_k11
    rw [List.drop_of_length_le (by omega)] at he
    exact ⟨by rw [he]; rfl, x1⟩

theorem root_ok (n : Int) (h : Heap) : HEnt Try.prog 53 #[.int .i64 n] h fun v h' => v = .bool (decide (rootP n)) ∧ h' = h := by
  refine F53_ent _ _ _ ?_
  unfold F53 rootP
  refine br_of (fun e => ⟨?_, rfl⟩) (fun e => ⟨?_, rfl⟩)
  · have := of_decide_eq_true e
    congr 1; exact decide_eq_decide.2 ⟨fun h => ⟨this, h⟩, fun h => h.2⟩
  · have := of_decide_eq_false e
    congr 1; exact (decide_eq_false fun h => this h.1).symm
theorem refRoot_ok (n : Int) (h : Heap) : HEnt Try.prog 44 #[.int .i64 n] h fun v h' => v = .bool (decide (rootP n)) ∧ h' = h := by
  refine F44_ent _ _ _ ?_
  unfold F44 rootP
  refine br_of (fun e => ⟨?_, rfl⟩) (fun e => ⟨?_, rfl⟩)
  · have := of_decide_eq_true e
    congr 1; exact decide_eq_decide.2 ⟨fun h => ⟨this, h⟩, fun h => h.2⟩
  · have := of_decide_eq_false e
    congr 1; exact (decide_eq_false fun h => this h.1).symm
theorem goes_ok (f t k : Int) (h : Heap) : HEnt Try.prog 42 #[.agg #[.int .i64 f, .int .i64 t], .int .i64 k] h fun v h' => v = .bool (decide (goesP k f t)) ∧ Ext h h' := by
  refine F42_ent _ _ _ _ _ ?_
  unfold F42
  refine (St.start h).new fun b h1 s1 x1 _ => ?_
  have fin : ∀ (u v : Int) (h2 : Heap), St h h2 [⟨b, #[.int .i64 u, .int .i64 v], 71⟩] → (goesP k f t ↔ v = 0 ∧ rootP u) → F42_k2 (at0 b) h2 fun w h' => w = .bool (decide (goesP k f t)) ∧ Ext h h' := by
    intro u v h2 s2 hg
    unfold F42_k2
    refine ⟨u, s2.cell 0 rfl rfl, HEnt.use (root_ok u h2) ?_⟩
    rintro _ h2 ⟨rfl, rfl⟩
    refine ⟨_, rfl, br_of (fun e => ⟨v, s2.cell 0 rfl rfl, ?_, s2.ext⟩) (fun e => ⟨?_, s2.ext⟩)⟩
    · have e' := of_decide_eq_true e
      congr 1
      rw [Bool.eq_iff_iff]
      simp only [beq_iff_eq, decide_eq_true_eq]
      rw [hg]; exact ⟨fun h => ⟨h, e'⟩, fun h => h.1⟩
    · have e' := of_decide_eq_false e
      congr 1
      exact (decide_eq_false fun h => e' (hg.1 h).2).symm
  have sw : (k = 1 ∨ k = 3 ∨ k = 4) → F42_k1 (at0 b) true h1 fun w h' => w = .bool (decide (goesP k f t)) ∧ Ext h h' := fun hk => by
    unfold F42_k1
    refine br_of (fun _ => ⟨t, s1.cell 0 rfl rfl, f, s1.cell 0 rfl rfl, ?_⟩) (fun e => by cases e)
    refine s1.store 0 rfl (k := 0) (by simp) rfl fun h2 s2 o2 => s2.store 0 rfl (k := 1) (by simp) rfl fun h3 s3 o3 => fin t f h3 s3 ?_
    unfold goesP; rw [if_pos hk]
  refine br_of (fun e => sw (.inl (by simpa using e))) (fun e1 => br_of (fun e => sw (.inr (.inl (by simpa using e)))) (fun e2 => ?_))
  by_cases h4 : k = 4
  · rw [show ((k : Int) == 4) = true by simp [h4]]; exact sw (.inr (.inr h4))
  · rw [show ((k : Int) == 4) = false by simp [h4]]
    unfold F42_k1
    refine br_of (fun e => by cases e) (fun _ => fin f t h1 s1 ?_)
    unfold goesP
    rw [if_neg (fun e => ?_)]
    rcases e with e | e | e
    · simp [e] at e1
    · simp [e] at e2
    · exact h4 e
end Go.Proofs.Ytnhnioodlciajaa

namespace Go.Proofs.Ytnhnioodlciajaa
open Go.Vc Go.Sha Go.Trail Go.Packs
set_option linter.unusedVariables false

/-- a message, as a value -/
def msgCells (m : MsgV) (d : Hdr) : List Value := [.int .i64 m.kind, .int .i64 m.from_, .int .i64 m.to, .int .i64 m.txn, .bool m.yes, .slice d.a d.l d.c]
def bad1 (m : MsgV) : Prop := m.kind < 1 ∨ m.kind > 6
def bad2 (m : MsgV) : Prop := ¬ goesP m.kind m.from_ m.to ∨ m.txn < 1 ∨ m.txn > 1099511627776
def bad3 (m : MsgV) : Prop := (m.yes = true ∧ m.kind ≠ 2) ∨ (m.packs ≠ [] ∧ m.kind ≠ 1)
theorem msgC_1 {m : MsgV} (h : bad1 m) : msgC m = 13 := by unfold msgC; exact if_pos h
theorem msgC_2 {m : MsgV} (h1 : ¬ bad1 m) (h : bad2 m) : msgC m = 2 := by unfold msgC; exact (if_neg h1).trans (if_pos h)
theorem msgC_3 {m : MsgV} (h1 : ¬ bad1 m) (h2 : ¬ bad2 m) (h : bad3 m) : msgC m = 5 := by unfold msgC; exact (if_neg h1).trans ((if_neg h2).trans (if_pos h))
theorem msgC_4 {m : MsgV} (h1 : ¬ bad1 m) (h2 : ¬ bad2 m) (h3 : ¬ bad3 m) : msgC m = packsC [] 0 m.packs := by unfold msgC; exact (if_neg h1).trans ((if_neg h2).trans (if_neg h3))

theorem check_ok (m : MsgV) (d : Hdr) (ds : List Hdr) (h : Heap) (hp : PacksAt h d.a d.l d.c m.packs ds) (hl : d.l < 9223372036854775808) :
    HEnt Try.prog 20 #[.agg (msgCells m d).toArray] h fun v h' => v = .int .i64 (msgC m) ∧ Ext h h' := by
  refine F20_ent _ _ _ _ _ _ _ _ _ _ ?_
  have hlen := hp.length
  have hne : m.packs ≠ [] ↔ ((d.l : Int) > 0) := by
    rw [← hlen]
    constructor
    · intro e; have := List.length_pos_iff.2 e; omega
    · intro e e2; rw [e2] at e; simp at e
  unfold F20
  refine (St.start h).new fun b h1 s1 x1 _ => ?_
  have k4 : ¬ bad1 m → ¬ bad2 m → ¬ bad3 m → ∀ h', St h h' [⟨b, (msgCells m d).toArray, 24⟩] → F20_k4 (at0 b) h' fun v h' => v = .int .i64 (msgC m) ∧ Ext h h' := by
    intro n1 n2 n3 h' s
    unfold F20_k4
    refine ⟨d.a, d.l, d.c, s.cell 0 rfl rfl, HEnt.use (packs_ok d.a d.l d.c m.packs ds h' (hp.grow s.ext) hl) ?_⟩
    rintro _ h2 ⟨rfl, x2⟩
    exact ⟨_, rfl, by rw [msgC_4 n1 n2 n3], s.ext.trans x2⟩
  have k3 : ¬ bad1 m → ¬ bad2 m → ∀ bb h', St h h' [⟨b, (msgCells m d).toArray, 24⟩] → (bb = true ↔ bad3 m) → F20_k3 (at0 b) bb h' fun v h' => v = .int .i64 (msgC m) ∧ Ext h h' := by
    intro n1 n2 bb h' s hb
    unfold F20_k3
    exact br_of (fun e => ⟨by rw [msgC_3 n1 n2 (hb.1 e)]; rfl, s.ext⟩) (fun e => k4 n1 n2 (fun h3 => by rw [hb.2 h3] at e; cases e) h' s)
  have k2 : ¬ bad1 m → ∀ bb h', St h h' [⟨b, (msgCells m d).toArray, 24⟩] → (bb = true ↔ bad2 m) → F20_k2 (at0 b) bb h' fun v h' => v = .int .i64 (msgC m) ∧ Ext h h' := by
    intro n1 bb h' s hb
    unfold F20_k2
    refine br_of (fun e => ⟨by rw [msgC_2 n1 (hb.1 e)]; rfl, s.ext⟩) (fun e => ?_)
    have n2 : ¬ bad2 m := fun h2 => by rw [hb.2 h2] at e; cases e
    have tail : ¬ (m.yes = true ∧ m.kind ≠ 2) → ∃ a42 : Option Addr, ∃ l42 : Nat, ∃ c42 : Nat, Vc.cell h' ((at0 b).add 5) = some (Value.slice a42 l42 c42) ∧ br (decide (((l42 : Int) : Int) > 0)) (∃ x47 : Int, Vc.cell h' ((at0 b).add 0) = some (Value.int .i64 x47) ∧ F20_k3 (at0 b) ((x47 : Int) != 1) h' fun v h' => v = .int .i64 (msgC m) ∧ Ext h h') (F20_k3 (at0 b) false h' fun v h' => v = .int .i64 (msgC m) ∧ Ext h h') := by
      intro hy
      refine ⟨d.a, d.l, d.c, s.cell 0 rfl rfl, br_of (fun e => ⟨m.kind, s.cell 0 rfl rfl, k3 n1 n2 _ _ s ?_⟩) (fun e => k3 n1 n2 _ _ s ?_)⟩
      · have := hne.2 (of_decide_eq_true e)
        simp only [bne_iff_ne, ne_eq, bad3]
        exact ⟨fun h => .inr ⟨this, h⟩, fun h => (h.resolve_left hy).2⟩
      · have := of_decide_eq_false e
        simp only [Bool.false_eq_true, false_iff, bad3]
        exact fun h => (h.resolve_left hy).1 |> fun h => this (hne.1 h)
    refine ⟨m.yes, s.cell 0 rfl rfl, br_of (fun e => ⟨m.kind, s.cell 0 rfl rfl, br_of (fun e2 => k3 n1 n2 _ _ s ?_) (fun e2 => tail fun h => ?_)⟩) (fun e => tail fun h => ?_)⟩
    · have : m.kind ≠ 2 := by simpa using e2
      exact ⟨fun _ => .inl ⟨e, this⟩, fun _ => rfl⟩
    · have : m.kind = 2 := by simpa using e2
      exact h.2 this
    · rw [e] at h; cases h.1
  have k1 : ∀ bb h', St h h' [⟨b, (msgCells m d).toArray, 24⟩] → (bb = true ↔ bad1 m) → F20_k1 (at0 b) bb h' fun v h' => v = .int .i64 (msgC m) ∧ Ext h h' := by
    intro bb h' s hb
    unfold F20_k1
    refine br_of (fun e => ⟨by rw [msgC_1 (hb.1 e)]; rfl, s.ext⟩) (fun e => ?_)
    have n1 : ¬ bad1 m := fun h2 => by rw [hb.2 h2] at e; cases e
    refine ⟨m.from_, s.cell 0 rfl rfl, m.to, s.cell 0 rfl rfl, m.kind, s.cell 0 rfl rfl, HEnt.use (goes_ok m.from_ m.to m.kind h') ?_⟩
    rintro _ h2 ⟨rfl, x2⟩
    have s2 := s.grow x2
    refine ⟨_, rfl, br_of (fun e => k2 n1 _ _ s2 ?_) (fun e => ⟨m.txn, s2.cell 0 rfl rfl, br_of (fun e2 => k2 n1 _ _ s2 ?_) (fun e2 => ⟨m.txn, s2.cell 0 rfl rfl, k2 n1 _ _ s2 ?_⟩)⟩)⟩
    · have : ¬ goesP m.kind m.from_ m.to := by simpa using e
      exact ⟨fun _ => .inl this, fun _ => rfl⟩
    · exact ⟨fun _ => .inr (.inl (of_decide_eq_true e2)), fun _ => rfl⟩
    · have h1 : goesP m.kind m.from_ m.to := by simpa using e
      have h2 := of_decide_eq_false e2
      rw [decide_eq_true_eq]
      exact ⟨fun h => .inr (.inr h), fun h => (h.resolve_left (fun g => g h1)).resolve_left h2⟩
  refine ⟨m.kind, s1.cell 0 rfl rfl, br_of (fun e => k1 _ _ s1 ?_) (fun e => ⟨m.kind, s1.cell 0 rfl rfl, k1 _ _ s1 ?_⟩)⟩
  · exact ⟨fun _ => .inl (of_decide_eq_true e), fun _ => rfl⟩
  · rw [decide_eq_true_eq]
    exact ⟨fun h => .inr h, fun h => h.resolve_left (of_decide_eq_false e)⟩

theorem refCheck_ok (m : MsgV) (d : Hdr) (ds : List Hdr) (h : Heap) (hp : PacksAt h d.a d.l d.c m.packs ds) (hl : d.l < 9223372036854775808) :
    HEnt Try.prog 21 #[.agg (msgCells m d).toArray] h fun v h' => v = .int .i64 (msgC m) ∧ Ext h h' := by
  refine F21_ent _ _ _ _ _ _ _ _ _ _ ?_
  have hlen := hp.length
  have hne : m.packs ≠ [] ↔ ((d.l : Int) > 0) := by
    rw [← hlen]
    constructor
    · intro e; have := List.length_pos_iff.2 e; omega
    · intro e e2; rw [e2] at e; simp at e
  unfold F21
  refine (St.start h).new fun b h1 s1 x1 _ => ?_
  have k7 : ¬ bad1 m → ¬ bad2 m → ¬ bad3 m → ∀ h', St h h' [⟨b, (msgCells m d).toArray, 24⟩] → F21_k7 (at0 b) h' fun v h' => v = .int .i64 (msgC m) ∧ Ext h h' := by
    intro n1 n2 n3 h' s
    unfold F21_k7
    refine ⟨d.a, d.l, d.c, s.cell 0 rfl rfl, HEnt.use (refPacks_ok d.a d.l d.c m.packs ds h' (hp.grow s.ext) hl) ?_⟩
    rintro _ h2 ⟨rfl, x2⟩
    exact ⟨_, rfl, by rw [msgC_4 n1 n2 n3], s.ext.trans x2⟩
  have k6 : ¬ bad1 m → ¬ bad2 m → ∀ bb h', St h h' [⟨b, (msgCells m d).toArray, 24⟩] → (bb = true ↔ bad3 m) → F21_k6 (at0 b) bb h' fun v h' => v = .int .i64 (msgC m) ∧ Ext h h' := by
    intro n1 n2 bb h' s hb
    unfold F21_k6
    exact br_of (fun e => ⟨by rw [msgC_3 n1 n2 (hb.1 e)]; rfl, s.ext⟩) (fun e => k7 n1 n2 (fun h3 => by rw [hb.2 h3] at e; cases e) h' s)
  have k4 : ¬ bad1 m → ∀ bb h', St h h' [⟨b, (msgCells m d).toArray, 24⟩] → (bb = true ↔ bad2 m) → F21_k4 (at0 b) bb h' fun v h' => v = .int .i64 (msgC m) ∧ Ext h h' := by
    intro n1 bb h' s hb
    unfold F21_k4
    refine br_of (fun e => ⟨by rw [msgC_2 n1 (hb.1 e)]; rfl, s.ext⟩) (fun e => ?_)
    have n2 : ¬ bad2 m := fun h2 => by rw [hb.2 h2] at e; cases e
    have tail : ¬ (m.yes = true ∧ m.kind ≠ 2) → ∃ a71 : Option Addr, ∃ l71 : Nat, ∃ c71 : Nat, Vc.cell h' ((at0 b).add 5) = some (Value.slice a71 l71 c71) ∧ br (decide (((l71 : Int) : Int) > 0)) (∃ x76 : Int, Vc.cell h' ((at0 b).add 0) = some (Value.int .i64 x76) ∧ F21_k6 (at0 b) ((x76 : Int) != 1) h' fun v h' => v = .int .i64 (msgC m) ∧ Ext h h') (F21_k6 (at0 b) false h' fun v h' => v = .int .i64 (msgC m) ∧ Ext h h') := by
      intro hy
      refine ⟨d.a, d.l, d.c, s.cell 0 rfl rfl, br_of (fun e => ⟨m.kind, s.cell 0 rfl rfl, k6 n1 n2 _ _ s ?_⟩) (fun e => k6 n1 n2 _ _ s ?_)⟩
      · have := hne.2 (of_decide_eq_true e)
        simp only [bne_iff_ne, ne_eq, bad3]
        exact ⟨fun h => .inr ⟨this, h⟩, fun h => (h.resolve_left hy).2⟩
      · have := of_decide_eq_false e
        simp only [Bool.false_eq_true, false_iff, bad3]
        exact fun h => (h.resolve_left hy).1 |> fun h => this (hne.1 h)
    unfold F21_k5
    refine ⟨m.yes, s.cell 0 rfl rfl, br_of (fun e => ⟨m.kind, s.cell 0 rfl rfl, br_of (fun e2 => k6 n1 n2 _ _ s ?_) (fun e2 => tail fun h => ?_)⟩) (fun e => tail fun h => ?_)⟩
    · have : m.kind ≠ 2 := by simpa using e2
      exact ⟨fun _ => .inl ⟨e, this⟩, fun _ => rfl⟩
    · have : m.kind = 2 := by simpa using e2
      exact h.2 this
    · rw [e] at h; cases h.1
  have txn : ¬ bad1 m → goesP m.kind m.from_ m.to → ∀ h', St h h' [⟨b, (msgCells m d).toArray, 24⟩] → ∃ x54 : Int, Vc.cell h' ((at0 b).add 3) = some (Value.int .i64 x54) ∧ br (decide ((x54 : Int) < 1)) (F21_k4 (at0 b) true h' fun v h' => v = .int .i64 (msgC m) ∧ Ext h h') (∃ x59 : Int, Vc.cell h' ((at0 b).add 3) = some (Value.int .i64 x59) ∧ F21_k4 (at0 b) (decide ((x59 : Int) > 1099511627776)) h' fun v h' => v = .int .i64 (msgC m) ∧ Ext h h') := by
    intro n1 hg h' s
    refine ⟨m.txn, s.cell 0 rfl rfl, br_of (fun e2 => k4 n1 _ _ s ?_) (fun e2 => ⟨m.txn, s.cell 0 rfl rfl, k4 n1 _ _ s ?_⟩)⟩
    · exact ⟨fun _ => .inr (.inl (of_decide_eq_true e2)), fun _ => rfl⟩
    · rw [decide_eq_true_eq]
      exact ⟨fun h => .inr (.inr h), fun h => (h.resolve_left (fun g => g hg)).resolve_left (of_decide_eq_false e2)⟩
  have yes2 : ∀ {p : Prop}, ¬ p → (p → False) := fun h => h
  have down : ¬ bad1 m → (m.kind = 1 ∨ m.kind = 3 ∨ m.kind = 4) → F21_k3 (at0 b) true h1 fun v h' => v = .int .i64 (msgC m) ∧ Ext h h' := by
    intro n1 hk
    have hg : goesP m.kind m.from_ m.to ↔ m.from_ = 0 ∧ rootP m.to := by unfold goesP; rw [if_pos hk]
    unfold F21_k3
    refine br_of (fun _ => ⟨m.from_, s1.cell 0 rfl rfl, br_of (fun e => k4 n1 _ _ s1 ?_) (fun e => ⟨m.to, s1.cell 0 rfl rfl, HEnt.use (refRoot_ok m.to h1) ?_⟩)⟩) (fun e => by cases e)
    · have : m.from_ ≠ 0 := by simpa using e
      exact ⟨fun _ => .inl fun g => this (hg.1 g).1, fun _ => rfl⟩
    · have h0 : m.from_ = 0 := by simpa using e
      rintro _ h2 ⟨rfl, rfl⟩
      refine ⟨_, rfl, br_of (fun e => k4 n1 _ _ s1 ?_) (fun e => br_of (fun e => by cases e) (fun _ => txn n1 (hg.2 ⟨h0, by simpa using e⟩) _ s1))⟩
      have : ¬ rootP m.to := by simpa using e
      exact ⟨fun _ => .inl fun g => this (hg.1 g).2, fun _ => rfl⟩
  have up : ¬ bad1 m → ¬ (m.kind = 1 ∨ m.kind = 3 ∨ m.kind = 4) → F21_k3 (at0 b) false h1 fun v h' => v = .int .i64 (msgC m) ∧ Ext h h' := by
    intro n1 hk
    have hg : goesP m.kind m.from_ m.to ↔ m.to = 0 ∧ rootP m.from_ := by unfold goesP; rw [if_neg hk]
    unfold F21_k3
    refine br_of (fun e => by cases e) (fun _ => br_of (fun _ => ⟨m.to, s1.cell 0 rfl rfl, br_of (fun e => k4 n1 _ _ s1 ?_) (fun e => ⟨m.from_, s1.cell 0 rfl rfl, HEnt.use (refRoot_ok m.from_ h1) ?_⟩)⟩) (fun e => by cases e))
    · have : m.to ≠ 0 := by simpa using e
      exact ⟨fun _ => .inl fun g => this (hg.1 g).1, fun _ => rfl⟩
    · have h0 : m.to = 0 := by simpa using e
      rintro _ h2 ⟨rfl, rfl⟩
      refine ⟨_, rfl, br_of (fun e => k4 n1 _ _ s1 ?_) (fun e => txn n1 (hg.2 ⟨h0, by simpa using e⟩) _ s1)⟩
      have : ¬ rootP m.from_ := by simpa using e
      exact ⟨fun _ => .inl fun g => this (hg.1 g).2, fun _ => rfl⟩
  have k1 : ∀ bb, (bb = true ↔ bad1 m) → F21_k1 (at0 b) bb h1 fun v h' => v = .int .i64 (msgC m) ∧ Ext h h' := by
    intro bb hb
    unfold F21_k1
    refine br_of (fun e => ⟨by rw [msgC_1 (hb.1 e)]; rfl, s1.ext⟩) (fun e => ?_)
    have n1 : ¬ bad1 m := fun h2 => by rw [hb.2 h2] at e; cases e
    unfold F21_k2
    refine ⟨m.kind, s1.cell 0 rfl rfl, br_of (fun e => down n1 (.inl (by simpa using e))) (fun e1 => ⟨m.kind, s1.cell 0 rfl rfl, br_of (fun e => down n1 (.inr (.inl (by simpa using e)))) (fun e2 => ⟨m.kind, s1.cell 0 rfl rfl, ?_⟩)⟩)⟩
    by_cases h4 : m.kind = 4
    · rw [show ((m.kind : Int) == 4) = true by simp [h4]]; exact down n1 (.inr (.inr h4))
    · rw [show ((m.kind : Int) == 4) = false by simp [h4]]
      refine up n1 fun e => ?_
      rcases e with e | e | e
      · simp [e] at e1
      · simp [e] at e2
      · exact h4 e
  refine ⟨m.kind, s1.cell 0 rfl rfl, br_of (fun e => k1 _ ?_) (fun e => ⟨m.kind, s1.cell 0 rfl rfl, k1 _ ?_⟩)⟩
  · exact ⟨fun _ => .inl (of_decide_eq_true e), fun _ => rfl⟩
  · rw [decide_eq_true_eq]
    exact ⟨fun h => .inr h, fun h => h.resolve_left (of_decide_eq_false e)⟩
end Go.Proofs.Ytnhnioodlciajaa
