import Derived.Test.YtfknpbgneeefjaaDoorVppG
import Derived.Test.YtfknpbgneeefjaaDoorPacks

namespace Go.Proofs.YtfknpbgneeefjaaDoor
open Go.Vc Go.Sha Go.Trail Go.Packs
set_option linter.unusedVariables false
set_option maxRecDepth 20000

theorem i64_lt (n : Int) (h : -9223372036854775808 ≤ n) (h' : n < 9223372036854775808) : IntKind.i64.wrap n = n := IntWalk.i64_in _ (by omega)
theorem take_succ_getD (l : List Nat) (k : Nat) (hk : k < l.length) : l.take (k + 1) = l.take k ++ [l.getD k 0] := by
  rw [List.take_succ_eq_append_getElem hk, List.getD_eq_getElem?_getD, List.getElem?_eq_getElem hk]; rfl
theorem mem_getD (l : List Nat) (k : Nat) (hk : k < l.length) : l.getD k 0 ∈ l := by
  rw [List.getD_eq_getElem?_getD, List.getElem?_eq_getElem hk]; exact List.getElem_mem hk
theorem wrap_succ (k n : Nat) (h : k < n) (hn : n < 9223372036854775808) : IntKind.i64.wrap ((k : Int) + 1) = ((k + 1 : Nat) : Int) := by rw [i64_lt _ (by omega) (by omega)]; omega
theorem less_succ (k n : Nat) (h : k < n) : ((n : Int) - ((k + 1 : Nat) : Int)).toNat < ((n : Int) - (k : Int)).toNat := by omega

theorem name_ok (s : ByteArray) (hs : s.size < 9223372036854775808) (h : Heap) : HEnt Tryd.prog 60 #[.string s] h fun v h' => v = .bool (decide (nameP (lst s))) ∧ h' = h := by
  refine F60_ent _ _ _ ?_
  have ls := lst_len s
  unfold F60
  refine ⟨fun x h' => ∃ k : Nat, x = k ∧ k ≤ s.size ∧ (∀ c ∈ (lst s).take k, nameC c) ∧ h' = h, fun x _ => (s.size - x).toNat, ⟨0, rfl, by omega, by simp, rfl⟩, ?_⟩
  rintro h1 _ ⟨k, rfl, hk, hok, rfl⟩
  unfold F60_b1
  refine br_of (fun ht => ?_) (fun hf => ?_)
  · have hk' : k < s.size := by
      have : (k : Int) < (s.size : Int) := by simpa using ht
      omega
    have key : ∀ b : Bool, (b = false ↔ nameC ((lst s).getD k 0)) → F60_k3 (fun x h' => ∃ k : Nat, x = k ∧ k ≤ s.size ∧ (∀ c ∈ (lst s).take k, nameC c) ∧ h' = h1) (fun x _ => (s.size - x).toNat) (((s.size : Int) - (k : Int)).toNat) s (s.size : Int) (k : Int) b h1 fun v h' => v = .bool (decide (nameP (lst s))) ∧ h' = h1 := by
      intro b hb
      unfold F60_k3
      refine br_of (fun hbt => ⟨?_, rfl⟩) (fun hbf => ?_)
      · have hno : ¬ nameC ((lst s).getD k 0) := fun ho => by rw [hb.2 ho] at hbt; cases hbt
        rw [decide_eq_false fun hp => hno (hp.2.2 _ (mem_getD _ _ (by omega)))]
      · have ho := hb.1 hbf
        unfold F60_k4
        rw [wrap_succ k _ hk' hs]
        refine ⟨⟨k + 1, rfl, by omega, ?_, rfl⟩, less_succ _ _ hk'⟩
        rw [take_succ_getD _ _ (by omega)]
        intro c hc
        rcases List.mem_append.1 hc with hc | hc
        · exact hok c hc
        · rw [List.mem_singleton] at hc; rw [hc]; exact ho
    unfold F60_k2
    rw [bt_lst]
    generalize (lst s).getD k 0 = c at *
    refine ⟨by omega, by omega, ?_⟩
    repeat' (with_reducible refine br_of (fun _ => ?_) (fun _ => ?_))
    all_goals (refine key _ ?_; unfold nameC; simp only [decide_eq_true_eq, decide_eq_false_iff_not, beq_iff_eq, beq_eq_false_iff_ne, ne_eq, Bool.not_eq_false', true_iff] at *; omega)
  · have hk' : k = s.size := by
      have : ¬ (k : Int) < (s.size : Int) := by simpa using hf
      omega
    rw [List.take_of_length_le (by omega)] at hok
    unfold F60_k5
    refine br_of (fun h0 => ⟨?_, rfl⟩) (fun h0 => ⟨?_, rfl⟩)
    · have h0' : (s.size : Int) > 0 := by simpa using h0
      congr 1
      refine decide_eq_decide.2 ⟨fun h => ⟨by omega, by omega, hok⟩, fun h => by have := h.2.1; omega⟩
    · have h0' : ¬ (s.size : Int) > 0 := by simpa using h0
      congr 1
      exact (decide_eq_false fun hp => by have := hp.1; omega).symm

theorem refName_ok (s : ByteArray) (hs : s.size < 9223372036854775808) (h : Heap) : HEnt Tryd.prog 38 #[.string s] h fun v h' => v = .bool (decide (nameP (lst s))) ∧ h' = h := by
  refine F38_ent _ _ _ ?_
  have ls := lst_len s
  unfold F38
  rintro _ rfl
  refine ⟨fun x h' => ∃ k : Nat, x = k ∧ k ≤ s.size ∧ (∀ c ∈ (lst s).take k, nameC c) ∧ h' = h, fun x _ => (s.size - x).toNat, ⟨0, rfl, by omega, by simp, rfl⟩, ?_⟩
  rintro h1 _ ⟨k, rfl, hk, hok, rfl⟩
  unfold F38_b1
  refine br_of (fun ht => ?_) (fun hf => ?_)
  · have hk' : k < s.size := by
      have : (k : Int) < (s.size : Int) := by simpa using ht
      omega
    have key : ∀ b : Bool, (b = false ↔ nameC ((lst s).getD k 0)) → F38_k5 (fun x h' => ∃ k : Nat, x = k ∧ k ≤ s.size ∧ (∀ c ∈ (lst s).take k, nameC c) ∧ h' = h1) (fun x _ => (s.size - x).toNat) (((s.size : Int) - (k : Int)).toNat) s (k : Int) b h1 fun v h' => v = .bool (decide (nameP (lst s))) ∧ h' = h1 := by
      intro b hb
      unfold F38_k5
      refine br_of (fun hbt => ⟨?_, rfl⟩) (fun hbf => ?_)
      · have hno : ¬ nameC ((lst s).getD k 0) := fun ho => by rw [hb.2 ho] at hbt; cases hbt
        rw [decide_eq_false fun hp => hno (hp.2.2 _ (mem_getD _ _ (by omega)))]
      · have ho := hb.1 hbf
        unfold F38_k6
        rintro _ rfl
        rw [wrap_succ k _ hk' hs]
        refine ⟨⟨k + 1, rfl, by omega, ?_, rfl⟩, less_succ _ _ hk'⟩
        rw [take_succ_getD _ _ (by omega)]
        intro c hc
        rcases List.mem_append.1 hc with hc | hc
        · exact hok c hc
        · rw [List.mem_singleton] at hc; rw [hc]; exact ho
    have hbt := bt_lst s k
    have last : ∀ b4 b5 : Bool, b4 = decide (97 ≤ (lst s).getD k 0 ∧ (lst s).getD k 0 ≤ 122) → b5 = decide (48 ≤ (lst s).getD k 0 ∧ (lst s).getD k 0 ≤ 57) → F38_k4 (fun x h' => ∃ k : Nat, x = k ∧ k ≤ s.size ∧ (∀ c ∈ (lst s).take k, nameC c) ∧ h' = h1) (fun x _ => (s.size - x).toNat) (((s.size : Int) - (k : Int)).toNat) s (k : Int) b4 b5 h1 fun v h' => v = .bool (decide (nameP (lst s))) ∧ h' = h1 := by
      rintro _ _ rfl rfl
      unfold F38_k4
      rw [hbt]
      generalize (lst s).getD k 0 = c at *
      refine br_of (fun g1 => br_of (fun g2 => ⟨by omega, by omega, br_of (fun g3 => ⟨by omega, by omega, key _ ?_⟩) (fun g3 => key _ ?_)⟩) (fun g2 => key _ ?_)) (fun g1 => key _ ?_) <;>
        (unfold nameC; simp only [Bool.not_eq_true', Bool.not_eq_false', decide_eq_true_eq, decide_eq_false_iff_not, bne_iff_ne, ne_eq, bne_eq_false_iff_eq, true_iff] at *; omega)
    have mid : ∀ b4 : Bool, b4 = decide (97 ≤ (lst s).getD k 0 ∧ (lst s).getD k 0 ≤ 122) → F38_k3 (fun x h' => ∃ k : Nat, x = k ∧ k ≤ s.size ∧ (∀ c ∈ (lst s).take k, nameC c) ∧ h' = h1) (fun x _ => (s.size - x).toNat) (((s.size : Int) - (k : Int)).toNat) s (k : Int) b4 h1 fun v h' => v = .bool (decide (nameP (lst s))) ∧ h' = h1 := by
      intro b4 h4
      unfold F38_k3
      rw [hbt]
      refine ⟨by omega, by omega, br_of (fun g1 => ⟨by omega, by omega, last _ _ h4 ?_⟩) (fun g1 => last _ _ h4 ?_)⟩
      · have g1' := of_decide_eq_true g1
        exact decide_eq_decide.2 (by omega)
      · have g1' := of_decide_eq_false g1
        exact (decide_eq_false (by omega)).symm
    unfold F38_k2
    rw [hbt]
    refine ⟨by omega, by omega, br_of (fun g1 => ⟨by omega, by omega, mid _ ?_⟩) (fun g1 => mid _ ?_)⟩
    · have g1' := of_decide_eq_true g1
      exact decide_eq_decide.2 (by omega)
    · have g1' := of_decide_eq_false g1
      exact (decide_eq_false (by omega)).symm
  · have hk' : k = s.size := by
      have : ¬ (k : Int) < (s.size : Int) := by simpa using hf
      omega
    rw [List.take_of_length_le (by omega)] at hok
    unfold F38_k7
    refine br_of (fun h0 => ⟨?_, rfl⟩) (fun h0 => ⟨?_, rfl⟩)
    · have h0' : (s.size : Int) ≥ 1 := by simpa using h0
      congr 1
      refine decide_eq_decide.2 ⟨fun h => ⟨by omega, by omega, hok⟩, fun h => by have := h.2.1; omega⟩
    · have h0' : ¬ (s.size : Int) ≥ 1 := by simpa using h0
      congr 1
      exact (decide_eq_false fun hp => by have := hp.1; omega).symm

/-! ### lists of numbers -/
end Go.Proofs.YtfknpbgneeefjaaDoor

namespace Go.Proofs.YtfknpbgneeefjaaDoor
open Go.Vc Go.Sha Go.Trail Go.Packs
set_option linter.unusedVariables false
set_option maxRecDepth 20000

theorem keyed73 : Keyed Tryd.prog 73 sumV sumOk := sums_keyed Tryd.underlying73 Tryd.underlying5 (by kernel_rfl)
theorem zero3 : (Tryd.prog.info? 3).bind (·.zero) = some (.int .i64 0) := by kernel_rfl
theorem zeroC75 : (zeroC Tryd.prog 75).size = 33 := by kernel_rfl
theorem eqg73 : Tryd.prog.eqGuardType Tryd.prog.depth 73 = false := by kernel_rfl
theorem cells73 : Tryd.prog.cellsOf 73 = 32 := by kernel_rfl
theorem refsC_step (seen : List (List Nat)) (r : RefV) (t : List RefV) (h1 : ¬ (r.size < 0 ∨ r.size > 2147483647)) (h2 : r.sum ∉ seen) : refsC seen (r :: t) = refsC (seen ++ [r.sum]) t := by
  conv => lhs; unfold refsC
  rw [if_neg h1, if_neg h2]
theorem takeR_succ {α : Type} {l : List α} {k : Nat} {x : α} (hx : l[k]? = some x) : l.take (k + 1) = l.take k ++ [x] := by
  obtain ⟨h1, h2⟩ := List.getElem?_eq_some_iff.1 hx
  rw [List.take_succ_eq_append_getElem h1, h2]
theorem dropR_cons {α : Type} {l : List α} {k : Nat} {x : α} (hx : l[k]? = some x) : l.drop k = x :: l.drop (k + 1) := by
  obtain ⟨h1, h2⟩ := List.getElem?_eq_some_iff.1 hx
  rw [List.drop_eq_getElem_cons h1, h2]
/-- each sum so far, once -/
def seenM (rs : List RefV) : List (List Nat × Value) := rs.map fun r => (r.sum, .int .i64 1)
theorem seenM_look (rs : List RefV) (s : List Nat) : lookA (seenM rs) s = if s ∈ rs.map RefV.sum then some (.int .i64 1) else none := by
  induction rs with
  | nil => rfl
  | cons r t ih =>
    show (if s = r.sum then some (Value.int .i64 1) else lookA (seenM t) s) = _
    rw [ih]
    by_cases h : s = r.sum
    · simp [h]
    · by_cases h2 : s ∈ t.map RefV.sum
      · rw [if_neg h, if_pos h2, if_pos (by rw [List.map_cons]; exact List.mem_cons_of_mem _ h2)]
      · rw [if_neg h, if_neg h2, if_neg (by rw [List.map_cons]; intro hm; rcases List.mem_cons.1 hm with hm | hm; exact h hm; exact h2 hm)]
theorem seenM_upd {rs : List RefV} {r : RefV} (h : r.sum ∉ rs.map RefV.sum) : updA (seenM rs) r.sum (.int .i64 1) = seenM (rs ++ [r]) := by
  induction rs with
  | nil => rfl
  | cons q t ih =>
    have h1 : r.sum ≠ q.sum := fun e => h (by rw [e]; simp)
    have h2 : r.sum ∉ t.map RefV.sum := fun e => h (by rw [List.map_cons]; exact List.mem_cons_of_mem _ e)
    show (if r.sum = q.sum then _ else (q.sum, Value.int .i64 1) :: updA (seenM t) r.sum (.int .i64 1)) = _
    rw [if_neg h1, ih h2]; rfl
theorem sumCells_len (s : List Nat) : (sumCells s).length = s.length := by simp [sumCells]
theorem sumCells_one (s : List Nat) : ∀ u ∈ sumCells s, one u = true := by
  intro u hu
  obtain ⟨n, _, rfl⟩ := List.mem_map.1 hu
  rfl
theorem cells_one (r : RefV) : ∀ u ∈ r.cells, one u = true := by
  intro u hu
  rcases List.mem_append.1 hu with h | h
  · exact sumCells_one _ u h
  · rw [List.mem_singleton] at h; rw [h]; rfl
theorem toNat_pos {x : Int} (h : decide (x > 0) = true) : 0 < x := by simpa using h

theorem man_ok (nm vr : ByteArray) (a : Option Addr) (l c : Nat) (rs : List RefV) (h : Heap) (hr : RefsAt h a l c rs) (hn : nm.size < 9223372036854775808) (hv : vr.size < 9223372036854775808) :
    HEnt Tryd.prog 37 #[.agg #[.string nm, .string vr, .slice a l c]] h fun v h' => v = .int .i64 (manC nm vr rs) ∧ Ext h h' := by
  refine F37_ent _ _ _ _ _ _ _ ?_
  have hlen := hr.len
  unfold F37
  refine (St.start h).new fun b1 h1 s1 x1 _ => ?_
  have bad : (¬ nameP (lst nm) ∨ ¬ nameP (lst vr)) → F37_k1 (at0 b1) true h1 fun v h' => v = .int .i64 (manC nm vr rs) ∧ Ext h h' := fun hb => by
    unfold F37_k1
    refine br_of (fun _ => ⟨?_, s1.ext⟩) (fun e => by cases e)
    unfold manC; rw [if_pos hb]; rfl
  refine ⟨nm, s1.cell 0 rfl rfl, HEnt.use (name_ok nm hn h1) ?_⟩
  rintro _ h1 ⟨rfl, rfl⟩
  refine ⟨_, rfl, br_of (fun e => bad (.inl (by simpa using e))) (fun e1 => ?_)⟩
  have n1 : nameP (lst nm) := by simpa using e1
  refine ⟨vr, s1.cell 0 rfl rfl, HEnt.use (name_ok vr hv _) ?_⟩
  rintro _ h1 ⟨rfl, rfl⟩
  refine ⟨_, rfl, ?_⟩
  by_cases n2 : nameP (lst vr)
  case neg => rw [decide_eq_false n2]; exact bad (.inr n2)
  rw [decide_eq_true n2]
  have hman : manC nm vr rs = if rs.length = 0 then 9 else if rs.length > 8 then 3 else refsC [] rs := by
    unfold manC; rw [if_neg (fun e => e.elim (fun e => e n1) fun e => e n2)]
  unfold F37_k1
  refine br_of (fun e => by cases e) (fun _ => ⟨a, l, c, s1.cell 0 rfl rfl, br_of (fun e => ⟨?_, s1.ext⟩) (fun e => ?_)⟩)
  · have : (l : Int) = 0 := by simpa using e
    rw [hman, if_pos (by omega)]; rfl
  have hl0 : l ≠ 0 := by
    have : ¬ (l : Int) = 0 := by simpa using e
    omega
  refine ⟨a, l, c, s1.cell 0 rfl rfl, br_of (fun e => ⟨?_, s1.ext⟩) (fun e => ?_)⟩
  · have : (l : Int) > 8 := by simpa using e
    rw [hman, if_neg (by omega), if_pos (by omega)]; rfl
  have hl8 : l ≤ 8 := by
    have : ¬ (l : Int) > 8 := by simpa using e
    omega
  rw [hman, if_neg (by omega), if_neg (by omega)]
  unfold F37_k2
  refine newK_intro fun h2 nm2 x2 _ => ?_
  have hm0 : MapAt sumV sumOk h2 h1.size [] := MapAt.new nm2
  generalize hmb : h1.size = mb at *
  have hmb0 : h.size ≤ mb := by rw [← hmb]; exact s1.ext.size
  have s2 := s1.grow x2
  have b1m : b1 < mb := by rw [← hmb]; exact s1.lt (i := 0) rfl
  refine ⟨a, l, c, s2.cell 0 rfl rfl, ?_⟩
  refine ⟨fun x h' => ∃ k : Nat, x = k ∧ k ≤ l ∧ Ext h h' ∧ MapAt sumV sumOk h' mb (seenM (rs.take k)) ∧ refsC [] rs = refsC ((rs.take k).map RefV.sum) (rs.drop k), fun x _ => (l - x).toNat,
    ⟨0, rfl, by omega, s2.ext, by simpa [seenM] using hm0, by simp⟩, ?_⟩
  rintro h3 _ ⟨k, rfl, hk, x3, hm3, he⟩
  unfold F37_b3
  refine br_of (fun ht => ?_) (fun hf => ?_)
  · have hk' : k < l := by
      have : (k : Int) < (l : Int) := by simpa using ht
      omega
    obtain ⟨q, r, hri, ea, hrok, hc33, hc32, hsz⟩ := (hr.grow x3).get hk'
    have hd := dropR_cons hri
    rw [hd] at he
    unfold F37_k4
    refine ⟨q, ea, by omega, by omega, r.cells.toArray, by simp [cells_len r hrok], by rw [Int.toNat_natCast]; exact hc33, ?_⟩
    refine (St.start h3).new fun b5 h4 s4 x4 hb5 => ?_
    refine s4.storeAll 0 rfl (by simp [cells_len r hrok]) zeroC75 (by simpa using cells_one r) fun h5 s5 o5 => ?_
    have x35 : Ext h3 h5 := s5.ext
    have hm5 := hm3.grow x35
    have c32 : r.cells[32]? = some (.int .i64 r.size) := by simp [RefV.cells, sumCells, hrok.1]
    have b5m : b5 ≠ mb := by have := hm3.lt; omega
    have bad2 : (r.size < 0 ∨ r.size > 2147483647) → F37_k5 (fun x h' => ∃ k : Nat, x = k ∧ k ≤ l ∧ Ext h h' ∧ MapAt sumV sumOk h' mb (seenM (rs.take k)) ∧ refsC [] rs = refsC ((rs.take k).map RefV.sum) (rs.drop k)) (fun x _ => (l - x).toNat) (((l : Int) - (k : Int)).toNat) (some mb) (at0 b5) a l c (l : Int) (k : Int) true h5 fun v h' => v = .int .i64 (refsC [] rs) ∧ Ext h h' := fun hb => by
      unfold F37_k5
      refine br_of (fun _ => ⟨?_, x3.trans x35⟩) (fun e => by cases e)
      rw [he]; unfold refsC; rw [if_pos hb]; rfl
    refine ⟨r.size, s5.cell 0 rfl (by simpa using c32), br_of (fun e => bad2 (.inl (of_decide_eq_true e))) (fun e1 => ⟨r.size, s5.cell 0 rfl (by simpa using c32), ?_⟩)⟩
    have g1 := of_decide_eq_false e1
    by_cases g2 : r.size > 2147483647
    case pos => rw [decide_eq_true g2]; exact bad2 (.inr g2)
    rw [decide_eq_false g2]
    unfold F37_k5
    refine br_of (fun e => by cases e) (fun _ => ?_)
    unfold F37_k6
    have csum : CellsAt h5 ((at0 b5).add 0) (sumCells r.sum) := s5.cells 0 rfl fun j v hv => by
      have hl := (List.getElem?_eq_some_iff.1 hv).1
      have : r.cells[j]? = some v := by rw [RefV.cells, List.getElem?_append_left hl]; exact hv
      simpa using this
    refine ⟨(sumCells r.sum).toArray, by simp [sumCells_len, hrok.1], csum, ?_⟩
    refine semK_lookup keyed73 Tryd.underlying92 zero3 hm5 hrok ?_
    rw [seenM_look]
    by_cases hin : r.sum ∈ (rs.take k).map RefV.sum
    · rw [if_pos hin]
      refine ⟨1, rfl, br_of (fun _ => ⟨?_, x3.trans x35⟩) (fun e => by cases e)⟩
      rw [he]; unfold refsC; rw [if_neg (fun e => e.elim g1 g2), if_pos hin]; rfl
    · rw [if_neg hin]
      refine ⟨0, rfl, br_of (fun e => by cases e) (fun _ => ?_)⟩
      have hnext : refsC [] rs = refsC ((rs.take (k + 1)).map RefV.sum) (rs.drop (k + 1)) := by
        rw [he, refsC_step _ _ _ (fun e => e.elim g1 g2) hin, takeR_succ hri, List.map_append]; rfl
      have fin : ∀ h9, MapAt sumV sumOk h9 mb (updA (seenM (rs.take k)) r.sum (.int .i64 1)) → Only mb h5 h9 → F37_k8 (fun x h' => ∃ k : Nat, x = k ∧ k ≤ l ∧ Ext h h' ∧ MapAt sumV sumOk h' mb (seenM (rs.take k)) ∧ refsC [] rs = refsC ((rs.take k).map RefV.sum) (rs.drop k)) (fun x _ => (l - x).toNat) (((l : Int) - (k : Int)).toNat) (some mb) a l c (l : Int) (k : Int) h9 fun v h' => v = .int .i64 (refsC [] rs) ∧ Ext h h' := by
        intro h9 m9 o9
        unfold F37_k8
        rw [wrap_succ k _ hk' (by omega)]
        refine ⟨⟨k + 1, rfl, by omega, ?_, ?_, hnext⟩, less_succ _ _ hk'⟩
        · have x := x3.trans x35
          exact ⟨Nat.le_trans x.size (Nat.le_of_eq o9.size.symm), fun j hj => (o9.block j (by omega)).trans (x.block j hj)⟩
        · rw [seenM_upd hin, ← takeR_succ hri] at m9; exact m9
      unfold F37_k7
      refine ⟨Keep (· = mb), fun h => Keep.refl _ h, fun _ _ _ x y => x.trans y, (sumCells r.sum).toArray, by simp [sumCells_len, hrok.1], fun w hw => ?_, ?_, ?_⟩
      · have hb : w.heap[b5]? = h5[b5]? := hw.block b5 (s5.lt (i := 0) rfl) b5m
        have hcw : CellsAt w.heap ((at0 b5).add 0) (sumCells r.sum) := fun j v hv => by
          have := csum j v hv
          rw [add_at0, add_mk] at this ⊢
          rw [← this]; simp only [cell, hb]
        have := run_cells (P := Tryd.prog) hcw
        rw [sumCells_len, hrok.1] at this
        unfold loadVar
        simp only [Sem.run_bind, run_isAgg_true Tryd.underlying73 rfl, Result.andThen_ok, if_true, run_size Tryd.underlying73, cells73, this, Sem.run_pure]
      · refine semK_lookup keyed73 Tryd.underlying92 zero3 hm5 hrok ?_
        rw [seenM_look, if_neg hin]
        refine ⟨0, rfl, Keep.refl _ _, semK_entry keyed73 Tryd.underlying92 zero3 hm5 hrok fun n h6 o6 m6 hst => ?_⟩
        rw [seenM_look, if_neg hin]
        refine ⟨0, n, rfl, o6.keep rfl, hst _ _ fun h7 m7 o7 => ⟨?_, fin h7 m7 o7⟩⟩
        exact ⟨by rw [o6.size, o7.size]; exact Nat.le_refl _, fun j hj hne => (o7.block j hne).trans (o6.block j hne).symm⟩
      · refine semK_entry keyed73 Tryd.underlying92 zero3 hm5 hrok fun n h6 o6 m6 hst => ?_
        rw [seenM_look, if_neg hin] at m6 ⊢
        refine ⟨0, n, rfl, o6.keep rfl, semK_lookup keyed73 Tryd.underlying92 zero3 m6 hrok ?_⟩
        rw [look_upd, if_pos rfl]
        refine ⟨0, rfl, Keep.refl _ _, hst _ _ fun h7 m7 o7 => ⟨?_, fin h7 m7 o7⟩⟩
        exact ⟨by rw [o6.size, o7.size]; exact Nat.le_refl _, fun j hj hne => (o7.block j hne).trans (o6.block j hne).symm⟩
  · have hk' : k = l := by
      have : ¬ (k : Int) < (l : Int) := by simpa using hf
      omega
    unfold F37_k9
    rw [List.drop_of_length_le (by omega)] at he
    exact ⟨by rw [he]; rfl, x3⟩

theorem refMan_ok (nm vr : ByteArray) (a : Option Addr) (l c : Nat) (rs : List RefV) (h : Heap) (hr : RefsAt h a l c rs) (hn : nm.size < 9223372036854775808) (hv : vr.size < 9223372036854775808) :
    HEnt Tryd.prog 39 #[.agg #[.string nm, .string vr, .slice a l c]] h fun v h' => v = .int .i64 (manC nm vr rs) ∧ Ext h h' := by
  refine F39_ent _ _ _ _ _ _ _ ?_
  have hlen := hr.len
  unfold F39
  refine (St.start h).new fun b1 h1 s1 x1 _ => ?_
  have bad : (¬ nameP (lst nm) ∨ ¬ nameP (lst vr)) → F39_k1 (at0 b1) true h1 fun v h' => v = .int .i64 (manC nm vr rs) ∧ Ext h h' := fun hb => by
    unfold F39_k1
    refine br_of (fun _ => ⟨?_, s1.ext⟩) (fun e => by cases e)
    unfold manC; rw [if_pos hb]; rfl
  refine ⟨nm, s1.cell 0 rfl rfl, HEnt.use (refName_ok nm hn h1) ?_⟩
  rintro _ h1 ⟨rfl, rfl⟩
  refine ⟨_, rfl, br_of (fun e => bad (.inl (by simpa using e))) (fun e1 => ?_)⟩
  have n1 : nameP (lst nm) := by simpa using e1
  refine ⟨vr, s1.cell 0 rfl rfl, HEnt.use (refName_ok vr hv _) ?_⟩
  rintro _ h1 ⟨rfl, rfl⟩
  refine ⟨_, rfl, ?_⟩
  by_cases n2 : nameP (lst vr)
  case neg => rw [decide_eq_false n2]; exact bad (.inr n2)
  rw [decide_eq_true n2]
  have hman : manC nm vr rs = if rs.length = 0 then 9 else if rs.length > 8 then 3 else refsC [] rs := by
    unfold manC; rw [if_neg (fun e => e.elim (fun e => e n1) fun e => e n2)]
  have c2 := s1.cell 0 rfl (k := 2) (v := .slice a l c) rfl
  have hr1 := hr.grow s1.ext
  unfold F39_k1
  refine br_of (fun e => by cases e) (fun _ => ?_)
  unfold F39_k2
  refine ⟨a, l, c, c2, br_of (fun e => ⟨?_, s1.ext⟩) (fun e => ?_)⟩
  · have : (l : Int) = 0 := by simpa using e
    rw [hman, if_pos (by omega)]; rfl
  have hl0 : l ≠ 0 := by
    have : ¬ (l : Int) = 0 := by simpa using e
    omega
  unfold F39_k3
  refine ⟨a, l, c, c2, br_of (fun e => ⟨?_, s1.ext⟩) (fun e => ?_)⟩
  · have : (l : Int) > 8 := by simpa using e
    rw [hman, if_neg (by omega), if_pos (by omega)]; rfl
  have hl8 : l ≤ 8 := by
    have : ¬ (l : Int) > 8 := by simpa using e
    omega
  rw [hman, if_neg (by omega), if_neg (by omega)]
  unfold F39_k4
  rintro _ rfl
  refine ⟨fun x h' => ∃ k : Nat, x = k ∧ k ≤ l ∧ h' = h1 ∧ refsC [] rs = refsC ((rs.take k).map RefV.sum) (rs.drop k), fun x _ => (l - x).toNat, ⟨0, rfl, by omega, rfl, by simp⟩, ?_⟩
  rintro h2 _ ⟨k, rfl, hk, rfl, he⟩
  unfold F39_b5
  refine ⟨a, l, c, c2, br_of (fun ht => ?_) (fun hf => ?_)⟩
  · have hk' : k < l := by
      have : (k : Int) < (l : Int) := by simpa using ht
      omega
    obtain ⟨q, r, hri, ea, hrok, hc33, hc32, hsz⟩ := hr1.get hk'
    have hd := dropR_cons hri
    rw [hd] at he
    have bad2 : (r.size < 0 ∨ r.size > 2147483647) → F39_k7 (fun x h' => ∃ k : Nat, x = k ∧ k ≤ l ∧ h' = h2 ∧ refsC [] rs = refsC ((rs.take k).map RefV.sum) (rs.drop k)) (fun x _ => (l - x).toNat) (((l : Int) - (k : Int)).toNat) (at0 b1) (k : Int) true h2 fun v h' => v = .int .i64 (refsC [] rs) ∧ Ext h h' := fun hb => by
      unfold F39_k7
      refine br_of (fun _ => ⟨?_, s1.ext⟩) (fun e => by cases e)
      rw [he]; unfold refsC; rw [if_pos hb]; rfl
    unfold F39_k6
    refine ⟨a, l, c, c2, q, ea, by omega, by omega, r.size, by rw [Int.toNat_natCast]; exact hsz, br_of (fun e => bad2 (.inl (of_decide_eq_true e))) (fun e1 => ⟨a, l, c, c2, q, ea, by omega, by omega, r.size, by rw [Int.toNat_natCast]; exact hsz, ?_⟩)⟩
    have g1 := of_decide_eq_false e1
    by_cases g2 : r.size > 2147483647
    case pos => rw [decide_eq_true g2]; exact bad2 (.inr g2)
    rw [decide_eq_false g2]
    unfold F39_k7
    refine br_of (fun e => by cases e) (fun _ => ?_)
    unfold F39_k8
    rintro _ rfl
    refine ⟨fun x h' => ∃ j : Nat, x = j ∧ j ≤ k ∧ h' = h2 ∧ r.sum ∉ (rs.take j).map RefV.sum, fun x _ => (k - x).toNat, ⟨0, rfl, by omega, rfl, by simp⟩, ?_⟩
    rintro h3 _ ⟨j, rfl, hj, rfl, hno⟩
    unfold F39_b9
    refine br_of (fun htj => ?_) (fun hfj => ?_)
    · have hj' : j < k := by
        have : (j : Int) < (k : Int) := by simpa using htj
        omega
      obtain ⟨q', r', hri', ea', hrok', hc33', hc32', hsz'⟩ := hr1.get (show j < l by omega)
      unfold F39_k10
      refine ⟨a, l, c, c2, q', ea', by omega, by omega, (sumCells r'.sum).toArray, by simp [sumCells_len, hrok'.1], by rw [Int.toNat_natCast]; exact hc32', a, l, c, c2, q, ea, by omega, by omega, (sumCells r.sum).toArray, by simp [sumCells_len, hrok.1], by rw [Int.toNat_natCast]; exact hc32,
        decide (r'.sum = r.sum), fun w => keyed73.eq _ _ hrok' hrok w, eqg73, ?_⟩
      intro h4 hcl; obtain rfl := hcl.eq
      refine br_of (fun hb => ⟨?_, s1.ext⟩) (fun hb => ?_)
      · have hb' := of_decide_eq_true hb
        have hin : r.sum ∈ (rs.take k).map RefV.sum := by
          rw [← hb']
          exact List.mem_map.2 ⟨r', List.mem_of_getElem? (i := j) (by rw [List.getElem?_take, if_pos hj']; exact hri'), rfl⟩
        rw [he]; unfold refsC; rw [if_neg (fun e => e.elim g1 g2), if_pos hin]; rfl
      · have hb' := of_decide_eq_false hb
        unfold F39_k11
        rintro _ rfl
        rw [wrap_succ j _ hj' (by omega)]
        refine ⟨⟨j + 1, rfl, by omega, rfl, ?_⟩, less_succ _ _ hj'⟩
        rw [takeR_succ hri', List.map_append]
        intro hm
        rcases List.mem_append.1 hm with hm | hm
        · exact hno hm
        · simp at hm; exact hb' hm.symm
    · have hj' : j = k := by
        have : ¬ (j : Int) < (k : Int) := by simpa using hfj
        omega
      subst hj'
      unfold F39_k12
      rintro _ rfl
      rw [wrap_succ j _ hk' (by omega)]
      refine ⟨⟨j + 1, rfl, by omega, rfl, ?_⟩, less_succ _ _ hk'⟩
      rw [he, refsC_step _ _ _ (fun e => e.elim g1 g2) hno, takeR_succ hri, List.map_append]; rfl
  · have hk' : k = l := by
      have : ¬ (k : Int) < (l : Int) := by simpa using hf
      omega
    unfold F39_k13
    rw [List.drop_of_length_le (by omega)] at he
    exact ⟨by rw [he]; rfl, s1.ext⟩
end Go.Proofs.YtfknpbgneeefjaaDoor

namespace Go.Proofs.YtfknpbgneeefjaaDoor
open Go.Vc Go.Sha Go.Trail Go.Packs
set_option linter.unusedVariables false
set_option maxRecDepth 20000

theorem zeroC61 : (zeroC Tryd.prog 61).size = 4 := by kernel_rfl
theorem seq_names (s t : ByteArray) : seq s t = decide (lst s = lst t) := seq_lst s t

theorem closure_ok (p : PackV) (d : Hdr) (q : Addr) (nm : ByteArray) (h : Heap) (hq : Vc.cell h ((q.add 1).add 0) = some (.string nm)) :
    HEnt Tryd.prog 47 #[.agg #[.int .i64 p.owner, .string p.name, .string p.ver, .slice d.a d.l d.c], .pointer (some q)] h fun v h' => v = .bool (decide (lst p.name = lst nm)) ∧ Ext h h' := by
  refine F47_ent _ _ _ _ _ _ _ _ _ ?_
  unfold F47
  refine (St.start h).new fun b h1 s1 x1 _ => ⟨_, s1.cell2 0 rfl rfl, _, x1.some hq, ?_, x1⟩
  rw [seq_names]
theorem indexFunc_ok (a : Option Addr) (l c : Nat) (ps : List PackV) (ds : List Hdr) (q : Addr) (nm : ByteArray) (h : Heap) (hp : PacksAt h a l c ps ds) (hl : l < 9223372036854775808) (hq : Vc.cell h ((q.add 1).add 0) = some (.string nm)) :
    HEnt Tryd.prog 50 #[.slice a l c, .func (.func 47) #[] #[.pointer (some q)]] h fun v h' => (∃ n : Int, v = .int .i64 n ∧ (0 ≤ n ↔ lst nm ∈ ps.map fun p => lst p.name)) ∧ Ext h h' := by
  refine F50_ent _ _ _ _ _ _ ?_
  have hlen := hp.length
  unfold F50
  refine ⟨fun y h' => ∃ k : Nat, y = k ∧ k ≤ l ∧ lst nm ∉ ((ps.take k).map fun p => lst p.name) ∧ Ext h h', fun y _ => (l - y).toNat, ⟨0, rfl, by omega, by simp, Ext.refl h⟩, ?_⟩
  rintro h1 _ ⟨k, rfl, hk, hno, x1⟩
  unfold F50_b1
  refine br_of (fun ht => ?_) (fun hf => ?_)
  · have hk' : k < l := by
      have : (k : Int) < (l : Int) := by simpa using ht
      omega
    obtain ⟨b, o, p, d, hpi, hdi, rfl, pok, _, hc⟩ := (hp.grow x1).at_ hk'
    unfold F50_k2
    refine ⟨_, rfl, by omega, by omega, p.owner, p.name, p.ver, d.a, d.l, d.c, by rw [Int.toNat_natCast, add_mk, add_mk]; exact hc 0 _ rfl, by rw [Int.toNat_natCast, add_mk, add_mk]; exact hc 1 _ rfl, by rw [Int.toNat_natCast, add_mk, add_mk]; exact hc 2 _ rfl, by rw [Int.toNat_natCast, add_mk, add_mk]; exact hc 3 _ rfl, rfl, ?_⟩
    refine HEnt.use (closure_ok p d q nm h1 (x1.some hq)) ?_
    rintro _ h2 ⟨rfl, x2⟩
    refine ⟨_, rfl, br_of (fun he => ?_) (fun he => ?_)⟩
    · have he' := of_decide_eq_true he
      exact ⟨⟨k, rfl, fun _ => by rw [← he']; exact List.mem_map.2 ⟨p, List.mem_of_getElem? hpi, rfl⟩, fun _ => by omega⟩, x1.trans x2⟩
    · have he' := of_decide_eq_false he
      unfold F50_k3
      rw [wrap_succ k _ hk' hl]
      refine ⟨⟨k + 1, rfl, by omega, ?_, x1.trans x2⟩, less_succ _ _ hk'⟩
      rw [takeR_succ hpi, List.map_append]
      intro hm
      rcases List.mem_append.1 hm with hm | hm
      · exact hno hm
      · simp at hm; exact he' hm.symm
  · have hk' : k = l := by
      have : ¬ (k : Int) < (l : Int) := by simpa using hf
      omega
    rw [List.take_of_length_le (by omega)] at hno
    unfold F50_k4
    exact ⟨⟨-1, rfl, fun h => by omega, fun h => absurd h hno⟩, x1⟩
theorem containsFunc_ok (a : Option Addr) (l c : Nat) (ps : List PackV) (ds : List Hdr) (q : Addr) (nm : ByteArray) (h : Heap) (hp : PacksAt h a l c ps ds) (hl : l < 9223372036854775808) (hq : Vc.cell h ((q.add 1).add 0) = some (.string nm)) :
    HEnt Tryd.prog 46 #[.slice a l c, .func (.func 47) #[] #[.pointer (some q)]] h fun v h' => v = .bool (decide (lst nm ∈ ps.map fun p => lst p.name)) ∧ Ext h h' := by
  refine F46_ent _ _ _ _ _ _ ?_
  unfold F46
  refine HEnt.use (indexFunc_ok a l c ps ds q nm h hp hl hq) ?_
  rintro _ h1 ⟨⟨n, rfl, hi⟩, x1⟩
  refine ⟨n, rfl, ?_, x1⟩
  congr 1
  exact decide_eq_decide.2 hi

theorem packsC_step (seen : List (List Nat)) (n : Nat) (p : PackV) (t : List PackV) (h1 : ¬ (p.owner < 1 ∨ p.owner > 8)) (h2 : manC p.name p.ver p.refs = 0) (h3 : lst p.name ∉ seen) (h4 : ¬ n + p.refs.length > 16) :
    packsC seen n (p :: t) = packsC (seen ++ [lst p.name]) (n + p.refs.length) t := by
  conv => lhs; unfold packsC
  rw [if_neg h1, if_neg (fun e => e h2), if_neg h3, if_neg h4]

theorem packs_ok (a : Option Addr) (l c : Nat) (ps : List PackV) (ds : List Hdr) (h : Heap) (hp : PacksAt h a l c ps ds) (hl : l < 9223372036854775808) :
    HEnt Tryd.prog 23 #[.slice a l c] h fun v h' => v = .int .i64 (packsC [] 0 ps) ∧ Ext h h' := by
  refine F23_ent _ _ _ _ _ ?_
  have hlen := hp.length
  have hcap := hp.rows.cap
  unfold F23
  rintro _ rfl
  obtain ⟨I, hI⟩ : ∃ I : Int → Int → Heap → Prop, I = fun (x y : Int) h' => ∃ n k : Nat, x = n ∧ y = k ∧ k ≤ l ∧ n ≤ 16 ∧ Ext h h' ∧ packsC [] 0 ps = packsC ((ps.take k).map fun p => lst p.name) n (ps.drop k) := ⟨_, rfl⟩
  refine ⟨I, fun _ y _ => (l - y).toNat, by rw [hI]; exact ⟨0, 0, rfl, rfl, by omega, by omega, Ext.refl h, by simp⟩, ?_⟩
  intro h1 x3 x9 hinv
  rw [hI] at hinv
  obtain ⟨n, k, rfl, rfl, hk, hn, x1, he⟩ := hinv
  unfold F23_b1
  refine br_of (fun ht => ?_) (fun hf => ?_)
  · have hk' : k < l := by
      have : (k : Int) < (l : Int) := by simpa using ht
      omega
    obtain ⟨b, o, p, d, hpi, hdi, rfl, pok, hrefs, hc⟩ := (hp.grow x1).at_ hk'
    rw [dropR_cons hpi] at he
    unfold F23_k2
    refine ⟨_, rfl, by omega, by omega, p.owner, p.name, p.ver, d.a, d.l, d.c, by rw [Int.toNat_natCast, add_mk, add_mk]; exact hc 0 _ rfl, by rw [Int.toNat_natCast, add_mk, add_mk]; exact hc 1 _ rfl, by rw [Int.toNat_natCast, add_mk, add_mk]; exact hc 2 _ rfl, by rw [Int.toNat_natCast, add_mk, add_mk]; exact hc 3 _ rfl, rfl, ?_⟩
    refine (St.start h1).new fun b5 h2 s2 x2 hb5 => ?_
    refine s2.storeAll 0 rfl rfl zeroC61 (by intro u hu; simp at hu; rcases hu with rfl | rfl | rfl | rfl <;> rfl) fun h3 s3 o3 => ?_
    have x13 := s3.ext
    have bad : (p.owner < 1 ∨ p.owner > 8) → F23_k3 I (fun _ y _ => (l - y).toNat) (((l : Int) - (k : Int)).toNat) (some ⟨b, o, none⟩) l c (n : Int) (k : Int) (at0 b5) (some ⟨b, o, none⟩) l c (l : Int) (k : Int) true h3 fun v h' => v = .int .i64 (packsC [] 0 ps) ∧ Ext h h' := fun hb => by
      unfold F23_k3
      refine br_of (fun _ => ⟨?_, x1.trans x13⟩) (fun e => by cases e)
      rw [he]; unfold packsC; rw [if_pos hb]; rfl
    refine ⟨p.owner, s3.cell 0 rfl rfl, br_of (fun e => bad (.inl (of_decide_eq_true e))) (fun e1 => ⟨p.owner, s3.cell 0 rfl rfl, ?_⟩)⟩
    have g1 := of_decide_eq_false e1
    by_cases g2 : p.owner > 8
    case pos => rw [decide_eq_true g2]; exact bad (.inr g2)
    rw [decide_eq_false g2]
    have hown : ¬ (p.owner < 1 ∨ p.owner > 8) := fun e => e.elim g1 g2
    unfold F23_k3
    refine br_of (fun e => by cases e) (fun _ => ?_)
    unfold F23_k4
    refine ⟨p.name, p.ver, d.a, d.l, d.c, s3.cell2 0 rfl rfl, s3.cell2 0 rfl rfl, s3.cell2 0 rfl rfl, rfl, ?_⟩
    refine HEnt.use (man_ok p.name p.ver d.a d.l d.c p.refs h3 (hrefs.grow x13) pok.1 pok.2) ?_
    rintro _ h4 ⟨rfl, x4⟩
    have s4 := s3.grow x4
    refine ⟨_, rfl, br_of (fun e => ⟨?_, (x1.trans x13).trans x4⟩) (fun e => ?_)⟩
    · have hne : manC p.name p.ver p.refs ≠ 0 := by
        intro e0; rw [e0] at e; simp at e
      rw [he]
      unfold packsC
      rw [if_neg hown, if_pos hne]
    have hman : manC p.name p.ver p.refs = 0 := by
      have : ((manC p.name p.ver p.refs : Nat) : Int) = 0 := by simpa using e
      omega
    unfold F23_k5
    refine ⟨by omega, by omega, by omega, ?_⟩
    rw [cutAt0, Int.toNat_natCast, Nat.sub_zero, Nat.sub_zero]
    refine HEnt.use (containsFunc_ok _ k c (ps.take k) (ds.take k) (at0 b5) p.name h4 ((hp.grow ((x1.trans x13).trans x4)).take k hk) (by omega) (s4.cell2 0 rfl rfl)) ?_
    rintro _ h5 ⟨rfl, x5⟩
    have x15 := ((x1.trans x13).trans x4).trans x5
    have s5 := s4.grow x5
    refine ⟨_, rfl, br_of (fun e => ⟨?_, x15⟩) (fun e => ?_)⟩
    · rw [he]
      unfold packsC
      rw [if_neg hown, if_neg (fun e => e hman), if_pos (of_decide_eq_true e)]; rfl
    have hname := of_decide_eq_false e
    have hrl := manC_len hman
    have hdl : p.refs.length = d.l := hrefs.len
    unfold F23_k6
    refine ⟨d.a, d.l, d.c, s5.cell2 0 rfl rfl, ?_⟩
    rintro _ rfl
    have ew : IntKind.i64.wrap ((n : Int) + (d.l : Int)) = ((n + d.l : Nat) : Int) := by rw [i64_lt _ (by omega) (by omega)]; omega
    rw [ew]
    refine br_of (fun e => ⟨?_, x15⟩) (fun e => ?_)
    · have : ((n + d.l : Nat) : Int) > 16 := by simpa using e
      rw [he]
      unfold packsC
      rw [if_neg hown, if_neg (fun e => e hman), if_neg hname, if_pos (by omega)]; rfl
    · have g4 : ¬ ((n + d.l : Nat) : Int) > 16 := by simpa using e
      unfold F23_k7
      rw [wrap_succ k _ hk' hl, hI]
      refine ⟨⟨n + d.l, k + 1, rfl, rfl, by omega, by omega, x15, ?_⟩, less_succ _ _ hk'⟩
      rw [he, packsC_step _ _ _ _ hown hman hname (by omega), takeR_succ hpi, List.map_append, hdl]; rfl
  · have hk' : k = l := by
      have : ¬ (k : Int) < (l : Int) := by simpa using hf
      omega
    unfold F23_k8
    rw [List.drop_of_length_le (by omega)] at he
    exact ⟨by rw [he]; rfl, x1⟩
end Go.Proofs.YtfknpbgneeefjaaDoor

namespace Go.Proofs.YtfknpbgneeefjaaDoor
open Go.Vc Go.Sha Go.Trail Go.Packs
set_option linter.unusedVariables false
set_option maxRecDepth 20000

theorem refPacks_ok (a : Option Addr) (l c : Nat) (ps : List PackV) (ds : List Hdr) (h : Heap) (hp : PacksAt h a l c ps ds) (hl : l < 9223372036854775808) :
    HEnt Tryd.prog 34 #[.slice a l c] h fun v h' => v = .int .i64 (packsC [] 0 ps) ∧ Ext h h' := by
  refine F34_ent _ _ _ _ _ ?_
  have hlen := hp.length
  have hcap := hp.rows.cap
  unfold F34
  obtain ⟨I, hI⟩ : ∃ I : Int → Int → Heap → Prop, I = fun (x y : Int) h' => ∃ n k : Nat, x = n ∧ y = k ∧ k ≤ l ∧ n ≤ 16 ∧ Ext h h' ∧ packsC [] 0 ps = packsC ((ps.take k).map fun p => lst p.name) n (ps.drop k) := ⟨_, rfl⟩
  refine ⟨I, fun _ y _ => (l - y).toNat, by rw [hI]; exact ⟨0, 0, rfl, rfl, by omega, by omega, Ext.refl h, by simp⟩, ?_⟩
  intro h1 x3 x4 hinv
  rw [hI] at hinv
  obtain ⟨n, k, rfl, rfl, hk, hn, x1, he⟩ := hinv
  unfold F34_b1
  refine br_of (fun ht => ?_) (fun hf => ?_)
  · have hk' : k < l := by
      have : (k : Int) < (l : Int) := by simpa using ht
      omega
    obtain ⟨b, o, p, d, hpi, hdi, rfl, pok, hrefs, hc⟩ := (hp.grow x1).at_ hk'
    rw [dropR_cons hpi] at he
    have c0 : Vc.cell h1 (((⟨b, o, none⟩ : Addr).add ((k : Int).toNat * 4)).add 0) = some (.int .i64 p.owner) := by rw [Int.toNat_natCast, add_mk, add_mk]; exact hc 0 _ rfl
    have c1 : Vc.cell h1 ((((⟨b, o, none⟩ : Addr).add ((k : Int).toNat * 4)).add 1).add 0) = some (.string p.name) := by rw [Int.toNat_natCast, add_mk, add_mk, add_mk]; exact hc 1 _ rfl
    have c2 : Vc.cell h1 ((((⟨b, o, none⟩ : Addr).add ((k : Int).toNat * 4)).add 1).add 1) = some (.string p.ver) := by rw [Int.toNat_natCast, add_mk, add_mk, add_mk]; exact hc 2 _ rfl
    have c3 : Vc.cell h1 ((((⟨b, o, none⟩ : Addr).add ((k : Int).toNat * 4)).add 1).add 2) = some (.slice d.a d.l d.c) := by rw [Int.toNat_natCast, add_mk, add_mk, add_mk]; exact hc 3 _ rfl
    have bad : (p.owner < 1 ∨ p.owner > 8) → F34_k3 I (fun _ y _ => (l - y).toNat) (((l : Int) - (k : Int)).toNat) (some ⟨b, o, none⟩) l c (n : Int) (k : Int) true h1 fun v h' => v = .int .i64 (packsC [] 0 ps) ∧ Ext h h' := fun hb => by
      unfold F34_k3
      refine br_of (fun _ => ⟨?_, x1⟩) (fun e => by cases e)
      rw [he]; unfold packsC; rw [if_pos hb]; rfl
    unfold F34_k2
    refine ⟨_, rfl, by omega, by omega, p.owner, c0, br_of (fun e => bad (.inl (of_decide_eq_true e))) (fun e1 => ⟨_, rfl, by omega, by omega, p.owner, c0, ?_⟩)⟩
    have g1 := of_decide_eq_false e1
    by_cases g2 : p.owner > 8
    case pos => rw [decide_eq_true g2]; exact bad (.inr g2)
    rw [decide_eq_false g2]
    have hown : ¬ (p.owner < 1 ∨ p.owner > 8) := fun e => e.elim g1 g2
    unfold F34_k3
    refine br_of (fun e => by cases e) (fun _ => ?_)
    unfold F34_k4
    refine ⟨_, rfl, by omega, by omega, p.name, p.ver, d.a, d.l, d.c, c1, c2, c3, rfl, ?_⟩
    refine HEnt.use (refMan_ok p.name p.ver d.a d.l d.c p.refs h1 hrefs pok.1 pok.2) ?_
    rintro _ h4 ⟨rfl, x4⟩
    have x14 := x1.trans x4
    refine ⟨_, rfl, br_of (fun e => ⟨?_, x14⟩) (fun e => ?_)⟩
    · have hne : manC p.name p.ver p.refs ≠ 0 := by
        intro e0; rw [e0] at e; simp at e
      rw [he]
      unfold packsC
      rw [if_neg hown, if_pos hne]
    have hman : manC p.name p.ver p.refs = 0 := by
      have : ((manC p.name p.ver p.refs : Nat) : Int) = 0 := by simpa using e
      omega
    unfold F34_k5
    refine ⟨fun x h' => ∃ j : Nat, x = j ∧ j ≤ k ∧ h' = h4 ∧ lst p.name ∉ ((ps.take j).map fun p => lst p.name), fun x _ => (k - x).toNat, ⟨0, rfl, by omega, rfl, by simp⟩, ?_⟩
    rintro h5 _ ⟨j, rfl, hj, rfl, hno⟩
    unfold F34_b6
    refine br_of (fun htj => ?_) (fun hfj => ?_)
    · have hj' : j < k := by
        have : (j : Int) < (k : Int) := by simpa using htj
        omega
      obtain ⟨b', o', p', d', hpi', hdi', e', pok', hrefs', hc'⟩ := (hp.grow x14).at_ (show j < l by omega)
      cases e'
      unfold F34_k7
      refine ⟨_, rfl, by omega, by omega, p'.name, by rw [Int.toNat_natCast, add_mk, add_mk, add_mk]; exact hc' 1 _ rfl, _, rfl, by omega, by omega, p.name, x4.some c1, ?_⟩
      intro h6 hcl; obtain rfl := hcl.eq
      rw [seq_names]
      refine br_of (fun hb => ⟨?_, x14⟩) (fun hb => ?_)
      · have hb' := of_decide_eq_true hb
        have hin : lst p.name ∈ (ps.take k).map fun p => lst p.name := by
          rw [← hb']
          exact List.mem_map.2 ⟨p', List.mem_of_getElem? (i := j) (by rw [List.getElem?_take, if_pos hj']; exact hpi'), rfl⟩
        rw [he]
        unfold packsC
        rw [if_neg hown, if_neg (fun e => e hman), if_pos hin]; rfl
      · have hb' := of_decide_eq_false hb
        unfold F34_k8
        rw [wrap_succ j _ hj' (by omega)]
        refine ⟨⟨j + 1, rfl, by omega, rfl, ?_⟩, less_succ _ _ hj'⟩
        rw [takeR_succ hpi', List.map_append]
        intro hm
        rcases List.mem_append.1 hm with hm | hm
        · exact hno hm
        · simp at hm; exact hb' hm.symm
    · have hj' : j = k := by
        have : ¬ (j : Int) < (k : Int) := by simpa using hfj
        omega
      subst hj'
      have hrl := manC_len hman
      have hdl : p.refs.length = d.l := hrefs.len
      unfold F34_k9
      refine ⟨_, rfl, by omega, by omega, d.a, d.l, d.c, x4.some c3, ?_⟩
      have ew : IntKind.i64.wrap ((n : Int) + (d.l : Int)) = ((n + d.l : Nat) : Int) := by rw [i64_lt _ (by omega) (by omega)]; omega
      rw [ew]
      refine br_of (fun e => ⟨?_, x14⟩) (fun e => ?_)
      · have : ((n + d.l : Nat) : Int) > 16 := by simpa using e
        rw [he]
        unfold packsC
        rw [if_neg hown, if_neg (fun e => e hman), if_neg hno, if_pos (by omega)]; rfl
      · have g4 : ¬ ((n + d.l : Nat) : Int) > 16 := by simpa using e
        unfold F34_k10
        rw [wrap_succ j _ hk' hl, hI]
        refine ⟨⟨n + d.l, j + 1, rfl, rfl, by omega, by omega, x14, ?_⟩, less_succ _ _ hk'⟩
        rw [he, packsC_step _ _ _ _ hown hman hno (by omega), takeR_succ hpi, List.map_append, hdl]; rfl
  · have hk' : k = l := by
      have : ¬ (k : Int) < (l : Int) := by simpa using hf
      omega
    unfold F34_k11
    rw [List.drop_of_length_le (by omega)] at he
    exact ⟨by rw [he]; rfl, x1⟩

end Go.Proofs.YtfknpbgneeefjaaDoor
