import Derived.Test.YtfknpbgneeefjaaDoorManT
import Derived.Test.YtfknpbgneeefjaaDoorPlanShelf
import Derived.Test.YtfknpbgneeefjaaDoorVppB
import Derived.Test.YtfknpbgneeefjaaDoorVcN
import Derived.Test.YtfknpbgneeefjaaDoorVcT
import Derived.Test.YtfknpbgneeefjaaDoorVxpD

namespace Go.Proofs.YtfknpbgneeefjaaDoor.Ord
open Go.Vc Go.Sha Go.Trail Go.RowKit Go.Man
set_option linter.unusedVariables false
set_option linter.unusedSimpArgs false
set_option maxRecDepth 4000
theorem i64_lt (n : Int) (h : -9223372036854775808 ≤ n) (h' : n < 9223372036854775808) : IntKind.i64.wrap n = n := IntWalk.i64_in _ (by omega)
theorem seq_nil (s : ByteArray) : seq s ⟨#[]⟩ = decide (lst s = []) := seq_lst s _
theorem take_succ_getD (l : List Nat) (k : Nat) (hk : k < l.length) : l.take (k + 1) = l.take k ++ [l.getD k 0] := by
  rw [List.take_succ_eq_append_getElem hk]; simp [List.getD_eq_getElem?_getD, List.getElem?_eq_getElem hk]
theorem str_nil : str [] = (⟨#[]⟩ : ByteArray) := rfl
/-- a list of texts, as values -/
def vals (ps : List (List Nat)) : List Value := ps.map fun p => .string (str p)
theorem vals_len (ps : List (List Nat)) : (vals ps).length = ps.length := by simp [vals]
theorem vals_get {ps : List (List Nat)} {i : Nat} (hi : i < ps.length) : (vals ps)[i]? = some (.string (str (ps.getD i []))) := by
  simp [vals, List.getElem?_map, List.getElem?_eq_getElem hi, List.getD_eq_getElem?_getD]
theorem vals_one (ps : List (List Nat)) : ∀ u ∈ vals ps, one u = true := by
  intro u hu
  obtain ⟨p, _, rfl⟩ := List.mem_map.1 hu
  rfl
theorem vals_append (ps qs : List (List Nat)) : vals (ps ++ qs) = vals ps ++ vals qs := by simp [vals]
theorem cells9 : Tryd.prog.cellsOf 9 = 1 := by kernel_rfl
theorem zero9 : (((Tryd.prog.info? 9).bind (·.zero)).getD undef).cells.size = 1 := by kernel_rfl
theorem bytes9 : Tryd.prog.bytesOf 9 = 16 := by kernel_rfl
theorem str_cut (s : ByteArray) (i j : Nat) : s.extract i j = str (((lst s).drop i).take (j - i)) := by rw [← lst_cut, str_lst]
theorem refPieces_ok (s : ByteArray) (hs : s.size < 2 ^ 40) (h : Heap) : HEnt Tryd.prog 56 #[.string s] h fun v h' => ∃ a l c, v = .slice a l c ∧ OwnAt 9 h h' a l c (vals (pcs (lst s))) := by
  refine F56_ent _ _ _ ?_
  have ls := lst_len s
  unfold F56
  rintro _ rfl _ rfl
  refine ⟨fun a l c from_ i h' => ∃ (f k : Nat) (done : List (List Nat)), from_ = f ∧ i = k ∧ f ≤ k ∧ k ≤ s.size ∧ done.length ≤ k ∧ pcs (lst s) = done ++ pcs ((lst s).drop f) ∧ (∀ c ∈ ((lst s).drop f).take (k - f), c ≠ 46) ∧ OwnAt 9 h h' a l c (vals done),
    fun _ _ _ _ i _ => (s.size - i).toNat, ⟨0, 0, [], rfl, rfl, by omega, by omega, by simp, rfl, by simp, OwnAt.nil 9 (Ext.refl h)⟩, ?_⟩
  rintro h1 a l c _ _ ⟨f, k, done, rfl, rfl, hfk, hk, hdl, hp, hno, o⟩
  have hol := o.len
  rw [vals_len] at hol
  unfold F56_b1
  refine br_of (fun ht => ?_) (fun hf => ?_)
  · have hk' : k < s.size := by
      have : (k : Int) < (s.size : Int) := by simpa using ht
      omega
    have e1 : IntKind.i64.wrap ((k : Int) + 1) = ((k + 1 : Nat) : Int) := by rw [i64_lt _ (by omega) (by omega)]; omega
    have cut : ((lst s).drop f).take (k + 1 - f) = ((lst s).drop f).take (k - f) ++ [(lst s).getD k 0] := by
      rw [show k + 1 - f = (k - f) + 1 by omega, List.take_succ_eq_append_getElem (by rw [List.length_drop]; omega), List.getElem_drop, List.getD_eq_getElem?_getD, List.getElem?_eq_getElem (by omega)]
      simp [show f + (k - f) = k by omega]
    have dk : (lst s).drop f = ((lst s).drop f).take (k - f) ++ (lst s).getD k 0 :: (lst s).drop (k + 1) := by
      conv => lhs; rw [← List.take_append_drop (k - f) ((lst s).drop f)]
      rw [List.drop_drop, show f + (k - f) = k by omega]
      congr 1
      rw [List.drop_eq_getElem_cons (by omega), List.getD_eq_getElem?_getD, List.getElem?_eq_getElem (by omega)]; rfl
    unfold F56_k2
    rw [bt_lst]
    refine ⟨by omega, by omega, br_of (fun hc => ?_) (fun hc => ?_)⟩
    · have hc' : (lst s).getD k 0 = 46 := by
        have : (((lst s).getD k 0 : Nat) : Int) = 46 := by simpa using hc
        omega
      refine ⟨by omega, by omega, by omega, by decide, newK_intro fun h2 n2 x2 s2 => ?_⟩
      rw [Int.toNat_natCast, Int.toNat_natCast, str_cut] at n2
      refine appK_at (m := 1) (news := vals [((lst s).drop f).take (k - f)]) cells9 zero9 (o.grow x2) (srcK_slice rfl (fun ad e => by cases e; exact cells_blk0 n2) (by rintro ⟨⟩)) rfl (vals_one _) (by rw [bytes9]; omega) fun a3 c3 h3 o3 k3 => ?_
      rintro _ rfl
      unfold F56_k3
      rintro _ rfl
      rw [e1]
      refine ⟨⟨k + 1, k + 1, done ++ [((lst s).drop f).take (k - f)], rfl, rfl, by omega, by omega, by simp; omega, ?_, by simp, by rw [vals_append]; exact o3⟩, by show ((s.size : Int) - ((k + 1 : Nat) : Int)).toNat < ((s.size : Int) - (k : Int)).toNat; omega⟩
      rw [hp]
      conv => lhs; rw [dk, hc', pcs_dot _ _ hno]
      simp
    · have hc' : (lst s).getD k 0 ≠ 46 := by
        have : ¬ (((lst s).getD k 0 : Nat) : Int) = 46 := by simpa using hc
        omega
      unfold F56_k3
      rintro _ rfl
      rw [e1]
      refine ⟨⟨f, k + 1, done, rfl, rfl, by omega, by omega, by omega, hp, ?_, o⟩, by show ((s.size : Int) - ((k + 1 : Nat) : Int)).toNat < ((s.size : Int) - (k : Int)).toNat; omega⟩
      rw [cut]
      intro d hd
      rcases List.mem_append.1 hd with hd | hd
      · exact hno d hd
      · simp at hd; rw [hd]; exact hc'
  · have hk' : k = s.size := by
      have : ¬ (k : Int) < (s.size : Int) := by simpa using hf
      omega
    unfold F56_k4
    refine ⟨by omega, by omega, by omega, by decide, newK_intro fun h2 n2 x2 s2 => ?_⟩
    rw [Int.toNat_natCast, Int.toNat_natCast, str_cut] at n2
    refine appK_at (m := 1) (news := vals [((lst s).drop f).take (s.size - f)]) cells9 zero9 (o.grow x2) (srcK_slice rfl (fun ad e => by cases e; exact cells_blk0 n2) (by rintro ⟨⟩)) rfl (vals_one _) (by rw [bytes9]; omega) fun a3 c3 h3 o3 k3 => ?_
    refine ⟨a3, _, c3, rfl, ?_⟩
    subst hk'
    have hw : ((lst s).drop f).take (s.size - f) = (lst s).drop f := List.take_of_length_le (by rw [List.length_drop]; omega)
    rw [hw] at o3 hno
    rw [hp, pcs_whole _ hno, vals_append]
    exact o3

def MaxAt (h : Heap) : Prop := ∃ m, Vc.cell h ⟨0, 0, none⟩ = some (.int .i64 m)
theorem MaxAt.ext {h h' : Heap} (k : MaxAt h) (x : Ext h h') : MaxAt h' := by obtain ⟨m, e⟩ := k; exact ⟨m, x.some e⟩
/-! ### digits -/
def allD (x : List Nat) : Bool := x.all fun c => decide (48 ≤ c ∧ c ≤ 57)
def digitsR (x : List Nat) : List Nat × Bool := if allD x then (trim x, decide (x ≠ [])) else ([], false)
theorem digitsR_2 (x : List Nat) : (digitsR x).2 = digs x := by
  unfold digitsR digs
  cases h : allD x
  · rw [show (x.all fun c => decide (48 ≤ c ∧ c ≤ 57)) = false from h]; simp
  · rw [show (x.all fun c => decide (48 ≤ c ∧ c ≤ 57)) = true from h]; simp
theorem digitsR_1 {x : List Nat} (h : digs x = true) : (digitsR x).1 = trim x := by
  unfold digs at h
  unfold digitsR
  rw [if_pos (by simp only [Bool.and_eq_true] at h; exact h.2)]
theorem allD_take {x : List Nat} {k : Nat} (hk : k < x.length) : allD (x.take (k + 1)) = (allD (x.take k) && decide (48 ≤ x.getD k 0 ∧ x.getD k 0 ≤ 57)) := by
  rw [take_succ_getD _ _ hk]; simp [allD]
theorem allD_not {x : List Nat} {k : Nat} (hk : k < x.length) (h : ¬ (48 ≤ x.getD k 0 ∧ x.getD k 0 ≤ 57)) : allD x = false := by
  cases e : allD x
  · rfl
  · exfalso; apply h
    unfold allD at e
    rw [List.all_eq_true] at e
    have := e (x.getD k 0) (by rw [List.getD_eq_getElem?_getD, List.getElem?_eq_getElem hk]; exact List.getElem_mem _)
    exact of_decide_eq_true this
theorem trimB (l : List UInt8) : (Lib.trimLeftB l 48).map UInt8.toNat = trim (l.map UInt8.toNat) := by
  induction l with
  | nil => rfl
  | cons a l ih =>
    unfold Lib.trimLeftB trim at *
    simp only [List.map_cons, List.dropWhile_cons]
    by_cases h : a = 48
    · subst h; simpa using ih
    · have h2 : a.toNat ≠ 48 := fun e => h (UInt8.toNat_inj.1 e)
      simp [h, h2]

theorem mk_str (u : List UInt8) : (⟨u.toArray⟩ : ByteArray) = str (u.map UInt8.toNat) := by
  rw [← str_lst ⟨u.toArray⟩]; rfl
theorem trim_ok (s : ByteArray) (h : Heap) : HEnt Tryd.prog 84 #[.string s, .string ⟨#[48]⟩] h fun v h' => v = .string (str (trim (lst s))) ∧ h' = h := by
  refine HEnt.of_body Tryd.func84 (by kernel_rfl) (by kernel_rfl) fun w hw => ?_
  refine (Tryd.strings_TrimLeft_one s 48 (by decide) w).mono fun e w' ⟨he, hw'⟩ => ?_
  subst hw'
  refine ⟨_, he, Kin.refl _, ?_, hw⟩
  rw [mk_str, trimB]; rfl
theorem digits_ok (s : ByteArray) (hs : s.size < 2 ^ 40) (h : Heap) : HEnt Tryd.prog 68 #[.string s] h fun v h' => v = .tuple #[.string (str (digitsR (lst s)).1), .bool (digitsR (lst s)).2] ∧ h' = h := by
  refine F68_ent _ _ _ ?_
  have ls := lst_len s
  unfold F68
  refine ⟨fun x h' => ∃ k : Nat, x = k ∧ k ≤ s.size ∧ allD ((lst s).take k) = true ∧ h' = h, fun x _ => (s.size - x).toNat, ⟨0, rfl, by omega, rfl, rfl⟩, ?_⟩
  rintro h1 _ ⟨k, rfl, hk, ha, rfl⟩
  unfold F68_b1
  refine br_of (fun ht => ?_) (fun hf => ?_)
  · have hk' : k < s.size := by
      have : (k : Int) < (s.size : Int) := by simpa using ht
      omega
    have hkl : k < (lst s).length := by omega
    have e1 : IntKind.i64.wrap ((k : Int) + 1) = ((k + 1 : Nat) : Int) := by rw [i64_lt _ (by omega) (by omega)]; omega
    have key : ∀ b : Bool, (b = true ↔ ¬ (48 ≤ (lst s).getD k 0 ∧ (lst s).getD k 0 ≤ 57)) → F68_k3 (fun x h' => ∃ k : Nat, x = k ∧ k ≤ s.size ∧ allD ((lst s).take k) = true ∧ h' = h1) (fun x _ => (s.size - x).toNat) (((s.size : Int) - (k : Int)).toNat) s (s.size : Int) (k : Int) b h1 fun v h' => v = .tuple #[.string (str (digitsR (lst s)).1), .bool (digitsR (lst s)).2] ∧ h' = h1 := by
      intro b hb
      unfold F68_k3
      refine br_of (fun hbt => ⟨?_, rfl⟩) (fun hbf => ?_)
      · have := allD_not hkl (hb.1 hbt)
        unfold digitsR; rw [if_neg (by rw [this]; simp)]; rfl
      · unfold F68_k4
        rw [e1]
        have hd : 48 ≤ (lst s).getD k 0 ∧ (lst s).getD k 0 ≤ 57 := Decidable.byContradiction fun hn => by rw [hb.2 hn] at hbf; cases hbf
        exact ⟨⟨k + 1, rfl, by omega, by rw [allD_take hkl, ha, decide_eq_true hd]; rfl, rfl⟩, by show ((s.size : Int) - ((k + 1 : Nat) : Int)).toNat < ((s.size : Int) - (k : Int)).toNat; omega⟩
    unfold F68_k2
    rw [bt_lst]
    refine ⟨by omega, by omega, br_of (fun hlt => key true ?_) (fun hge => ⟨by omega, by omega, key _ ?_⟩)⟩
    · have : (((lst s).getD k 0 : Nat) : Int) < 48 := by simpa using hlt
      simp only [true_iff]; omega
    · have : ¬ (((lst s).getD k 0 : Nat) : Int) < 48 := by simpa using hge
      rw [decide_eq_true_eq]
      omega
  · have hk' : k = s.size := by
      have : ¬ (k : Int) < (s.size : Int) := by simpa using hf
      omega
    unfold F68_k5
    refine HEnt.use (trim_ok s h1) ?_
    rintro _ _ ⟨rfl, rfl⟩
    refine ⟨_, rfl, ?_, rfl⟩
    rw [List.take_of_length_le (by omega)] at ha
    rw [seq_nil]
    unfold digitsR; rw [if_pos ha]
    by_cases h0 : lst s = [] <;> simp [h0]
theorem refDigits_ok (s : ByteArray) (hs : s.size < 2 ^ 40) (h : Heap) : HEnt Tryd.prog 57 #[.string s] h fun v h' => v = .bool (digs (lst s)) ∧ h' = h := by
  refine F57_ent _ _ _ ?_
  have ls := lst_len s
  unfold F57
  rintro _ rfl
  refine ⟨fun x h' => ∃ k : Nat, x = k ∧ k ≤ s.size ∧ allD ((lst s).take k) = true ∧ h' = h, fun x _ => (s.size - x).toNat, ⟨0, rfl, by omega, rfl, rfl⟩, ?_⟩
  rintro h1 _ ⟨k, rfl, hk, ha, rfl⟩
  unfold F57_b1
  refine br_of (fun ht => ?_) (fun hf => ?_)
  · have hk' : k < s.size := by
      have : (k : Int) < (s.size : Int) := by simpa using ht
      omega
    have hkl : k < (lst s).length := by omega
    have e1 : IntKind.i64.wrap ((k : Int) + 1) = ((k + 1 : Nat) : Int) := by rw [i64_lt _ (by omega) (by omega)]; omega
    have key : ∀ b : Bool, (b = true ↔ ¬ (48 ≤ (lst s).getD k 0 ∧ (lst s).getD k 0 ≤ 57)) → F57_k3 (fun x h' => ∃ k : Nat, x = k ∧ k ≤ s.size ∧ allD ((lst s).take k) = true ∧ h' = h1) (fun x _ => (s.size - x).toNat) (((s.size : Int) - (k : Int)).toNat) s (k : Int) b h1 fun v h' => v = .bool (digs (lst s)) ∧ h' = h1 := by
      intro b hb
      unfold F57_k3
      refine br_of (fun hbt => ⟨?_, rfl⟩) (fun hbf => ?_)
      · have := allD_not hkl (hb.1 hbt)
        unfold digs; rw [show ((lst s).all fun c => decide (48 ≤ c ∧ c ≤ 57)) = false from this]; simp
      · unfold F57_k4
        rintro _ rfl
        rw [e1]
        have hd : 48 ≤ (lst s).getD k 0 ∧ (lst s).getD k 0 ≤ 57 := Decidable.byContradiction fun hn => by rw [hb.2 hn] at hbf; cases hbf
        exact ⟨⟨k + 1, rfl, by omega, by rw [allD_take hkl, ha, decide_eq_true hd]; rfl, rfl⟩, by show ((s.size : Int) - ((k + 1 : Nat) : Int)).toNat < ((s.size : Int) - (k : Int)).toNat; omega⟩
    unfold F57_k2
    rw [bt_lst]
    refine ⟨by omega, by omega, br_of (fun hlt => key true ?_) (fun hge => ⟨by omega, by omega, key _ ?_⟩)⟩
    · have : (((lst s).getD k 0 : Nat) : Int) < 48 := by simpa using hlt
      simp only [true_iff]; omega
    · have : ¬ (((lst s).getD k 0 : Nat) : Int) < 48 := by simpa using hge
      rw [decide_eq_true_eq]
      omega
  · have hk' : k = s.size := by
      have : ¬ (k : Int) < (s.size : Int) := by simpa using hf
      omega
    unfold F57_k5
    rw [List.take_of_length_le (by omega)] at ha
    rw [seq_nil]
    refine ⟨?_, rfl⟩
    unfold digs; rw [show ((lst s).all fun c => decide (48 ≤ c ∧ c ≤ 57)) = true from ha]
    by_cases h0 : lst s = [] <;> simp [h0]
/-! ### two texts beside one another -/
theorem compareB : ∀ x y : List UInt8, Lib.compareBytes x y = cmpL (x.map UInt8.toNat) (y.map UInt8.toNat)
  | [], [] => rfl
  | [], _ :: _ => rfl
  | _ :: _, [] => rfl
  | a :: x, b :: y => by
    have ih := compareB x y
    simp only [cmpL] at ih
    simp only [List.map_cons, Lib.compareBytes, cmpL, lexO, ncmp, UInt8.lt_iff_toNat_lt]
    by_cases h1 : a.toNat < b.toNat
    · simp [h1]
    · by_cases h2 : b.toNat < a.toNat
      · simp [h1, h2]
      · simp [h1, h2, ih]
theorem compare_ok (s t : ByteArray) (h : Heap) : HEnt Tryd.prog 69 #[.string s, .string t] h fun v h' => v = .int .i64 (cmpL (lst s) (lst t)) ∧ h' = h := by
  refine HEnt.of_body Tryd.func69 (by kernel_rfl) (by kernel_rfl) fun w hw => ?_
  refine (Tryd.strings_Compare s t w).mono fun e w' ⟨he, hw'⟩ => ?_
  subst hw'
  refine ⟨_, he, Kin.refl _, ?_, hw⟩
  rw [compareB]; rfl
theorem cmpL_ltB : ∀ x y : List Nat, cmpL x y = if ltB x y then -1 else if decide (x = y) then 0 else 1
  | [], [] => rfl
  | [], _ :: _ => rfl
  | _ :: _, [] => rfl
  | a :: x, b :: y => by
    have ih := cmpL_ltB x y
    simp only [cmpL] at ih
    simp only [cmpL, lexO, ltB, ncmp]
    by_cases h1 : a < b
    · simp [h1, show a ≠ b by omega]
    · by_cases h2 : b < a
      · simp [h1, h2, show a ≠ b by omega]
      · obtain rfl : a = b := by omega
        simp [ih]
theorem less_ok (s t : ByteArray) (h : Heap) : HEnt Tryd.prog 58 #[.string s, .string t] h fun v h' => v = .int .i64 (cmpL (lst s) (lst t)) ∧ h' = h := by
  refine F58_ent _ _ _ _ ?_
  unfold F58
  have e := cmpL_ltB (lst s) (lst t)
  rw [slt_lst]
  refine br_of (fun h1 => ⟨by rw [e, if_pos h1], rfl⟩) (fun h1 => ?_)
  unfold F58_k1
  rw [slt_lst, seq_lst, h1]
  refine br_of (fun h2 => ⟨by rw [e, if_neg (by rw [h1]; simp), if_neg (by simpa using h2)], rfl⟩) (fun h2 => ?_)
  unfold F58_k2
  exact ⟨by rw [e, if_neg (by rw [h1]; simp), if_pos (by simpa using h2)], rfl⟩
theorem piece_ok (s t : ByteArray) (hs : s.size < 2 ^ 40) (ht : t.size < 2 ^ 40) (h : Heap) : HEnt Tryd.prog 54 #[.string s, .string t] h fun v h' => v = .int .i64 (pieceC (lst s) (lst t)) ∧ h' = h := by
  refine F54_ent _ _ _ _ ?_
  unfold F54
  refine HEnt.use (digits_ok s hs h) ?_
  rintro _ _ ⟨rfl, rfl⟩
  refine ⟨_, _, rfl, HEnt.use (digits_ok t ht _) ?_⟩
  rintro _ h9 ⟨rfl, e9⟩
  subst e9
  refine ⟨_, _, rfl, ?_⟩
  rw [digitsR_2, digitsR_2]
  have e := pieceC_eq (lst s) (lst t)
  have trim_lt : ∀ u : ByteArray, ∀ c ∈ trim (lst u), c < 256 := fun u c hc => lst_lt u c ((List.dropWhile_sublist _).subset hc)
  refine br_of (fun hne => ?_) (fun heq => ?_)
  · have hne' : digs (lst s) ≠ digs (lst t) := by simpa using hne
    rw [if_pos hne'] at e
    refine br_of (fun h1 => ⟨by rw [e, if_pos h1], rfl⟩) (fun h1 => ?_)
    unfold F54_k1
    exact ⟨by rw [e, if_neg (by rw [h1]; simp)], rfl⟩
  · have heq' : digs (lst s) = digs (lst t) := by simpa using heq
    rw [if_neg (by simpa using heq')] at e
    have whole : ∀ h1, cmpL (lst s) (lst t) = pieceC (lst s) (lst t) → F54_k5 s t h1 fun v h' => v = .int .i64 (pieceC (lst s) (lst t)) ∧ h' = h1 := fun h1 e1 => by
      unfold F54_k5
      refine HEnt.use (compare_ok s t h1) ?_
      rintro _ _ ⟨rfl, rfl⟩
      exact ⟨_, rfl, by rw [e1], rfl⟩
    refine br_of (fun h1 => ?_) (fun h1 => ?_)
    · have h1t : digs (lst t) = true := heq' ▸ h1
      rw [digitsR_1 h1, digitsR_1 h1t]
      have es : (str (trim (lst s))).size = (trim (lst s)).length := str_size _
      have et : (str (trim (lst t))).size = (trim (lst t)).length := str_size _
      unfold F54_k2
      rw [es, et]
      refine br_of (fun h2 => ?_) (fun h2 => ?_)
      · have h2' : (trim (lst s)).length ≠ (trim (lst t)).length := by
          have : ((trim (lst s)).length : Int) ≠ ((trim (lst t)).length : Int) := by simpa using h2
          omega
        rw [if_pos ⟨h1, h2'⟩] at e
        refine br_of (fun h3 => ?_) (fun h3 => ?_)
        · have : (trim (lst s)).length < (trim (lst t)).length := by
            have : ((trim (lst s)).length : Int) < ((trim (lst t)).length : Int) := by simpa using h3
            omega
          exact ⟨by rw [e, if_pos this], rfl⟩
        · have : ¬ (trim (lst s)).length < (trim (lst t)).length := by
            have : ¬ ((trim (lst s)).length : Int) < ((trim (lst t)).length : Int) := by simpa using h3
            omega
          unfold F54_k3
          exact ⟨by rw [e, if_neg this], rfl⟩
      · have h2' : (trim (lst s)).length = (trim (lst t)).length := by
          have : ((trim (lst s)).length : Int) = ((trim (lst t)).length : Int) := by simpa using h2
          omega
        rw [if_neg (fun h => h.2 h2')] at e
        refine br_of (fun _ => ?_) (fun h3 => by rw [h3] at h1; cases h1)
        unfold F54_k4
        rw [seq_lst, lst_str _ (trim_lt s), lst_str _ (trim_lt t)]
        refine br_of (fun h4 => ?_) (fun h4 => ?_)
        · rw [if_pos ⟨h1, by simpa using h4⟩] at e
          refine HEnt.use (compare_ok _ _ h9) ?_
          rintro _ _ ⟨rfl, rfl⟩
          refine ⟨_, rfl, ?_, rfl⟩
          rw [lst_str _ (trim_lt s), lst_str _ (trim_lt t), e]
        · rw [if_neg (fun h => h.2 (by simpa using h4))] at e
          exact whole h9 e.symm
    · rw [if_neg (fun h => by rw [h.1] at h1; cases h1), if_neg (fun h => by rw [h.1] at h1; cases h1)] at e
      unfold F54_k2
      refine br_of (fun h2 => by cases h2) (fun _ => br_of (fun h2 => by rw [h2] at h1; cases h1) (fun _ => ?_))
      unfold F54_k4
      exact br_of (fun h2 => by cases h2) (fun _ => whole h9 e.symm)
end Go.Proofs.YtfknpbgneeefjaaDoor.Ord

namespace Go.Proofs.YtfknpbgneeefjaaDoor.Ord
open Go.Vc Go.Sha Go.Trail Go.RowKit Go.Man
set_option linter.unusedVariables false
set_option maxRecDepth 4000
def u8 (n : Nat) : Value := .int .u8 n
theorem u8_one (bs : List Nat) : ∀ u ∈ bs.map u8, one u = true := by
  intro u hu
  obtain ⟨n, _, rfl⟩ := List.mem_map.1 hu
  rfl
theorem bytesV_lst (s : ByteArray) : bytesV s = (lst s).map u8 := by
  have := bytesV_str (lst s) (lst_lt s)
  rw [str_lst] at this; exact this
theorem cells5 : Tryd.prog.cellsOf 5 = 1 := by kernel_rfl
theorem zero5 : (((Tryd.prog.info? 5).bind (·.zero)).getD undef).cells.size = 1 := by kernel_rfl
theorem bytes5 : Tryd.prog.bytesOf 5 = 1 := by kernel_rfl
/-- an append to a slice of one's own, what it keeps told sharply -/
theorem app5 {h0 h : Heap} {l c m : Nat} {a : Option Addr} {x : Value} {bs new : List Nat} {K : Option Addr → Nat → Nat → Heap → Prop}
    (o : OwnAt 5 h0 h a l c (bs.map u8)) (src : srcK h 1 x m (new.map u8)) (hnew : new.length = m) (room : l + m < 2 ^ 40)
    (hK : ∀ a' c' h', OwnAt 5 h0 h' a' (l + m) c' ((bs ++ new).map u8) → Keep (fun k => a = some ⟨k, 0, none⟩ ∨ h.size ≤ k) h h' → (∀ k, a' = some ⟨k, 0, none⟩ → a = some ⟨k, 0, none⟩ ∨ h.size ≤ k) → K a' (l + m) c' h') : appK Tryd.prog 5 h a l c x K := by
  refine appK_ownN cells5 zero5 o.own src (by rw [List.length_map, hnew]) (u8_one _) (by rw [bytes5]; omega) fun a' c' h' o' k' d' => hK a' c' h' ⟨by rw [List.map_append]; exact o', fun k e => ?_, ?_⟩ k' d'
  · rcases d' k e with e | e
    · exact o.new k e
    · have := o.ext.size; omega
  · have : Keep (h0.size ≤ ·) h0 h' := (o.ext.keep _).trans (k'.mono fun i _ e => by
      rcases e with e | e
      · exact o.new _ e
      · have := o.ext.size; omega)
    exact this.ext fun i hi e => by omega
/-- an append that must move -/
theorem app5_grow {h0 h : Heap} {l c m : Nat} {a : Option Addr} {x : Value} {bs new : List Nat} {K : Option Addr → Nat → Nat → Heap → Prop}
    (hx : Ext h0 h) (hl : bs.length = l) (hc : ∀ ad, a = some ad → CellsAt h ad (bs.map u8)) (hn : a = none → bs = []) (src : srcK h 1 x m (new.map u8)) (hnew : new.length = m) (hgt : c < l + m) (room : l + m < 2 ^ 40)
    (hK : ∀ a' c' h', OwnAt 5 h0 h' a' (l + m) c' ((bs ++ new).map u8) → Ext h h' → K a' (l + m) c' h') : appK Tryd.prog 5 h a l c x K := by
  refine ⟨m, new.map u8, by rw [cells5]; exact src, fun hle => by omega, fun _ => ⟨bs.map u8, by rw [cells5, List.length_map]; omega, hc, fun e => by rw [hn e]; rfl, growslice_fits hgt (by rw [bytes5]; omega), ?_⟩⟩
  rintro c' b' h' hc' ⟨rfl, rfl⟩
  refine hK _ _ _ ⟨.inr ⟨by simp; omega, hc', h.size, _, rfl, Nat.zero_le _, Array.getElem?_push_size, ?_, ?_⟩, fun k e => by cases e; exact hx.size, hx.trans (Ext.push _ _)⟩ (Ext.push _ _)
  · simp [Builtin.zeroCells, zero5, hnew, hl]; omega
  · simp only [Array.toList_append, List.map_append]
    rw [List.take_append_of_le_length (by simp [hnew, hl]), List.take_of_length_le (by simp [hnew, hl])]

/-- a number by sevens of bits -/
def varF : Nat → Nat → List Nat
  | 0, n => [n]
  | f + 1, n => if n < 128 then [n] else (n % 128 + 128) :: varF f (n / 128)
def varB (n : Nat) : List Nat := varF 10 n
theorem varF_len : ∀ f n, (varF f n).length ≤ f + 1
  | 0, n => by simp [varF]
  | f + 1, n => by
    unfold varF
    split
    · simp
    · have := varF_len f (n / 128)
      simp only [List.length_cons]; omega
theorem varF_pos : ∀ f n, 0 < (varF f n).length
  | 0, n => by simp [varF]
  | f + 1, n => by
    unfold varF
    split <;> simp
theorem or128 : ∀ m : Nat, m < 256 → m ||| 128 = m % 128 + 128 := by decide +kernel
theorem orI128 (m : Nat) : orI .u8 (IntKind.u8.wrap (m : Int)) 128 = ((m % 128 + 128 : Nat) : Int) := by
  rw [u8_wrap]
  have h2 : m % 256 ||| 128 = m % 128 + 128 := by rw [or128 _ (Nat.mod_lt _ (by decide))]; omega
  have e : (BitVec.ofInt 8 ((m % 256 : Nat) : Int) ||| BitVec.ofInt 8 (128 : Int)).toNat = m % 256 ||| 128 := by
    rw [BitVec.ofInt_natCast, BitVec.toNat_or, BitVec.toNat_ofNat, Nat.mod_eq_of_lt (show m % 256 < 2 ^ 8 by omega)]
    rfl
  show IntKind.u8.wrap ((BitVec.ofInt 8 ((m % 256 : Nat) : Int) ||| BitVec.ofInt 8 (128 : Int)).toNat : Int) = _
  rw [e, h2, u8_wrap, Nat.mod_eq_of_lt (by omega)]
theorem shr7 (m : Nat) : shrI .u64 (m : Int) 7 = ((m / 128 : Nat) : Int) := by
  unfold shrI
  rw [show min ((7 : Int).toNat) IntKind.u64.bits = 7 from rfl]
  rw [Int.fdiv_eq_ediv_of_nonneg _ (by decide)]
  simp
theorem own_len {h0 h : Heap} {a : Option Addr} {l c : Nat} {bs : List Nat} (o : OwnAt 5 h0 h a l c (bs.map u8)) : bs.length = l := by
  have := o.len; rwa [List.length_map] at this
theorem own_cells {h0 h : Heap} {a : Option Addr} {l c : Nat} {bs : List Nat} (o : OwnAt 5 h0 h a l c (bs.map u8)) : (∀ ad, a = some ad → CellsAt h ad (bs.map u8)) ∧ (a = none → bs = []) := by
  rcases o.own with ⟨rfl, rfl, rfl, e⟩ | o
  · exact ⟨fun ad e' => (by cases e'), fun _ => List.map_eq_nil_iff.1 e⟩
  · refine ⟨fun ad e => ?_, fun e => ?_⟩
    · obtain ⟨b, rfl, _, _, h⟩ := o.cells ad e
      exact h
    · obtain ⟨b, cs, e2, _⟩ := o.ex
      rw [e] at e2; cases e2
theorem mkCells_size (z : Array Value) (n : Nat) : (mkCells z n).size = n := by simp [mkCells]
theorem padded_ok (s : ByteArray) (n : Nat) (hs : s.size ≤ n) (hn : n < 2 ^ 40) (h : Heap) : HEnt Tryd.prog 59 #[.string s, .int .i64 n] h fun v h' => v = .string (str (pad (lst s) n)) ∧ Ext h h' := by
  refine F59_ent _ _ _ _ ?_
  have ls := lst_len s
  unfold F59
  rw [Int.toNat_natCast, Nat.mul_one]
  refine ⟨by omega, by omega, by omega, by omega, newK_intro fun h1 hb1 x1 _ => ?_⟩
  rintro _ rfl
  have o1 : OwnAt 5 h h1 (some (at0 h.size)) 0 n (([] : List Nat).map u8) := ⟨.inr ⟨rfl, Nat.zero_le _, h.size, _, rfl, Nat.zero_le _, hb1, by rw [mkCells_size]; exact Nat.le_refl _, by simp⟩, fun k e => by cases e; exact Nat.le_refl _, x1⟩
  refine ⟨fun a l c x h' => ∃ k : Nat, x = k ∧ s.size ≤ k ∧ k ≤ n ∧ OwnAt 5 h h' a l c ((List.replicate (k - s.size) 48).map u8), fun _ _ _ x _ => (n - x).toNat, ⟨s.size, rfl, Nat.le_refl _, hs, by rw [Nat.sub_self]; exact o1⟩, ?_⟩
  rintro h2 a l c _ ⟨k, rfl, hk1, hk2, o⟩
  have hol := own_len o
  rw [List.length_replicate] at hol
  unfold F59_b1
  refine br_of (fun ht => ?_) (fun hf => ?_)
  · have hk' : k < n := by
      have : (k : Int) < (n : Int) := by simpa using ht
      omega
    have e1 : IntKind.i64.wrap ((k : Int) + 1) = ((k + 1 : Nat) : Int) := by rw [i64_lt _ (by omega) (by omega)]; omega
    unfold F59_k2
    refine ⟨by decide, newK_intro fun h3 n3 x3 _ => ?_⟩
    refine app5 (m := 1) (new := [48]) (o.grow x3) (srcK_slice rfl (fun ad e => by cases e; exact cells_blk0 n3) (by rintro ⟨⟩)) rfl (by omega) fun a' c' h4 o4 _ _ => ?_
    rintro _ rfl
    rw [e1]
    refine ⟨⟨k + 1, rfl, by omega, by omega, ?_⟩, by show ((n : Int) - ((k + 1 : Nat) : Int)).toNat < ((n : Int) - (k : Int)).toNat; omega⟩
    rw [show k + 1 - s.size = (k - s.size) + 1 by omega, List.replicate_succ']
    exact o4
  · have hk' : k = n := by
      have : ¬ (k : Int) < (n : Int) := by simpa using hf
      omega
    subst hk'
    unfold F59_k3
    refine app5 (m := s.size) (new := lst s) o ⟨rfl, (bytesV_lst s).symm⟩ ls (by omega) fun a' c' h4 o4 _ _ => ?_
    have hc := own_cells o4
    have hl := own_len o4
    have e : List.replicate (k - s.size) 48 ++ lst s = pad (lst s) k := by unfold pad; rw [ls]
    rw [e] at hc hl
    refine ⟨str (pad (lst s) k), by rw [str_size]; exact hl, fun ad e => ?_, fun e => by rw [← hl, hc.2 e]; rfl, rfl, o4.ext⟩
    rw [bytesV_str]
    · exact hc.1 ad e
    · intro x hx
      unfold pad at hx
      rcases List.mem_append.1 hx with hx | hx
      · rw [(List.mem_replicate.1 hx).2]; decide
      · exact lst_lt s x hx
end Go.Proofs.YtfknpbgneeefjaaDoor.Ord

namespace Go.Proofs.YtfknpbgneeefjaaDoor.Ord
open Go.Vc Go.Sha Go.Trail Go.RowKit Go.Man
set_option linter.unusedVariables false
set_option linter.unusedSimpArgs false
set_option maxRecDepth 4000
/-- the first piece; what is behind its dot; whether there is one -/
def cutL : List Nat → List Nat × List Nat × Bool
  | [] => ([], [], false)
  | c :: r => if c = 46 then ([], r, true) else (c :: (cutL r).1, (cutL r).2.1, (cutL r).2.2)
theorem cutL_pcs : ∀ l, pcs l = if (cutL l).2.2 then (cutL l).1 :: pcs (cutL l).2.1 else [(cutL l).1]
  | [] => rfl
  | c :: r => by
    have ih := cutL_pcs r
    obtain ⟨p, ps, hp⟩ := pcs_ne r
    rw [pcs_cons hp]
    unfold cutL
    by_cases hc : c = 46
    · simp [hc, hp]
    · rw [if_neg hc, if_neg hc]
      rw [hp] at ih
      cases hb : (cutL r).2.2
      · rw [hb] at ih; simp at ih ⊢; exact ih
      · rw [hb] at ih; simp at ih ⊢; exact ih
theorem cutL_len : ∀ l, (cutL l).1.length ≤ l.length ∧ (cutL l).2.1.length ≤ l.length ∧ ((cutL l).2.2 = true → (cutL l).2.1.length < l.length)
  | [] => by simp [cutL]
  | c :: r => by
    obtain ⟨h1, h2, h3⟩ := cutL_len r
    unfold cutL
    split
    · simp
    · simp only [List.length_cons]
      refine ⟨by omega, by omega, fun h => ?_⟩
      have := h3 h; omega
theorem cutL_lt {l : List Nat} (h : ∀ c ∈ l, c < 256) : (∀ c ∈ (cutL l).1, c < 256) ∧ ∀ c ∈ (cutL l).2.1, c < 256 := by
  induction l with
  | nil => simp [cutL]
  | cons a r ih =>
    have ih := ih fun c hc => h c (List.mem_cons_of_mem _ hc)
    unfold cutL
    split
    · exact ⟨by simp, fun c hc => h c (List.mem_cons_of_mem _ hc)⟩
    · refine ⟨fun c hc => ?_, ih.2⟩
      rcases List.mem_cons.1 hc with rfl | hc
      · exact h _ (List.mem_cons_self ..)
      · exact ih.1 c hc
theorem index_eq (l : List UInt8) : Lib.index (46 :: l) [46] = 0 := by
  unfold Lib.index; rw [if_pos (by simp [List.isPrefixOf])]
theorem index_ne (b : UInt8) (l : List UInt8) (h : b ≠ 46) : Lib.index (b :: l) [46] = if Lib.index l [46] == -1 then -1 else Lib.index l [46] + 1 := by
  conv => lhs; unfold Lib.index
  rw [if_neg]
  simp [List.isPrefixOf]; exact fun e => h e.symm
theorem cut_u8 : ∀ l : List UInt8, (Lib.cut l [46]).1.map UInt8.toNat = (cutL (l.map UInt8.toNat)).1 ∧ (Lib.cut l [46]).2.1.map UInt8.toNat = (cutL (l.map UInt8.toNat)).2.1 ∧ (Lib.cut l [46]).2.2 = (cutL (l.map UInt8.toNat)).2.2
  | [] => by simp [Lib.cut, Lib.index, cutL]
  | a :: l => by
    have ih := cut_u8 l
    have ge := Lib.index_ge l [46]
    simp only [List.map_cons, cutL]
    by_cases ha : a = 46
    · subst ha
      simp [Lib.cut, index_eq]
    · have h2 : a.toNat ≠ 46 := fun e => ha (UInt8.toNat_inj.1 e)
      rw [if_neg h2]
      unfold Lib.cut at ih ⊢
      rw [index_ne a l ha]
      by_cases hi : Lib.index l [46] = -1
      · rw [if_neg (by omega)] at ih
        simp only [hi] at ih ⊢
        simp at ih ⊢
        exact ih
      · have h0 : 0 ≤ Lib.index l [46] := by omega
        rw [if_pos h0] at ih
        have e : (if (Lib.index l [46] == -1) = true then (-1 : Int) else Lib.index l [46] + 1) = Lib.index l [46] + 1 := by rw [if_neg (by simpa using hi)]
        rw [e, if_pos (by omega), show (Lib.index l [46] + 1).toNat = (Lib.index l [46]).toNat + 1 by omega]
        simp only [List.take_succ_cons, List.map_cons]
        refine ⟨by rw [ih.1], ?_, ih.2.2⟩
        rw [← ih.2.1]
        congr 1
theorem cut_ok (s : ByteArray) (hs : s.size < 2 ^ 31) (h : Heap) (hm : MaxAt h) : HEnt Tryd.prog 67 #[.string s, .string ⟨#[46]⟩] h fun v h' => v = .tuple #[.string (str (cutL (lst s)).1), .string (str (cutL (lst s)).2.1), .bool (cutL (lst s)).2.2] ∧ h' = h := by
  refine HEnt.of_body Tryd.func67 (by kernel_rfl) (by kernel_rfl) fun w hw => ?_
  obtain ⟨m, hm⟩ := hm
  refine (Tryd.strings_Cut s ⟨#[46]⟩ m w (by omega) (by show Vc.cell w.heap _ = _; rw [hw]; exact hm)).mono fun e w' ⟨he, n, hw'⟩ => ?_
  subst hw'
  refine ⟨_, he, ⟨rfl, rfl, rfl⟩, ?_, hw⟩
  obtain ⟨c1, c2, c3⟩ := cut_u8 s.data.toList
  show Value.tuple #[.string ⟨(Lib.cut s.data.toList [46]).1.toArray⟩, .string ⟨(Lib.cut s.data.toList [46]).2.1.toArray⟩, .bool (Lib.cut s.data.toList [46]).2.2] = _
  rw [mk_str, mk_str, c1, c2, c3]; rfl
theorem count_ok (s : ByteArray) (h : Heap) : HEnt Tryd.prog 55 #[.string s, .string ⟨#[46]⟩] h fun v h' => v = .int .i64 ((lst s).count 46) ∧ h' = h := by
  refine HEnt.of_body Tryd.func55 (by kernel_rfl) (by kernel_rfl) fun w hw => ?_
  refine (Tryd.strings_Count_one s 46 w).mono fun e w' ⟨he, hw'⟩ => ?_
  subst hw'
  refine ⟨_, he, Kin.refl _, ?_, hw⟩
  have : Lib.countByte s.data.toList 46 = (lst s).count 46 := by
    unfold Lib.countByte lst
    rw [List.count_eq_countP, List.count_eq_countP, List.countP_map]
    apply List.countP_congr
    intro a _
    simp only [Function.comp, beq_iff_eq]
    exact ⟨fun e => by rw [e]; rfl, fun e => UInt8.toNat_inj.1 e⟩
  rw [this]
def tl (a : List Nat) : List (List Nat) := if (cutL a).2.2 then pcs (cutL a).2.1 else []
theorem pcs_tl (a : List Nat) : pcs a = (cutL a).1 :: tl a := by
  rw [cutL_pcs]; unfold tl; split <;> rfl
theorem order_head (a b : List Nat) : orderC a b = if pieceC (cutL a).1 (cutL b).1 = 0 then lexO pieceC (tl a) (tl b) else pieceC (cutL a).1 (cutL b).1 := by
  unfold orderC; rw [pcs_tl a, pcs_tl b]; rfl
structure OSt (H : Heap) (rec_ : LoopState → Option Code → Obj) (l b4 qa qb : Nat) (A B a b : List Nat) (h : Heap) : Prop where
  keep : Keep (fun j => j = l ∨ j = b4 ∨ j = qa ∨ j = qb) H h
  recd : h[l]? = some (rec_ .ready none)
  res : h[b4]? = some (.cells #[.int .i64 0] 3 (0, 0))
  ca : h[qa]? = some (.cells #[.string (str a)] 9 (0, 0))
  cb : h[qb]? = some (.cells #[.string (str b)] 9 (0, 0))
  la : a.length ≤ A.length ∧ ∀ c ∈ a, c < 256
  lb : b.length ≤ B.length ∧ ∀ c ∈ b, c < 256
  eqv : orderC A B = orderC a b
  cnt : (pcs A).length + (pcs b).length = (pcs B).length + (pcs a).length
structure ODn (H : Heap) (rec_ : LoopState → Option Code → Obj) (l b4 qa qb : Nat) (A B : List Nat) (h : Heap) : Prop where
  keep : Keep (fun j => j = l ∨ j = b4 ∨ j = qa ∨ j = qb) H h
  recd : h[l]? = some (rec_ .done (some .ret))
  res : h[b4]? = some (.cells #[.int .i64 (orderC A B)] 3 (0, 0))
theorem oround_ok {H : Heap} {rec_ : LoopState → Option Code → Obj} {l b4 qa qb : Nat} {A B a b : List Nat} {h : Heap} (st : OSt H rec_ l b4 qa qb A B a b h) (hA : A.length < 2 ^ 31) (hB : B.length < 2 ^ 31)
    (n1 : b4 ≠ l) (n2 : qa ≠ l) (n3 : qb ≠ l) :
    F33_r1 rec_ l (at0 b4) (str (cutL a).1) (str (cutL b).1) h fun v h' => (v = .bool true ∧ pieceC (cutL a).1 (cutL b).1 = 0 ∧ OSt H rec_ l b4 qa qb A B a b h') ∨ (v = .bool false ∧ ODn H rec_ l b4 qa qb A B h') := by
  obtain ⟨kp, hr, hres, ha, hb, ⟨la, la2⟩, ⟨lb, lb2⟩, he, hc⟩ := st
  unfold F33_r1
  refine ⟨hr, hr, ?_⟩
  rintro h1 e1
  have k1 : Keep (fun j => j = l) h h1 := e1 ▸ keep_set _
  have r1 : h1[l]? = some (rec_ .busy none) := e1 ▸ set_same hr
  have res1 := k1.blk hres n1
  have ca1 := k1.blk ha n2
  have cb1 := k1.blk hb n3
  have kp1 := kp.trans (k1.mono fun j _ hj => .inl hj : Keep (fun j => j = l ∨ j = b4 ∨ j = qa ∨ j = qb) h h1)
  clear e1
  have lx := cutL_len a
  have ly := cutL_len b
  refine HEnt.use (piece_ok _ _ (by rw [str_size]; omega) (by rw [str_size]; omega) h1) ?_
  rintro _ h2 ⟨rfl, e2⟩
  subst e2
  rw [lst_str _ (cutL_lt la2).1, lst_str _ (cutL_lt lb2).1]
  refine ⟨_, rfl, br_of (fun hne => ?_) (fun heq => ⟨r1, fun h3 e3 => .inl ⟨rfl, ?_⟩⟩)⟩
  · have hne' : pieceC (cutL a).1 (cutL b).1 ≠ 0 := by simpa using hne
    refine store1 res1 rfl fun h3 k3 s3 c3 => ⟨k3.blk r1 (Ne.symm n1), fun h4 e4 => .inr ⟨rfl, ?_⟩⟩
    have k4 : Keep (fun j => j = l) h3 h4 := e4 ▸ keep_set _
    refine ⟨(kp1.trans (k3.mono fun j _ hj => .inr (.inl hj) : Keep (fun j => j = l ∨ j = b4 ∨ j = qa ∨ j = qb) h2 h3)).trans (k4.mono fun j _ hj => .inl hj), e4 ▸ set_same (k3.blk r1 (Ne.symm n1)), ?_⟩
    have := k4.blk c3 n1
    rw [he, order_head, if_neg hne']; exact this
  · have heq' : pieceC (cutL a).1 (cutL b).1 = 0 := by simpa using heq
    have k3 : Keep (fun j => j = l) h2 h3 := e3 ▸ keep_set _
    exact ⟨heq', ⟨kp1.trans (k3.mono fun j _ hj => .inl hj), e3 ▸ set_same r1, k3.blk res1 n1, k3.blk ca1 n2, k3.blk cb1 n3, ⟨la, la2⟩, ⟨lb, lb2⟩, he, hc⟩⟩
def msr (qa : Nat) (h : Heap) : Nat := match Vc.cell h (at0 qa) with
  | some (.string s) => s.size
  | _ => 0
theorem pairs_ok {H : Heap} {rec_ : LoopState → Option Code → Obj} {l b4 qa qb : Nat} {A B : List Nat} (hA : A.length < 2 ^ 31) (hB : B.length < 2 ^ 31) (n1 : b4 ≠ qa) (n2 : b4 ≠ qb) (n3 : qa ≠ qb) (n4 : qa ≠ l) (n5 : qb ≠ l)
    (hmax : ∀ h', Keep (fun j => j = l ∨ j = b4 ∨ j = qa ∨ j = qb) H h' → MaxAt h')
    (hy : ∀ a b h, OSt H rec_ l b4 qa qb A B a b h → HYield Tryd.prog l #[.string (str (cutL a).1), .string (str (cutL b).1)] h fun v h' => (v = .bool true ∧ pieceC (cutL a).1 (cutL b).1 = 0 ∧ OSt H rec_ l b4 qa qb A B a b h') ∨ (v = .bool false ∧ ODn H rec_ l b4 qa qb A B h'))
    (a0 b0 : List Nat) (h : Heap) (h0 : OSt H rec_ l b4 qa qb A B a0 b0 h) :
    HEnt Tryd.prog 66 #[.func (.yield l) #[] #[], .pointer (some (at0 qa)), .pointer (some (at0 qb))] h fun v h' => ODn H rec_ l b4 qa qb A B h' ∨ ∃ a b, OSt H rec_ l b4 qa qb A B a b h' ∧ pieceC (cutL a).1 (cutL b).1 = 0 ∧ ((cutL a).2.2 = false ∨ (cutL b).2.2 = false) := by
  refine F66_ent _ _ _ _ _ ?_
  unfold F66
  refine ⟨fun h' => ∃ a b, OSt H rec_ l b4 qa qb A B a b h', msr qa, ⟨a0, b0, h0⟩, ?_⟩
  rintro h1 ⟨a, b, st⟩
  have em : msr qa h1 = a.length := by unfold msr; rw [cell_of st.ca]; exact str_size a
  unfold F66_b1
  refine ⟨_, cell_of st.ca, HEnt.use (cut_ok _ (by rw [str_size]; have := st.la.1; omega) h1 (hmax h1 st.keep)) ?_⟩
  rintro _ h2 ⟨rfl, e2⟩
  subst e2
  refine ⟨_, _, _, rfl, _, cell_of st.cb, HEnt.use (cut_ok _ (by rw [str_size]; have := st.lb.1; omega) h2 (hmax h2 st.keep)) ?_⟩
  rintro _ h3 ⟨rfl, e3⟩
  subst e3
  refine ⟨_, _, _, rfl, ?_⟩
  rw [lst_str _ st.la.2, lst_str _ st.lb.2]
  refine HYield.use (hy a b h3 st) ?_
  rintro _ h4 (⟨rfl, hp, st4⟩ | ⟨rfl, dn⟩)
  rotate_left
  · refine ⟨_, rfl, br_of (fun _ => ?_) (fun e => by cases e)⟩
    unfold F66_k2
    exact br_of (fun _ => .inl dn) (fun e => by cases e)
  refine ⟨_, rfl, br_of (fun e => by cases e) (fun _ => br_of (fun h5 => ?_) (fun h5 => ?_))⟩
  · unfold F66_k2
    exact br_of (fun _ => .inr ⟨a, b, st4, hp, .inl (by simpa using h5)⟩) (fun e => by cases e)
  unfold F66_k2
  refine br_of (fun h6 => .inr ⟨a, b, st4, hp, .inr (by simpa using h6)⟩) (fun h6 => ?_)
  have ta : (cutL a).2.2 = true := by simpa using h5
  have tb : (cutL b).2.2 = true := by simpa using h6
  obtain ⟨kp, hr, hres, ha, hb, ⟨la, la2⟩, ⟨lb, lb2⟩, he, hc⟩ := st4
  have lx := cutL_len a
  have ly := cutL_len b
  unfold F66_k3
  refine store1 ha rfl fun h7 k7 s7 c7 => store1 (k7.blk hb (Ne.symm n3)) rfl fun h8 k8 s8 c8 => ?_
  have c78 := k8.blk c7 n3
  refine ⟨⟨(cutL a).2.1, (cutL b).2.1, ?_⟩, ?_⟩
  · refine ⟨(kp.trans (k7.mono fun j _ hj => .inr (.inr (.inl hj)))).trans (k8.mono fun j _ hj => .inr (.inr (.inr hj))), k8.blk (k7.blk hr (Ne.symm n4)) (Ne.symm n5), k8.blk (k7.blk hres n1) n2, c78, c8, ⟨by omega, (cutL_lt la2).2⟩, ⟨by omega, (cutL_lt lb2).2⟩, ?_, ?_⟩
    · rw [he, order_head, if_pos hp]; unfold tl; rw [if_pos ta, if_pos tb]; rfl
    · have e1 := congrArg List.length (pcs_tl a)
      have e2 := congrArg List.length (pcs_tl b)
      unfold tl at e1 e2
      rw [if_pos ta] at e1
      rw [if_pos tb] at e2
      simp only [List.length_cons] at e1 e2
      omega
  · rw [em]
    unfold msr; rw [cell_of c78]
    show (str _).size < _
    rw [str_size]; exact lx.2.2 ta
theorem zero3 : zeroC Tryd.prog 3 = #[.int .i64 0] := by kernel_rfl
theorem order_ok (s t : ByteArray) (hs : s.size < 2 ^ 31) (ht : t.size < 2 ^ 31) (h : Heap) (hm : MaxAt h) : HEnt Tryd.prog 33 #[.string s, .string t] h fun v h' => v = .int .i64 (orderC (lst s) (lst t)) ∧ Ext h h' := by
  refine F33_ent _ _ _ _ ?_
  unfold F33
  rw [zero3]
  refine newK_intro fun h1 hb1 y1 e1 => ?_
  refine HEnt.use (F53_ent s t h1 (fun v h' => v = .func (.func 66) #[] #[.pointer (some (at0 h1.size)), .pointer (some (at0 (h1.size + 1)))] ∧ Ext h1 h' ∧ h'[h1.size]? = some (.cells #[.string s] 9) ∧ h'[h1.size + 1]? = some (.cells #[.string t] 9)) ?_) ?_
  · unfold F53
    refine newK_intro fun h2 hb2 y2 e2 => newK_intro fun h3 hb3 y3 e3 => ?_
    rw [e2]
    exact ⟨rfl, y2.trans y3, y3.blk hb2, by rw [← e2]; exact hb3⟩
  rintro _ h2 ⟨rfl, y2, ca, cb⟩
  refine ⟨_, rfl, at0 h1.size, at0 (h1.size + 1), rfl, ?_⟩
  rintro rec_ b l h3 hb hl y3 hmark hrec hno hyl
  have z1 := y1.size
  have z3 := y3.size
  have q1 := blk_lt ca
  have q2 := blk_lt cb
  have ls := lst_len s
  have lt_ := lst_len t
  have hres3 := y3.blk (y2.blk hb1)
  have ext3 := (y1.trans y2).trans y3
  have old : ∀ {h' : Heap}, Keep (fun j => j = l ∨ j = h.size ∨ j = h1.size ∨ j = h1.size + 1) h3 h' → MaxAt h' ∧ Ext h h' ∧ h'[b]? = some (.deferred (some [])) := fun {h'} k => by
    have xx : Ext h h' := Keep.since ext3 k fun j hj e => by omega
    exact ⟨hm.ext xx, xx, k.blk hmark (by omega)⟩
  have st0 : OSt h3 rec_ l h.size h1.size (h1.size + 1) (lst s) (lst t) (lst s) (lst t) h3 :=
    ⟨Keep.refl _ _, hrec, hres3, by rw [str_lst]; exact y3.blk ca, by rw [str_lst]; exact y3.blk cb, ⟨Nat.le_refl _, lst_lt s⟩, ⟨Nat.le_refl _, lst_lt t⟩, rfl, by omega⟩
  have after : ∀ (h' h'' : Heap) (o : Obj), Keep (fun j => j = l ∨ j = h.size ∨ j = h1.size ∨ j = h1.size + 1) h3 h' → h'' = h'.setIfInBounds l o →
      Keep (fun j => j = l ∨ j = h.size ∨ j = h1.size ∨ j = h1.size + 1) h3 h'' ∧ Keep (fun j => j = l) h' h'' := fun h' h'' o k e => by
    have ks : Keep (fun j => j = l) h' h'' := e ▸ keep_set _
    exact ⟨k.trans (ks.mono fun j _ hj => .inl hj), ks⟩
  -- the way out, with the answer in its place
  have out : ∀ (h5 : Heap), Ext h h5 → h5[b]? = some (.deferred (some [])) → h5[h.size]? = some (.cells #[.int .i64 (orderC (lst s) (lst t))] 3 (0, 0)) →
      h5[b]? = some (.deferred (some [])) ∧ ∀ h6, h6 = Array.setIfInBounds h5 b (.deferred none) → ∃ xr0 : Int, Vc.cell h6 (at0 h.size) = some (.int .i64 xr0) ∧ (fun v h' => v = Value.int .i64 (orderC (lst s) (lst t)) ∧ Ext h h') (Value.int .i64 xr0) h6 := by
    intro h5 x5 hbk hr
    refine ⟨hbk, ?_⟩
    rintro h6 e6
    have k6 : Keep (fun j => j = b) h5 h6 := e6 ▸ keep_set _
    exact ⟨_, cell_of (k6.blk hr (by omega)), rfl, e6 ▸ set_ext x5 (by omega) _⟩
  refine HEnt.mono (pairs_ok (H := h3) (rec_ := rec_) (l := l) (b4 := h.size) (qa := h1.size) (qb := h1.size + 1) (A := lst s) (B := lst t) (by omega) (by omega) (by omega) (by omega) (by omega) (by omega) (by omega) (fun h' k => (old k).1)
    (fun a b h' st => hyl _ _ h' _ (oround_ok st (by omega) (by omega) (by omega) (by omega) (by omega))) (lst s) (lst t) h3 st0) ?_
  rintro v h4 (dn | ⟨a, b', st, hp, hend⟩)
  · refine ⟨.done, some .ret, dn.recd, by simp, fun h5 e5 => ?_⟩
    obtain ⟨kp, ks⟩ := after h4 h5 _ dn.keep e5
    obtain ⟨_, w2, w3⟩ := old kp
    exact out h5 w2 w3 (ks.blk dn.res (by omega))
  · refine ⟨.ready, none, st.recd, by simp, fun h5 e5 => ?_⟩
    obtain ⟨kp, ks⟩ := after h4 h5 _ st.keep e5
    obtain ⟨w1, w2, w3⟩ := old kp
    have res5 := ks.blk st.res (show h.size ≠ l by omega)
    show F33_k2 b s t (at0 h.size) h5 (fun v h' => v = Value.int .i64 (orderC (lst s) (lst t)) ∧ Ext h h')
    have e0 : orderC (lst s) (lst t) = lexO pieceC (tl a) (tl b') := by rw [st.eqv, order_head, if_pos hp]
    have ea := congrArg List.length (pcs_tl a)
    have eb := congrArg List.length (pcs_tl b')
    have ec := st.cnt
    rw [pcs_len (lst s), pcs_len (lst t), ea, eb] at ec
    simp only [List.length_cons] at ec
    have tl0 : tl a = [] ∨ tl b' = [] := by
      rcases hend with e | e
      · left; unfold tl; rw [if_neg (by rw [e]; simp)]
      · right; unfold tl; rw [if_neg (by rw [e]; simp)]
    have put : ∀ z : Int, z = orderC (lst s) (lst t) → storeK 1 h5 (at0 h.size) (Value.int .i64 z) fun h3 => h3[b]? = some (.deferred (some [])) ∧ ∀ h4, h4 = Array.setIfInBounds h3 b (.deferred none) → ∃ xr0 : Int, Vc.cell h4 (at0 h.size) = some (Value.int .i64 xr0) ∧ (fun v h' => v = Value.int .i64 (orderC (lst s) (lst t)) ∧ Ext h h') (Value.int .i64 xr0) h4 := by
      rintro z rfl
      exact store1 res5 rfl fun h6 k6 s6 c6 => out h6 (Keep.since w2 k6 fun j hj e => by omega) (k6.blk w3 (by omega)) c6
    unfold F33_k2
    refine HEnt.use (count_ok s h5) ?_
    rintro _ h6 ⟨rfl, e6⟩
    subst e6
    refine ⟨_, rfl, HEnt.use (count_ok t h6) ?_⟩
    rintro _ h7 ⟨rfl, e7⟩
    subst e7
    refine ⟨_, rfl, br_of (fun hlt => put (-1) ?_) (fun hge => br_of (fun hgt => put 1 ?_) (fun hle => ?_))⟩
    · have hlt' : ((lst s).count 46 : Int) < ((lst t).count 46 : Int) := by simpa using hlt
      rw [e0]
      cases h1 : tl a with
      | nil =>
        cases h2 : tl b' with
        | nil => rw [h1, h2] at ec; simp at ec; omega
        | cons x r => rfl
      | cons x r =>
        rcases tl0 with h | h
        · rw [h1] at h; cases h
        · rw [h1, h] at ec; simp at ec; omega
    · have hgt' : ((lst s).count 46 : Int) > ((lst t).count 46 : Int) := by simpa using hgt
      rw [e0]
      cases h2 : tl b' with
      | nil =>
        cases h1 : tl a with
        | nil => rw [h1, h2] at ec; simp at ec; omega
        | cons x r => rfl
      | cons x r =>
        rcases tl0 with h | h
        · rw [h2, h] at ec; simp at ec; omega
        · rw [h2] at h; cases h
    · have hge' : ¬ ((lst s).count 46 : Int) < ((lst t).count 46 : Int) := by simpa using hge
      have hle' : ¬ ((lst s).count 46 : Int) > ((lst t).count 46 : Int) := by simpa using hle
      unfold F33_k3
      refine put 0 ?_
      rw [e0]
      rcases tl0 with h | h
      · rw [h] at ec ⊢
        have : tl b' = [] := List.eq_nil_of_length_eq_zero (by simp at ec; omega)
        rw [this]; rfl
      · rw [h] at ec ⊢
        have : tl a = [] := List.eq_nil_of_length_eq_zero (by simp at ec; omega)
        rw [this]; rfl
end Go.Proofs.YtfknpbgneeefjaaDoor.Ord

namespace Go.Proofs.YtfknpbgneeefjaaDoor.Ord
open Go.Vc Go.Sha Go.Trail Go.RowKit Go.Man
set_option linter.unusedVariables false
set_option linter.unusedSimpArgs false
set_option maxRecDepth 4000
theorem pcs_short (l : List Nat) : (pcs l).length ≤ l.length + 1 := by rw [pcs_len]; have := List.count_le_length (a := 46) (l := l); omega
theorem pcs_each : ∀ (l : List Nat), ∀ p ∈ pcs l, p.length ≤ l.length ∧ ∀ c ∈ p, c ∈ l
  | [] => by simp [pcs]
  | c :: r => by
    obtain ⟨p, ps, hp⟩ := pcs_ne r
    have ih := pcs_each r
    rw [hp] at ih
    rw [pcs_cons hp]
    intro q hq
    split at hq
    · rcases List.mem_cons.1 hq with rfl | hq
      · simp
      · have := ih q hq
        exact ⟨by simp; omega, fun d hd => List.mem_cons_of_mem _ (this.2 d hd)⟩
    · rcases List.mem_cons.1 hq with rfl | hq
      · have := ih p (List.mem_cons_self ..)
        refine ⟨by simp; omega, fun d hd => ?_⟩
        rcases List.mem_cons.1 hd with rfl | hd
        · exact List.mem_cons_self ..
        · exact List.mem_cons_of_mem _ (this.2 d hd)
      · have := ih q (List.mem_cons_of_mem _ hq)
        exact ⟨by simp; omega, fun d hd => List.mem_cons_of_mem _ (this.2 d hd)⟩
theorem getD_mem {ps : List (List Nat)} {i : Nat} (hi : i < ps.length) : ps.getD i [] ∈ ps := by
  rw [List.getD_eq_getElem?_getD, List.getElem?_eq_getElem hi]; exact List.getElem_mem _
theorem lexO_drop {xs ys : List (List Nat)} {k : Nat} (hx : k < xs.length) (hy : k < ys.length) : lexO pieceC (xs.drop k) (ys.drop k) = if pieceC (xs.getD k []) (ys.getD k []) = 0 then lexO pieceC (xs.drop (k + 1)) (ys.drop (k + 1)) else pieceC (xs.getD k []) (ys.getD k []) := by
  rw [List.drop_eq_getElem_cons hx, List.drop_eq_getElem_cons hy, List.getD_eq_getElem?_getD, List.getElem?_eq_getElem hx, List.getD_eq_getElem?_getD, List.getElem?_eq_getElem hy]; rfl
theorem refOrder_ok (s t : ByteArray) (hs : s.size < 2 ^ 31) (ht : t.size < 2 ^ 31) (h : Heap) : HEnt Tryd.prog 35 #[.string s, .string t] h fun v h' => v = .int .i64 (orderC (lst s) (lst t)) ∧ Ext h h' := by
  refine F35_ent _ _ _ _ ?_
  have ls := lst_len s
  have lt_ := lst_len t
  unfold F35
  refine HEnt.use (refPieces_ok s (by omega) h) ?_
  rintro _ h1 ⟨a, l, c, rfl, o1⟩
  refine ⟨a, l, c, rfl, HEnt.use (refPieces_ok t (by omega) h1) ?_⟩
  rintro _ h2 ⟨a', l', c', rfl, o2⟩
  have o1 := o1.grow o2.ext
  have hl := o1.len
  have hl' := o2.len
  rw [vals_len] at hl hl'
  have ps := pcs_short (lst s)
  have pt := pcs_short (lst t)
  refine ⟨a', l', c', rfl, fun x h' => ∃ k : Nat, x = k ∧ k ≤ l ∧ k ≤ l' ∧ orderC (lst s) (lst t) = lexO pieceC ((pcs (lst s)).drop k) ((pcs (lst t)).drop k) ∧ h' = h2, fun x _ => (l - x).toNat, ⟨0, rfl, by omega, by omega, rfl, rfl⟩, ?_⟩
  rintro h3 _ ⟨k, rfl, hk1, hk2, he, rfl⟩
  have ends : ¬ (k < l ∧ k < l') → F35_k11 a l c a' l' c' h3 fun v h' => v = .int .i64 (orderC (lst s) (lst t)) ∧ Ext h h' := fun hn => by
    unfold F35_k11
    refine br_of (fun hlt => ⟨?_, o1.ext⟩) (fun hge => ?_)
    · have hlt' : (l : Int) < (l' : Int) := by simpa using hlt
      rw [he, List.drop_of_length_le (show (pcs (lst s)).length ≤ k by omega), List.drop_eq_getElem_cons (show k < (pcs (lst t)).length by omega)]; rfl
    · have hge' : ¬ (l : Int) < (l' : Int) := by simpa using hge
      unfold F35_k12
      refine br_of (fun hgt => ⟨?_, o1.ext⟩) (fun hle => ?_)
      · have hgt' : (l : Int) > (l' : Int) := by simpa using hgt
        rw [he, List.drop_of_length_le (show (pcs (lst t)).length ≤ k by omega), List.drop_eq_getElem_cons (show k < (pcs (lst s)).length by omega)]; rfl
      · have hle' : ¬ (l : Int) > (l' : Int) := by simpa using hle
        unfold F35_k13
        refine ⟨?_, o1.ext⟩
        rw [he, List.drop_of_length_le (show (pcs (lst t)).length ≤ k by omega), List.drop_of_length_le (show (pcs (lst s)).length ≤ k by omega)]; rfl
  unfold F35_b1
  refine br_of (fun ht1 => ?_) (fun hf1 => ?_)
  rotate_left
  · unfold F35_k2
    refine br_of (fun e => by cases e) (fun _ => ends ?_)
    have : ¬ (k : Int) < (l : Int) := by simpa using hf1
    omega
  have hkl : k < l := by
    have : (k : Int) < (l : Int) := by simpa using ht1
    omega
  unfold F35_k2
  refine br_of (fun ht2 => ?_) (fun hf2 => ends ?_)
  rotate_left
  · have : ¬ (k : Int) < (l' : Int) := by simpa using hf2
    omega
  have hkl' : k < l' := by
    have : (k : Int) < (l' : Int) := by simpa using ht2
    omega
  obtain ⟨b1, rfl, _, hc1⟩ := o1.cell (vals_get (show k < (pcs (lst s)).length by omega))
  obtain ⟨b2, rfl, _, hc2⟩ := o2.cell (vals_get (show k < (pcs (lst t)).length by omega))
  have px := pcs_each (lst s) _ (getD_mem (show k < (pcs (lst s)).length by omega))
  have py := pcs_each (lst t) _ (getD_mem (show k < (pcs (lst t)).length by omega))
  have hd := lexO_drop (k := k) (show k < (pcs (lst s)).length by omega) (show k < (pcs (lst t)).length by omega)
  rw [← he] at hd
  generalize hX : (pcs (lst s)).getD k [] = X at *
  generalize hY : (pcs (lst t)).getD k [] = Y at *
  have x256 : ∀ c ∈ X, c < 256 := fun c hc => lst_lt s c (px.2 c hc)
  have y256 : ∀ c ∈ Y, c < 256 := fun c hc => lst_lt t c (py.2 c hc)
  have sx : (str X).size = X.length := str_size X
  have sy : (str Y).size = Y.length := str_size Y
  have e1 : IntKind.i64.wrap ((k : Int) + 1) = ((k + 1 : Nat) : Int) := by rw [i64_lt _ (by omega) (by omega)]; omega
  have A1 : ∀ h', Ext h3 h' → Vc.cell h' ((⟨b1, 0, none⟩ : Addr).add ((k : Int).toNat * 1)) = some (.string (str X)) := fun h' x => by rw [Int.toNat_natCast, Nat.mul_one, add_mk, Nat.zero_add]; exact x.some hc1
  have A2 : ∀ h', Ext h3 h' → Vc.cell h' ((⟨b2, 0, none⟩ : Addr).add ((k : Int).toNat * 1)) = some (.string (str Y)) := fun h' x => by rw [Int.toNat_natCast, Nat.mul_one, add_mk, Nat.zero_add]; exact x.some hc2
  unfold F35_k3
  refine ⟨_, rfl, by omega, by omega, _, A1 _ (Ext.refl _), _, rfl, by omega, by omega, _, A2 _ (Ext.refl _), ?_⟩
  intro h4 hcl; obtain rfl := hcl.eq
  rw [seq_lst, lst_str X x256, lst_str Y y256]
  refine br_of (fun heq => ?_) (fun hne => ?_)
  · have heq' : X = Y := by simpa using heq
    unfold F35_k4
    rw [e1]
    rw [if_pos ((pieceC_cmp.zero _ _).2 heq')] at hd
    exact ⟨⟨k + 1, rfl, by omega, by omega, hd, rfl⟩, by show ((l : Int) - ((k + 1 : Nat) : Int)).toNat < ((l : Int) - (k : Int)).toNat; omega⟩
  have hne' : X ≠ Y := by simpa using hne
  rw [if_neg (fun e => hne' ((pieceC_cmp.zero _ _).1 e)), ← refP_eq] at hd
  unfold F35_k5
  refine ⟨_, rfl, by omega, by omega, _, A1 _ (Ext.refl _), digs X, ?_, _, rfl, by omega, by omega, _, A2 _ (Ext.refl _), digs Y, ?_, ?_⟩
  · intro h5 hcl; obtain rfl := hcl.eq
    refine HEnt.mono (refDigits_ok (str X) (by omega) h5) ?_
    rintro _ _ ⟨rfl, rfl⟩
    exact ⟨by rw [lst_str X x256], rfl⟩
  · intro h5 hcl; obtain rfl := hcl.eq
    refine HEnt.mono (refDigits_ok (str Y) (by omega) h5) ?_
    rintro _ _ ⟨rfl, rfl⟩
    exact ⟨by rw [lst_str Y y256], rfl⟩
  intro h5 hcl; obtain rfl := hcl.eq
  have last : ∀ h6, Ext h5 h6 → refP X Y = cmpL X Y → F35_k10 (fun x h' => ∃ k : Nat, x = k ∧ k ≤ l ∧ k ≤ l' ∧ orderC (lst s) (lst t) = lexO pieceC ((pcs (lst s)).drop k) ((pcs (lst t)).drop k) ∧ h' = h5) (fun x _ => (l - x).toNat) (((l : Int) - (k : Int)).toNat) (some ⟨b1, 0, none⟩) l c (some ⟨b2, 0, none⟩) l' c' (k : Int) h6 fun v h' => v = .int .i64 (orderC (lst s) (lst t)) ∧ Ext h h' := by
    intro h6 x6 er
    unfold F35_k10
    refine ⟨_, rfl, by omega, by omega, _, A1 _ x6, _, rfl, by omega, by omega, _, A2 _ x6, cmpL X Y, ?_, ?_⟩
    · intro h7 hcl; obtain rfl := hcl.eq
      refine HEnt.mono (less_ok (str X) (str Y) h7) ?_
      rintro _ _ ⟨rfl, rfl⟩
      exact ⟨by rw [lst_str X x256, lst_str Y y256], rfl⟩
    · intro h7 hcl; obtain rfl := hcl.eq
      exact ⟨by rw [hd, er], o1.ext.trans x6⟩
  have four : digs X = digs Y → F35_k9 (fun x h' => ∃ k : Nat, x = k ∧ k ≤ l ∧ k ≤ l' ∧ orderC (lst s) (lst t) = lexO pieceC ((pcs (lst s)).drop k) ((pcs (lst t)).drop k) ∧ h' = h5) (fun x _ => (l - x).toNat) (((l : Int) - (k : Int)).toNat) (some ⟨b1, 0, none⟩) l c (some ⟨b2, 0, none⟩) l' c' (k : Int) (digs X) h5 fun v h' => v = .int .i64 (orderC (lst s) (lst t)) ∧ Ext h h' := by
    intro hdd
    unfold F35_k9
    refine br_of (fun hdx => ?_) (fun hdx => last h5 (Ext.refl _) ?_)
    · have hdy : digs Y = true := hdd ▸ hdx
      have en : IntKind.i64.wrap (((str X).size : Int) + ((str Y).size : Int)) = ((X.length + Y.length : Nat) : Int) := by rw [i64_lt _ (by omega) (by omega)]; omega
      have pad256 : ∀ (Z : List Nat) n, (∀ c ∈ Z, c < 256) → ∀ c ∈ pad Z n, c < 256 := fun Z n hZ c hc => by
        unfold pad at hc
        rcases List.mem_append.1 hc with hc | hc
        · rw [(List.mem_replicate.1 hc).2]; decide
        · exact hZ c hc
      refine ⟨_, rfl, by omega, by omega, _, A1 _ (Ext.refl _), _, rfl, by omega, by omega, _, A2 _ (Ext.refl _), ?_⟩
      intro h6 hcl; obtain rfl := hcl.eq
      rw [en]
      refine ⟨_, rfl, by omega, by omega, _, A1 _ (Ext.refl _), str (pad X (X.length + Y.length)), ?_, _, rfl, by omega, by omega, _, A2 _ (Ext.refl _), str (pad Y (X.length + Y.length)), ?_, cmpL (pad X (X.length + Y.length)) (pad Y (X.length + Y.length)), ?_, ?_⟩
      · intro h7 x7
        refine HEnt.mono (padded_ok (str X) (X.length + Y.length) (by omega) (by omega) h7) ?_
        rintro _ h8 ⟨rfl, x8⟩
        exact ⟨by rw [lst_str X x256], x8⟩
      · intro h7 x7
        refine HEnt.mono (padded_ok (str Y) (X.length + Y.length) (by omega) (by omega) h7) ?_
        rintro _ h8 ⟨rfl, x8⟩
        exact ⟨by rw [lst_str Y y256], x8⟩
      · intro h7 x7
        refine HEnt.mono (less_ok _ _ h7) ?_
        rintro _ _ ⟨rfl, rfl⟩
        exact ⟨by rw [lst_str _ (pad256 X _ x256), lst_str _ (pad256 Y _ y256)], Ext.refl _⟩
      · intro h7 x7
        refine br_of (fun hc => ⟨?_, o1.ext.trans x7⟩) (fun hc => last h7 x7 ?_)
        · have hc' : cmpL (pad X (X.length + Y.length)) (pad Y (X.length + Y.length)) ≠ 0 := by simpa using hc
          rw [hd]; unfold refP; rw [hdx, hdy]; simp [hc']
        · have hc' : cmpL (pad X (X.length + Y.length)) (pad Y (X.length + Y.length)) = 0 := by simpa using hc
          unfold refP; rw [hdx, hdy]; simp [hc']
    · have hdy : digs Y = false := hdd ▸ hdx
      unfold refP; rw [hdx, hdy]; simp
  refine br_of (fun hdx => ?_) (fun hdx => ?_)
  · unfold F35_k6
    refine br_of (fun hdy => ⟨?_, o1.ext⟩) (fun hdy => ?_)
    · have hdy' : digs Y = false := by simpa using hdy
      rw [hd]; unfold refP; rw [hdx, hdy']; simp
    · have hdy' : digs Y = true := by simpa using hdy
      unfold F35_k7
      refine br_of (fun _ => ?_) (fun e => by rw [hdy'] at e; cases e)
      unfold F35_k8
      refine br_of (fun e => by rw [hdx] at e; cases e) (fun _ => four (by rw [hdx, hdy']))
  · unfold F35_k6
    refine br_of (fun e => by cases e) (fun _ => ?_)
    unfold F35_k7
    refine br_of (fun hdy => ?_) (fun hdy => ?_)
    · unfold F35_k8
      refine br_of (fun _ => ⟨?_, o1.ext⟩) (fun e => by rw [hdx] at e; cases e)
      rw [hd]; unfold refP; rw [hdx, hdy]; simp
    · unfold F35_k8
      exact br_of (fun e => by cases e) (fun _ => four (by rw [hdx, hdy]))
end Go.Proofs.YtfknpbgneeefjaaDoor.Ord
