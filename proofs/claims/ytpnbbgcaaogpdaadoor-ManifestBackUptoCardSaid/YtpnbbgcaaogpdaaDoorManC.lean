import Derived.Test.YtpnbbgcaaogpdaaDoorManT
import Derived.Test.YtpnbbgcaaogpdaaDoorManShelf
import Derived.Test.YtpnbbgcaaogpdaaDoorVmpB
import Derived.Test.YtpnbbgcaaogpdaaDoorVcN
import Derived.Test.YtpnbbgcaaogpdaaDoorVcT

namespace Go.Proofs.YtpnbbgcaaogpdaaDoor
open Go.Vc Go.Sha Go.Trail Go.RowKit Go.Man
set_option linter.unusedVariables false
set_option linter.unusedSimpArgs false
set_option maxRecDepth 4000
theorem i64_lt (n : Int) (h : -9223372036854775808 ≤ n) (h' : n < 9223372036854775808) : IntKind.i64.wrap n = n := IntWalk.i64_in _ (by omega)
theorem seq_nil (s : ByteArray) : seq s ⟨#[]⟩ = decide (lst s = []) := seq_lst s _
theorem take_succ_getD (l : List Nat) (k : Nat) (hk : k < l.length) : l.take (k + 1) = l.take k ++ [l.getD k 0] := by
  rw [List.take_succ_eq_append_getElem hk]; simp [List.getD_eq_getElem?_getD, List.getElem?_eq_getElem hk]
theorem str_nil : str [] = (⟨#[]⟩ : ByteArray) := rfl
/-- a list of texts, as values -/
def vals (ps : List (List Nat)) : List Value := ps.map fun p => .string (str p)
theorem vals_len (ps : List (List Nat)) : (vals ps).length = ps.length := by simp [vals]
theorem vals_get {ps : List (List Nat)} {i : Nat} (hi : i < ps.length) : (vals ps)[i]? = some (.string (str (ps.getD i []))) := by
  simp [vals, List.getElem?_map, List.getElem?_eq_getElem hi, List.getD_eq_getElem?_getD]
theorem vals_one (ps : List (List Nat)) : ∀ u ∈ vals ps, one u = true := by
  intro u hu
  obtain ⟨p, _, rfl⟩ := List.mem_map.1 hu
  rfl
theorem vals_append (ps qs : List (List Nat)) : vals (ps ++ qs) = vals ps ++ vals qs := by simp [vals]
theorem cells9 : Tryd.prog.cellsOf 9 = 1 := by kernel_rfl
theorem zero9 : (((Tryd.prog.info? 9).bind (·.zero)).getD undef).cells.size = 1 := by kernel_rfl
theorem bytes9 : Tryd.prog.bytesOf 9 = 16 := by kernel_rfl
theorem str_cut (s : ByteArray) (i j : Nat) : s.extract i j = str (((lst s).drop i).take (j - i)) := by rw [← lst_cut, str_lst]
theorem refPieces_ok (s : ByteArray) (hs : s.size < 2 ^ 40) (h : Heap) : HEnt Tryd.prog 31 #[.string s] h fun v h' => ∃ a l c, v = .slice a l c ∧ OwnAt 9 h h' a l c (vals (pcs (lst s))) := by
  refine F31_ent _ _ _ ?_
  have ls := lst_len s
  unfold F31
  rintro _ rfl _ rfl
  refine ⟨fun a l c from_ i h' => ∃ (f k : Nat) (done : List (List Nat)), from_ = f ∧ i = k ∧ f ≤ k ∧ k ≤ s.size ∧ done.length ≤ k ∧ pcs (lst s) = done ++ pcs ((lst s).drop f) ∧ (∀ c ∈ ((lst s).drop f).take (k - f), c ≠ 46) ∧ OwnAt 9 h h' a l c (vals done),
    fun _ _ _ _ i _ => (s.size - i).toNat, ⟨0, 0, [], rfl, rfl, by omega, by omega, by simp, rfl, by simp, OwnAt.nil 9 (Ext.refl h)⟩, ?_⟩
  rintro h1 a l c _ _ ⟨f, k, done, rfl, rfl, hfk, hk, hdl, hp, hno, o⟩
  have hol := o.len
  rw [vals_len] at hol
  unfold F31_b1
  refine br_of (fun ht => ?_) (fun hf => ?_)
  · have hk' : k < s.size := by
      have : (k : Int) < (s.size : Int) := by simpa using ht
      omega
    have e1 : IntKind.i64.wrap ((k : Int) + 1) = ((k + 1 : Nat) : Int) := by rw [i64_lt _ (by omega) (by omega)]; omega
    have cut : ((lst s).drop f).take (k + 1 - f) = ((lst s).drop f).take (k - f) ++ [(lst s).getD k 0] := by
      rw [show k + 1 - f = (k - f) + 1 by omega, List.take_succ_eq_append_getElem (by rw [List.length_drop]; omega), List.getElem_drop, List.getD_eq_getElem?_getD, List.getElem?_eq_getElem (by omega)]
      simp [show f + (k - f) = k by omega]
    have dk : (lst s).drop f = ((lst s).drop f).take (k - f) ++ (lst s).getD k 0 :: (lst s).drop (k + 1) := by
      conv => lhs; rw [← List.take_append_drop (k - f) ((lst s).drop f)]
      rw [List.drop_drop, show f + (k - f) = k by omega]
      congr 1
      rw [List.drop_eq_getElem_cons (by omega), List.getD_eq_getElem?_getD, List.getElem?_eq_getElem (by omega)]; rfl
    unfold F31_k2
    rw [bt_lst]
    refine ⟨by omega, by omega, br_of (fun hc => ?_) (fun hc => ?_)⟩
    · have hc' : (lst s).getD k 0 = 46 := by
        have : (((lst s).getD k 0 : Nat) : Int) = 46 := by simpa using hc
        omega
      refine ⟨by omega, by omega, by omega, by decide, newK_intro fun h2 n2 x2 s2 => ?_⟩
      rw [Int.toNat_natCast, Int.toNat_natCast, str_cut] at n2
      refine appK_at (m := 1) (news := vals [((lst s).drop f).take (k - f)]) cells9 zero9 (o.grow x2) (srcK_slice rfl (fun ad e => by cases e; exact cells_blk0 n2) (by rintro ⟨⟩)) rfl (vals_one _) (by rw [bytes9]; omega) fun a3 c3 h3 o3 k3 => ?_
      rintro _ rfl
      unfold F31_k3
      rintro _ rfl
      rw [e1]
      refine ⟨⟨k + 1, k + 1, done ++ [((lst s).drop f).take (k - f)], rfl, rfl, by omega, by omega, by simp; omega, ?_, by simp, by rw [vals_append]; exact o3⟩, by show ((s.size : Int) - ((k + 1 : Nat) : Int)).toNat < ((s.size : Int) - (k : Int)).toNat; omega⟩
      rw [hp]
      conv => lhs; rw [dk, hc', pcs_dot _ _ hno]
      simp
    · have hc' : (lst s).getD k 0 ≠ 46 := by
        have : ¬ (((lst s).getD k 0 : Nat) : Int) = 46 := by simpa using hc
        omega
      unfold F31_k3
      rintro _ rfl
      rw [e1]
      refine ⟨⟨f, k + 1, done, rfl, rfl, by omega, by omega, by omega, hp, ?_, o⟩, by show ((s.size : Int) - ((k + 1 : Nat) : Int)).toNat < ((s.size : Int) - (k : Int)).toNat; omega⟩
      rw [cut]
      intro d hd
      rcases List.mem_append.1 hd with hd | hd
      · exact hno d hd
      · simp at hd; rw [hd]; exact hc'
  · have hk' : k = s.size := by
      have : ¬ (k : Int) < (s.size : Int) := by simpa using hf
      omega
    unfold F31_k4
    refine ⟨by omega, by omega, by omega, by decide, newK_intro fun h2 n2 x2 s2 => ?_⟩
    rw [Int.toNat_natCast, Int.toNat_natCast, str_cut] at n2
    refine appK_at (m := 1) (news := vals [((lst s).drop f).take (s.size - f)]) cells9 zero9 (o.grow x2) (srcK_slice rfl (fun ad e => by cases e; exact cells_blk0 n2) (by rintro ⟨⟩)) rfl (vals_one _) (by rw [bytes9]; omega) fun a3 c3 h3 o3 k3 => ?_
    refine ⟨a3, _, c3, rfl, ?_⟩
    subst hk'
    have hw : ((lst s).drop f).take (s.size - f) = (lst s).drop f := List.take_of_length_le (by rw [List.length_drop]; omega)
    rw [hw] at o3 hno
    rw [hp, pcs_whole _ hno, vals_append]
    exact o3

def MaxAt (h : Heap) : Prop := ∃ m, Vc.cell h ⟨0, 0, none⟩ = some (.int .i64 m)
theorem MaxAt.ext {h h' : Heap} (k : MaxAt h) (x : Ext h h') : MaxAt h' := by obtain ⟨m, e⟩ := k; exact ⟨m, x.some e⟩
/-! ### digits -/
def allD (x : List Nat) : Bool := x.all fun c => decide (48 ≤ c ∧ c ≤ 57)
def digitsR (x : List Nat) : List Nat × Bool := if allD x then (trim x, decide (x ≠ [])) else ([], false)
theorem digitsR_2 (x : List Nat) : (digitsR x).2 = digs x := by
  unfold digitsR digs
  cases h : allD x
  · rw [show (x.all fun c => decide (48 ≤ c ∧ c ≤ 57)) = false from h]; simp
  · rw [show (x.all fun c => decide (48 ≤ c ∧ c ≤ 57)) = true from h]; simp
theorem digitsR_1 {x : List Nat} (h : digs x = true) : (digitsR x).1 = trim x := by
  unfold digs at h
  unfold digitsR
  rw [if_pos (by simp only [Bool.and_eq_true] at h; exact h.2)]
theorem allD_take {x : List Nat} {k : Nat} (hk : k < x.length) : allD (x.take (k + 1)) = (allD (x.take k) && decide (48 ≤ x.getD k 0 ∧ x.getD k 0 ≤ 57)) := by
  rw [take_succ_getD _ _ hk]; simp [allD]
theorem allD_not {x : List Nat} {k : Nat} (hk : k < x.length) (h : ¬ (48 ≤ x.getD k 0 ∧ x.getD k 0 ≤ 57)) : allD x = false := by
  cases e : allD x
  · rfl
  · exfalso; apply h
    unfold allD at e
    rw [List.all_eq_true] at e
    have := e (x.getD k 0) (by rw [List.getD_eq_getElem?_getD, List.getElem?_eq_getElem hk]; exact List.getElem_mem _)
    exact of_decide_eq_true this
theorem trimB (l : List UInt8) : (Lib.trimLeftB l 48).map UInt8.toNat = trim (l.map UInt8.toNat) := by
  induction l with
  | nil => rfl
  | cons a l ih =>
    unfold Lib.trimLeftB trim at *
    simp only [List.map_cons, List.dropWhile_cons]
    by_cases h : a = 48
    · subst h; simpa using ih
    · have h2 : a.toNat ≠ 48 := fun e => h (UInt8.toNat_inj.1 e)
      simp [h, h2]

theorem mk_str (u : List UInt8) : (⟨u.toArray⟩ : ByteArray) = str (u.map UInt8.toNat) := by
  rw [← str_lst ⟨u.toArray⟩]; rfl
theorem trim_ok (s : ByteArray) (h : Heap) : HEnt Tryd.prog 56 #[.string s, .string ⟨#[48]⟩] h fun v h' => v = .string (str (trim (lst s))) ∧ h' = h := by
  refine HEnt.of_body Tryd.func56 (by kernel_rfl) (by kernel_rfl) fun w hw => ?_
  refine (Tryd.strings_TrimLeft_one s 48 (by decide) w).mono fun e w' ⟨he, hw'⟩ => ?_
  subst hw'
  refine ⟨_, he, Kin.refl _, ?_, hw⟩
  rw [mk_str, trimB]; rfl
theorem digits_ok (s : ByteArray) (hs : s.size < 2 ^ 40) (h : Heap) : HEnt Tryd.prog 45 #[.string s] h fun v h' => v = .tuple #[.string (str (digitsR (lst s)).1), .bool (digitsR (lst s)).2] ∧ h' = h := by
  refine F45_ent _ _ _ ?_
  have ls := lst_len s
  unfold F45
  refine ⟨fun x h' => ∃ k : Nat, x = k ∧ k ≤ s.size ∧ allD ((lst s).take k) = true ∧ h' = h, fun x _ => (s.size - x).toNat, ⟨0, rfl, by omega, rfl, rfl⟩, ?_⟩
  rintro h1 _ ⟨k, rfl, hk, ha, rfl⟩
  unfold F45_b1
  refine br_of (fun ht => ?_) (fun hf => ?_)
  · have hk' : k < s.size := by
      have : (k : Int) < (s.size : Int) := by simpa using ht
      omega
    have hkl : k < (lst s).length := by omega
    have e1 : IntKind.i64.wrap ((k : Int) + 1) = ((k + 1 : Nat) : Int) := by rw [i64_lt _ (by omega) (by omega)]; omega
    have key : ∀ b : Bool, (b = true ↔ ¬ (48 ≤ (lst s).getD k 0 ∧ (lst s).getD k 0 ≤ 57)) → F45_k3 (fun x h' => ∃ k : Nat, x = k ∧ k ≤ s.size ∧ allD ((lst s).take k) = true ∧ h' = h1) (fun x _ => (s.size - x).toNat) (((s.size : Int) - (k : Int)).toNat) s (s.size : Int) (k : Int) b h1 fun v h' => v = .tuple #[.string (str (digitsR (lst s)).1), .bool (digitsR (lst s)).2] ∧ h' = h1 := by
      intro b hb
      unfold F45_k3
      refine br_of (fun hbt => ⟨?_, rfl⟩) (fun hbf => ?_)
      · have := allD_not hkl (hb.1 hbt)
        unfold digitsR; rw [if_neg (by rw [this]; simp)]; rfl
      · unfold F45_k4
        rw [e1]
        have hd : 48 ≤ (lst s).getD k 0 ∧ (lst s).getD k 0 ≤ 57 := Decidable.byContradiction fun hn => by rw [hb.2 hn] at hbf; cases hbf
        exact ⟨⟨k + 1, rfl, by omega, by rw [allD_take hkl, ha, decide_eq_true hd]; rfl, rfl⟩, by show ((s.size : Int) - ((k + 1 : Nat) : Int)).toNat < ((s.size : Int) - (k : Int)).toNat; omega⟩
    unfold F45_k2
    rw [bt_lst]
    refine ⟨by omega, by omega, br_of (fun hlt => key true ?_) (fun hge => ⟨by omega, by omega, key _ ?_⟩)⟩
    · have : (((lst s).getD k 0 : Nat) : Int) < 48 := by simpa using hlt
      simp only [true_iff]; omega
    · have : ¬ (((lst s).getD k 0 : Nat) : Int) < 48 := by simpa using hge
      rw [decide_eq_true_eq]
      omega
  · have hk' : k = s.size := by
      have : ¬ (k : Int) < (s.size : Int) := by simpa using hf
      omega
    unfold F45_k5
    refine HEnt.use (trim_ok s h1) ?_
    rintro _ _ ⟨rfl, rfl⟩
    refine ⟨_, rfl, ?_, rfl⟩
    rw [List.take_of_length_le (by omega)] at ha
    rw [seq_nil]
    unfold digitsR; rw [if_pos ha]
    by_cases h0 : lst s = [] <;> simp [h0]
theorem refDigits_ok (s : ByteArray) (hs : s.size < 2 ^ 40) (h : Heap) : HEnt Tryd.prog 32 #[.string s] h fun v h' => v = .bool (digs (lst s)) ∧ h' = h := by
  refine F32_ent _ _ _ ?_
  have ls := lst_len s
  unfold F32
  rintro _ rfl
  refine ⟨fun x h' => ∃ k : Nat, x = k ∧ k ≤ s.size ∧ allD ((lst s).take k) = true ∧ h' = h, fun x _ => (s.size - x).toNat, ⟨0, rfl, by omega, rfl, rfl⟩, ?_⟩
  rintro h1 _ ⟨k, rfl, hk, ha, rfl⟩
  unfold F32_b1
  refine br_of (fun ht => ?_) (fun hf => ?_)
  · have hk' : k < s.size := by
      have : (k : Int) < (s.size : Int) := by simpa using ht
      omega
    have hkl : k < (lst s).length := by omega
    have e1 : IntKind.i64.wrap ((k : Int) + 1) = ((k + 1 : Nat) : Int) := by rw [i64_lt _ (by omega) (by omega)]; omega
    have key : ∀ b : Bool, (b = true ↔ ¬ (48 ≤ (lst s).getD k 0 ∧ (lst s).getD k 0 ≤ 57)) → F32_k3 (fun x h' => ∃ k : Nat, x = k ∧ k ≤ s.size ∧ allD ((lst s).take k) = true ∧ h' = h1) (fun x _ => (s.size - x).toNat) (((s.size : Int) - (k : Int)).toNat) s (k : Int) b h1 fun v h' => v = .bool (digs (lst s)) ∧ h' = h1 := by
      intro b hb
      unfold F32_k3
      refine br_of (fun hbt => ⟨?_, rfl⟩) (fun hbf => ?_)
      · have := allD_not hkl (hb.1 hbt)
        unfold digs; rw [show ((lst s).all fun c => decide (48 ≤ c ∧ c ≤ 57)) = false from this]; simp
      · unfold F32_k4
        rintro _ rfl
        rw [e1]
        have hd : 48 ≤ (lst s).getD k 0 ∧ (lst s).getD k 0 ≤ 57 := Decidable.byContradiction fun hn => by rw [hb.2 hn] at hbf; cases hbf
        exact ⟨⟨k + 1, rfl, by omega, by rw [allD_take hkl, ha, decide_eq_true hd]; rfl, rfl⟩, by show ((s.size : Int) - ((k + 1 : Nat) : Int)).toNat < ((s.size : Int) - (k : Int)).toNat; omega⟩
    unfold F32_k2
    rw [bt_lst]
    refine ⟨by omega, by omega, br_of (fun hlt => key true ?_) (fun hge => ⟨by omega, by omega, key _ ?_⟩)⟩
    · have : (((lst s).getD k 0 : Nat) : Int) < 48 := by simpa using hlt
      simp only [true_iff]; omega
    · have : ¬ (((lst s).getD k 0 : Nat) : Int) < 48 := by simpa using hge
      rw [decide_eq_true_eq]
      omega
  · have hk' : k = s.size := by
      have : ¬ (k : Int) < (s.size : Int) := by simpa using hf
      omega
    unfold F32_k5
    rw [List.take_of_length_le (by omega)] at ha
    rw [seq_nil]
    refine ⟨?_, rfl⟩
    unfold digs; rw [show ((lst s).all fun c => decide (48 ≤ c ∧ c ≤ 57)) = true from ha]
    by_cases h0 : lst s = [] <;> simp [h0]
/-! ### two texts beside one another -/
theorem compareB : ∀ x y : List UInt8, Lib.compareBytes x y = cmpL (x.map UInt8.toNat) (y.map UInt8.toNat)
  | [], [] => rfl
  | [], _ :: _ => rfl
  | _ :: _, [] => rfl
  | a :: x, b :: y => by
    have ih := compareB x y
    simp only [cmpL] at ih
    simp only [List.map_cons, Lib.compareBytes, cmpL, lexO, ncmp, UInt8.lt_iff_toNat_lt]
    by_cases h1 : a.toNat < b.toNat
    · simp [h1]
    · by_cases h2 : b.toNat < a.toNat
      · simp [h1, h2]
      · simp [h1, h2, ih]
theorem compare_ok (s t : ByteArray) (h : Heap) : HEnt Tryd.prog 46 #[.string s, .string t] h fun v h' => v = .int .i64 (cmpL (lst s) (lst t)) ∧ h' = h := by
  refine HEnt.of_body Tryd.func46 (by kernel_rfl) (by kernel_rfl) fun w hw => ?_
  refine (Tryd.strings_Compare s t w).mono fun e w' ⟨he, hw'⟩ => ?_
  subst hw'
  refine ⟨_, he, Kin.refl _, ?_, hw⟩
  rw [compareB]; rfl
theorem cmpL_ltB : ∀ x y : List Nat, cmpL x y = if ltB x y then -1 else if decide (x = y) then 0 else 1
  | [], [] => rfl
  | [], _ :: _ => rfl
  | _ :: _, [] => rfl
  | a :: x, b :: y => by
    have ih := cmpL_ltB x y
    simp only [cmpL] at ih
    simp only [cmpL, lexO, ltB, ncmp]
    by_cases h1 : a < b
    · simp [h1, show a ≠ b by omega]
    · by_cases h2 : b < a
      · simp [h1, h2, show a ≠ b by omega]
      · obtain rfl : a = b := by omega
        simp [ih]
theorem less_ok (s t : ByteArray) (h : Heap) : HEnt Tryd.prog 33 #[.string s, .string t] h fun v h' => v = .int .i64 (cmpL (lst s) (lst t)) ∧ h' = h := by
  refine F33_ent _ _ _ _ ?_
  unfold F33
  have e := cmpL_ltB (lst s) (lst t)
  rw [slt_lst]
  refine br_of (fun h1 => ⟨by rw [e, if_pos h1], rfl⟩) (fun h1 => ?_)
  unfold F33_k1
  rw [slt_lst, seq_lst, h1]
  refine br_of (fun h2 => ⟨by rw [e, if_neg (by rw [h1]; simp), if_neg (by simpa using h2)], rfl⟩) (fun h2 => ?_)
  unfold F33_k2
  exact ⟨by rw [e, if_neg (by rw [h1]; simp), if_pos (by simpa using h2)], rfl⟩
theorem piece_ok (s t : ByteArray) (hs : s.size < 2 ^ 40) (ht : t.size < 2 ^ 40) (h : Heap) : HEnt Tryd.prog 29 #[.string s, .string t] h fun v h' => v = .int .i64 (pieceC (lst s) (lst t)) ∧ h' = h := by
  refine F29_ent _ _ _ _ ?_
  unfold F29
  refine HEnt.use (digits_ok s hs h) ?_
  rintro _ _ ⟨rfl, rfl⟩
  refine ⟨_, _, rfl, HEnt.use (digits_ok t ht _) ?_⟩
  rintro _ h9 ⟨rfl, e9⟩
  subst e9
  refine ⟨_, _, rfl, ?_⟩
  rw [digitsR_2, digitsR_2]
  have e := pieceC_eq (lst s) (lst t)
  have trim_lt : ∀ u : ByteArray, ∀ c ∈ trim (lst u), c < 256 := fun u c hc => lst_lt u c ((List.dropWhile_sublist _).subset hc)
  refine br_of (fun hne => ?_) (fun heq => ?_)
  · have hne' : digs (lst s) ≠ digs (lst t) := by simpa using hne
    rw [if_pos hne'] at e
    refine br_of (fun h1 => ⟨by rw [e, if_pos h1], rfl⟩) (fun h1 => ?_)
    unfold F29_k1
    exact ⟨by rw [e, if_neg (by rw [h1]; simp)], rfl⟩
  · have heq' : digs (lst s) = digs (lst t) := by simpa using heq
    rw [if_neg (by simpa using heq')] at e
    have whole : ∀ h1, cmpL (lst s) (lst t) = pieceC (lst s) (lst t) → F29_k5 s t h1 fun v h' => v = .int .i64 (pieceC (lst s) (lst t)) ∧ h' = h1 := fun h1 e1 => by
      unfold F29_k5
      refine HEnt.use (compare_ok s t h1) ?_
      rintro _ _ ⟨rfl, rfl⟩
      exact ⟨_, rfl, by rw [e1], rfl⟩
    refine br_of (fun h1 => ?_) (fun h1 => ?_)
    · have h1t : digs (lst t) = true := heq' ▸ h1
      rw [digitsR_1 h1, digitsR_1 h1t]
      have es : (str (trim (lst s))).size = (trim (lst s)).length := str_size _
      have et : (str (trim (lst t))).size = (trim (lst t)).length := str_size _
      unfold F29_k2
      rw [es, et]
      refine br_of (fun h2 => ?_) (fun h2 => ?_)
      · have h2' : (trim (lst s)).length ≠ (trim (lst t)).length := by
          have : ((trim (lst s)).length : Int) ≠ ((trim (lst t)).length : Int) := by simpa using h2
          omega
        rw [if_pos ⟨h1, h2'⟩] at e
        refine br_of (fun h3 => ?_) (fun h3 => ?_)
        · have : (trim (lst s)).length < (trim (lst t)).length := by
            have : ((trim (lst s)).length : Int) < ((trim (lst t)).length : Int) := by simpa using h3
            omega
          exact ⟨by rw [e, if_pos this], rfl⟩
        · have : ¬ (trim (lst s)).length < (trim (lst t)).length := by
            have : ¬ ((trim (lst s)).length : Int) < ((trim (lst t)).length : Int) := by simpa using h3
            omega
          unfold F29_k3
          exact ⟨by rw [e, if_neg this], rfl⟩
      · have h2' : (trim (lst s)).length = (trim (lst t)).length := by
          have : ((trim (lst s)).length : Int) = ((trim (lst t)).length : Int) := by simpa using h2
          omega
        rw [if_neg (fun h => h.2 h2')] at e
        refine br_of (fun _ => ?_) (fun h3 => by rw [h3] at h1; cases h1)
        unfold F29_k4
        rw [seq_lst, lst_str _ (trim_lt s), lst_str _ (trim_lt t)]
        refine br_of (fun h4 => ?_) (fun h4 => ?_)
        · rw [if_pos ⟨h1, by simpa using h4⟩] at e
          refine HEnt.use (compare_ok _ _ h9) ?_
          rintro _ _ ⟨rfl, rfl⟩
          refine ⟨_, rfl, ?_, rfl⟩
          rw [lst_str _ (trim_lt s), lst_str _ (trim_lt t), e]
        · rw [if_neg (fun h => h.2 (by simpa using h4))] at e
          exact whole h9 e.symm
    · rw [if_neg (fun h => by rw [h.1] at h1; cases h1), if_neg (fun h => by rw [h.1] at h1; cases h1)] at e
      unfold F29_k2
      refine br_of (fun h2 => by cases h2) (fun _ => br_of (fun h2 => by rw [h2] at h1; cases h1) (fun _ => ?_))
      unfold F29_k4
      exact br_of (fun h2 => by cases h2) (fun _ => whole h9 e.symm)
end Go.Proofs.YtpnbbgcaaogpdaaDoor

namespace Go.Proofs.YtpnbbgcaaogpdaaDoor
open Go.Vc Go.Sha Go.Trail Go.RowKit Go.Man
set_option linter.unusedVariables false
set_option maxRecDepth 4000
def u8 (n : Nat) : Value := .int .u8 n
theorem u8_one (bs : List Nat) : ∀ u ∈ bs.map u8, one u = true := by
  intro u hu
  obtain ⟨n, _, rfl⟩ := List.mem_map.1 hu
  rfl
theorem bytesV_lst (s : ByteArray) : bytesV s = (lst s).map u8 := by
  have := bytesV_str (lst s) (lst_lt s)
  rw [str_lst] at this; exact this
theorem cells5 : Tryd.prog.cellsOf 5 = 1 := by kernel_rfl
theorem zero5 : (((Tryd.prog.info? 5).bind (·.zero)).getD undef).cells.size = 1 := by kernel_rfl
theorem bytes5 : Tryd.prog.bytesOf 5 = 1 := by kernel_rfl
/-- an append to a slice of one's own, what it keeps told sharply -/
theorem app5 {h0 h : Heap} {l c m : Nat} {a : Option Addr} {x : Value} {bs new : List Nat} {K : Option Addr → Nat → Nat → Heap → Prop}
    (o : OwnAt 5 h0 h a l c (bs.map u8)) (src : srcK h 1 x m (new.map u8)) (hnew : new.length = m) (room : l + m < 2 ^ 40)
    (hK : ∀ a' c' h', OwnAt 5 h0 h' a' (l + m) c' ((bs ++ new).map u8) → Keep (fun k => a = some ⟨k, 0, none⟩ ∨ h.size ≤ k) h h' → (∀ k, a' = some ⟨k, 0, none⟩ → a = some ⟨k, 0, none⟩ ∨ h.size ≤ k) → K a' (l + m) c' h') : appK Tryd.prog 5 h a l c x K := by
  refine appK_ownN cells5 zero5 o.own src (by rw [List.length_map, hnew]) (u8_one _) (by rw [bytes5]; omega) fun a' c' h' o' k' d' => hK a' c' h' ⟨by rw [List.map_append]; exact o', fun k e => ?_, ?_⟩ k' d'
  · rcases d' k e with e | e
    · exact o.new k e
    · have := o.ext.size; omega
  · have : Keep (h0.size ≤ ·) h0 h' := (o.ext.keep _).trans (k'.mono fun i _ e => by
      rcases e with e | e
      · exact o.new _ e
      · have := o.ext.size; omega)
    exact this.ext fun i hi e => by omega
/-- an append that must move -/
theorem app5_grow {h0 h : Heap} {l c m : Nat} {a : Option Addr} {x : Value} {bs new : List Nat} {K : Option Addr → Nat → Nat → Heap → Prop}
    (hx : Ext h0 h) (hl : bs.length = l) (hc : ∀ ad, a = some ad → CellsAt h ad (bs.map u8)) (hn : a = none → bs = []) (src : srcK h 1 x m (new.map u8)) (hnew : new.length = m) (hgt : c < l + m) (room : l + m < 2 ^ 40)
    (hK : ∀ a' c' h', OwnAt 5 h0 h' a' (l + m) c' ((bs ++ new).map u8) → Ext h h' → K a' (l + m) c' h') : appK Tryd.prog 5 h a l c x K := by
  refine ⟨m, new.map u8, by rw [cells5]; exact src, fun hle => by omega, fun _ => ⟨bs.map u8, by rw [cells5, List.length_map]; omega, hc, fun e => by rw [hn e]; rfl, growslice_fits hgt (by rw [bytes5]; omega), ?_⟩⟩
  rintro c' b' h' hc' ⟨rfl, rfl⟩
  refine hK _ _ _ ⟨.inr ⟨by simp; omega, hc', h.size, _, rfl, Nat.zero_le _, Array.getElem?_push_size, ?_, ?_⟩, fun k e => by cases e; exact hx.size, hx.trans (Ext.push _ _)⟩ (Ext.push _ _)
  · simp [Builtin.zeroCells, zero5, hnew, hl]; omega
  · simp only [Array.toList_append, List.map_append]
    rw [List.take_append_of_le_length (by simp [hnew, hl]), List.take_of_length_le (by simp [hnew, hl])]

/-- a number by sevens of bits -/
def varF : Nat → Nat → List Nat
  | 0, n => [n]
  | f + 1, n => if n < 128 then [n] else (n % 128 + 128) :: varF f (n / 128)
def varB (n : Nat) : List Nat := varF 10 n
theorem varF_len : ∀ f n, (varF f n).length ≤ f + 1
  | 0, n => by simp [varF]
  | f + 1, n => by
    unfold varF
    split
    · simp
    · have := varF_len f (n / 128)
      simp only [List.length_cons]; omega
theorem varF_pos : ∀ f n, 0 < (varF f n).length
  | 0, n => by simp [varF]
  | f + 1, n => by
    unfold varF
    split <;> simp
theorem or128 : ∀ m : Nat, m < 256 → m ||| 128 = m % 128 + 128 := by decide +kernel
theorem orI128 (m : Nat) : orI .u8 (IntKind.u8.wrap (m : Int)) 128 = ((m % 128 + 128 : Nat) : Int) := by
  rw [u8_wrap]
  have h2 : m % 256 ||| 128 = m % 128 + 128 := by rw [or128 _ (Nat.mod_lt _ (by decide))]; omega
  have e : (BitVec.ofInt 8 ((m % 256 : Nat) : Int) ||| BitVec.ofInt 8 (128 : Int)).toNat = m % 256 ||| 128 := by
    rw [BitVec.ofInt_natCast, BitVec.toNat_or, BitVec.toNat_ofNat, Nat.mod_eq_of_lt (show m % 256 < 2 ^ 8 by omega)]
    rfl
  show IntKind.u8.wrap ((BitVec.ofInt 8 ((m % 256 : Nat) : Int) ||| BitVec.ofInt 8 (128 : Int)).toNat : Int) = _
  rw [e, h2, u8_wrap, Nat.mod_eq_of_lt (by omega)]
theorem shr7 (m : Nat) : shrI .u64 (m : Int) 7 = ((m / 128 : Nat) : Int) := by
  unfold shrI
  rw [show min ((7 : Int).toNat) IntKind.u64.bits = 7 from rfl]
  rw [Int.fdiv_eq_ediv_of_nonneg _ (by decide)]
  simp
theorem var_ok (n : Nat) (hn : n < 2 ^ 64) (h : Heap) : HEnt Tryd.prog 36 #[.int .u64 n] h fun v h' => ∃ a c, v = .slice a (varB n).length c ∧ OwnAt 5 h h' a (varB n).length c ((varB n).map u8) := by
  refine F36_ent _ _ _ ?_
  unfold F36
  refine ⟨fun x a l c hh => ∃ (f m : Nat) (bs : List Nat), x = m ∧ 1 ≤ f ∧ f ≤ 10 ∧ m < 128 ^ f ∧ bs.length = 10 - f ∧ bs ++ varF f m = varB n ∧ OwnAt 5 h hh a l c (bs.map u8), fun x _ _ _ _ => x.toNat, ⟨10, n, [], rfl, by omega, by omega, Nat.lt_of_lt_of_le hn (by decide), rfl, rfl, OwnAt.nil 5 (Ext.refl h)⟩, ?_⟩
  rintro h1 _ a l c ⟨f, m, bs, rfl, hf, hf2, hm, hbl, hb, o⟩
  have hol := o.len
  rw [List.length_map] at hol
  obtain ⟨f, rfl⟩ : ∃ g, f = g + 1 := ⟨f - 1, by omega⟩
  unfold F36_b1
  refine br_of (fun g => ?_) (fun g => ?_)
  · have hm' : 128 ≤ m := by simp at g; omega
    have hf' : 1 ≤ f := by
      refine Nat.pos_of_ne_zero fun e => ?_
      subst e; simp at hm; omega
    unfold F36_k2
    refine ⟨by decide, newK_intro fun h2 n2 x2 _ => ?_⟩
    rw [orI128] at n2
    refine app5 (m := 1) (new := [m % 128 + 128]) (o.grow x2) (srcK_slice rfl (fun ad e => by cases e; exact cells_blk0 n2) (by rintro ⟨⟩)) rfl (by omega) fun a' c' h3 o3 _ _ => ⟨by decide, ?_⟩
    rintro _ rfl
    rw [shr7]
    refine ⟨⟨f, m / 128, bs ++ [m % 128 + 128], rfl, hf', by omega, ?_, by simp; omega, ?_, o3⟩, by show ((m / 128 : Nat) : Int).toNat < (m : Int).toNat; omega⟩
    · rw [Nat.pow_succ] at hm; omega
    · rw [← hb]
      conv => rhs; unfold varF
      rw [if_neg (by omega)]
      simp
  · have hm' : m < 128 := by simp at g; omega
    unfold F36_k3
    refine ⟨by decide, newK_intro fun h2 n2 x2 _ => ?_⟩
    rw [u8_wrap, Nat.mod_eq_of_lt (by omega)] at n2
    refine app5 (m := 1) (new := [m]) (o.grow x2) (srcK_slice rfl (fun ad e => by cases e; exact cells_blk0 n2) (by rintro ⟨⟩)) rfl (by omega) fun a' c' h3 o3 _ _ => ?_
    have e : varB n = bs ++ [m] := by
      rw [← hb]
      conv => lhs; unfold varF
      rw [if_pos hm']
    have e2 : (varB n).length = l + 1 := by rw [e]; simp; omega
    exact ⟨a', c', by rw [e2], by rw [e2, e]; exact o3⟩

theorem own_len {h0 h : Heap} {a : Option Addr} {l c : Nat} {bs : List Nat} (o : OwnAt 5 h0 h a l c (bs.map u8)) : bs.length = l := by
  have := o.len; rwa [List.length_map] at this
theorem own_cells {h0 h : Heap} {a : Option Addr} {l c : Nat} {bs : List Nat} (o : OwnAt 5 h0 h a l c (bs.map u8)) : (∀ ad, a = some ad → CellsAt h ad (bs.map u8)) ∧ (a = none → bs = []) := by
  rcases o.own with ⟨rfl, rfl, rfl, e⟩ | o
  · exact ⟨fun ad e' => (by cases e'), fun _ => List.map_eq_nil_iff.1 e⟩
  · refine ⟨fun ad e => ?_, fun e => ?_⟩
    · obtain ⟨b, rfl, _, _, h⟩ := o.cells ad e
      exact h
    · obtain ⟨b, cs, e2, _⟩ := o.ex
      rw [e] at e2; cases e2
theorem mkCells_size (z : Array Value) (n : Nat) : (mkCells z n).size = n := by simp [mkCells]
theorem padded_ok (s : ByteArray) (n : Nat) (hs : s.size ≤ n) (hn : n < 2 ^ 40) (h : Heap) : HEnt Tryd.prog 34 #[.string s, .int .i64 n] h fun v h' => v = .string (str (pad (lst s) n)) ∧ Ext h h' := by
  refine F34_ent _ _ _ _ ?_
  have ls := lst_len s
  unfold F34
  rw [Int.toNat_natCast, Nat.mul_one]
  refine ⟨by omega, by omega, by omega, by omega, newK_intro fun h1 hb1 x1 _ => ?_⟩
  rintro _ rfl
  have o1 : OwnAt 5 h h1 (some (at0 h.size)) 0 n (([] : List Nat).map u8) := ⟨.inr ⟨rfl, Nat.zero_le _, h.size, _, rfl, Nat.zero_le _, hb1, by rw [mkCells_size]; exact Nat.le_refl _, by simp⟩, fun k e => by cases e; exact Nat.le_refl _, x1⟩
  refine ⟨fun a l c x h' => ∃ k : Nat, x = k ∧ s.size ≤ k ∧ k ≤ n ∧ OwnAt 5 h h' a l c ((List.replicate (k - s.size) 48).map u8), fun _ _ _ x _ => (n - x).toNat, ⟨s.size, rfl, Nat.le_refl _, hs, by rw [Nat.sub_self]; exact o1⟩, ?_⟩
  rintro h2 a l c _ ⟨k, rfl, hk1, hk2, o⟩
  have hol := own_len o
  rw [List.length_replicate] at hol
  unfold F34_b1
  refine br_of (fun ht => ?_) (fun hf => ?_)
  · have hk' : k < n := by
      have : (k : Int) < (n : Int) := by simpa using ht
      omega
    have e1 : IntKind.i64.wrap ((k : Int) + 1) = ((k + 1 : Nat) : Int) := by rw [i64_lt _ (by omega) (by omega)]; omega
    unfold F34_k2
    refine ⟨by decide, newK_intro fun h3 n3 x3 _ => ?_⟩
    refine app5 (m := 1) (new := [48]) (o.grow x3) (srcK_slice rfl (fun ad e => by cases e; exact cells_blk0 n3) (by rintro ⟨⟩)) rfl (by omega) fun a' c' h4 o4 _ _ => ?_
    rintro _ rfl
    rw [e1]
    refine ⟨⟨k + 1, rfl, by omega, by omega, ?_⟩, by show ((n : Int) - ((k + 1 : Nat) : Int)).toNat < ((n : Int) - (k : Int)).toNat; omega⟩
    rw [show k + 1 - s.size = (k - s.size) + 1 by omega, List.replicate_succ']
    exact o4
  · have hk' : k = n := by
      have : ¬ (k : Int) < (n : Int) := by simpa using hf
      omega
    subst hk'
    unfold F34_k3
    refine app5 (m := s.size) (new := lst s) o ⟨rfl, (bytesV_lst s).symm⟩ ls (by omega) fun a' c' h4 o4 _ _ => ?_
    have hc := own_cells o4
    have hl := own_len o4
    have e : List.replicate (k - s.size) 48 ++ lst s = pad (lst s) k := by unfold pad; rw [ls]
    rw [e] at hc hl
    refine ⟨str (pad (lst s) k), by rw [str_size]; exact hl, fun ad e => ?_, fun e => by rw [← hl, hc.2 e]; rfl, rfl, o4.ext⟩
    rw [bytesV_str]
    · exact hc.1 ad e
    · intro x hx
      unfold pad at hx
      rcases List.mem_append.1 hx with hx | hx
      · rw [(List.mem_replicate.1 hx).2]; decide
      · exact lst_lt s x hx
end Go.Proofs.YtpnbbgcaaogpdaaDoor
