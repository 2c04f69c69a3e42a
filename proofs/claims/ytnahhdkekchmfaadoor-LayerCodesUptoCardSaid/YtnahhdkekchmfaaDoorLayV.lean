import Derived.Test.YtnahhdkekchmfaaDoorLayO
import Derived.Test.YtnahhdkekchmfaaDoorVlpF

namespace Go.Proofs.YtnahhdkekchmfaaDoor
open Go.Vc Go.Sha Go.Trail Go.Lay
set_option linter.unusedVariables false
set_option maxRecDepth 4000
theorem tmodn (m n : Nat) : (m : Int).tmod (n : Int) = ((m % n : Nat) : Int) := rfl
theorem tdivn (m n : Nat) : (m : Int).tdiv (n : Int) = ((m / n : Nat) : Int) := rfl
theorem refVar_ok (n : Nat) (hn : n < 2 ^ 64) (h : Heap) : HEnt Tryd.prog 37 #[.int .u64 n] h fun v h' => ∃ a c, v = .slice a (varB n).length c ∧ OwnAt 5 h h' a (varB n).length c ((varB n).map u8) := by
  refine F37_ent _ _ _ ?_
  unfold F37
  refine ⟨fun x a l c hh => ∃ (f m : Nat) (bs : List Nat), x = m ∧ 1 ≤ f ∧ f ≤ 10 ∧ m < 128 ^ f ∧ m < 2 ^ 64 ∧ bs.length = 10 - f ∧ bs ++ varF f m = varB n ∧ OwnAt 5 h hh a l c (bs.map u8), fun x _ _ _ _ => x.toNat, ⟨10, n, [], rfl, by omega, by omega, Nat.lt_of_lt_of_le hn (by decide), hn, rfl, rfl, OwnAt.nil 5 (Ext.refl h)⟩, ?_⟩
  rintro h1 _ a l c ⟨f, m, bs, rfl, hf, hf2, hm, hm64, hbl, hb, o⟩
  have hol := o.len
  rw [List.length_map] at hol
  obtain ⟨f, rfl⟩ : ∃ g, f = g + 1 := ⟨f - 1, by omega⟩
  unfold F37_b1
  refine br_of (fun g => ?_) (fun g => ?_)
  · have hm' : 128 ≤ m := by simp at g; omega
    have hf' : 1 ≤ f := by
      refine Nat.pos_of_ne_zero fun e => ?_
      subst e; simp at hm; omega
    unfold F37_k2
    have e1 : (IntKind.u8.wrap (IntKind.u64.wrap ((m : Int).tmod 128 + 128)) : Int) = ((m % 128 + 128 : Nat) : Int) := by
      have : (m : Int).tmod 128 = ((m % 128 : Nat) : Int) := tmodn m 128
      rw [this, u64_lt _ (by omega) (by omega)]
      have : (((m % 128 : Nat) : Int) + 128) = ((m % 128 + 128 : Nat) : Int) := by omega
      rw [this, u8_wrap, Nat.mod_eq_of_lt (by omega)]
    have e2 : (IntKind.u64.wrap ((m : Int).tdiv 128) : Int) = ((m / 128 : Nat) : Int) := by
      have : (m : Int).tdiv 128 = ((m / 128 : Nat) : Int) := tdivn m 128
      rw [this, u64_lt _ (by omega) (by omega)]
    rw [e1, e2]
    refine ⟨by decide, by decide, newK_intro fun h2 n2 x2 _ => ?_⟩
    refine app5 (m := 1) (new := [m % 128 + 128]) (o.grow x2) (srcK_slice rfl (fun ad e => by cases e; exact cells_blk0 n2) (by rintro ⟨⟩)) rfl (by omega) fun a' c' h3 o3 _ _ => ⟨by decide, ?_⟩
    rintro _ rfl
    refine ⟨⟨f, m / 128, bs ++ [m % 128 + 128], rfl, hf', by omega, ?_, by omega, by simp; omega, ?_, o3⟩, by show ((m / 128 : Nat) : Int).toNat < (m : Int).toNat; omega⟩
    · rw [Nat.pow_succ] at hm; omega
    · rw [← hb]
      conv => rhs; unfold varF
      rw [if_neg (by omega)]
      simp
  · have hm' : m < 128 := by simp at g; omega
    unfold F37_k3
    refine ⟨by decide, newK_intro fun h2 n2 x2 _ => ?_⟩
    rw [u8_wrap, Nat.mod_eq_of_lt (by omega)] at n2
    refine app5 (m := 1) (new := [m]) (o.grow x2) (srcK_slice rfl (fun ad e => by cases e; exact cells_blk0 n2) (by rintro ⟨⟩)) rfl (by omega) fun a' c' h3 o3 _ _ => ?_
    have e : varB n = bs ++ [m] := by
      rw [← hb]
      conv => lhs; unfold varF
      rw [if_pos hm']
    have e2 : (varB n).length = l + 1 := by rw [e]; simp; omega
    exact ⟨a', c', by rw [e2], by rw [e2, e]; exact o3⟩
theorem str_app' (x y : List Nat) (s : ByteArray) : str x ++ s = str (x ++ lst s) := by
  conv => lhs; rw [← str_lst s]
  exact str_app x (lst s)
/-- a slice of one's own as a text -/
theorem own_str {h0 h : Heap} {a : Option Addr} {l c : Nat} {bs : List Nat} (o : OwnAt 5 h0 h a l c (bs.map u8)) (hb : ∀ x ∈ bs, x < 256) : (str bs).size = l ∧ (∀ ad, a = some ad → CellsAt h ad (bytesV (str bs))) ∧ (a = none → l = 0) := by
  have w := own_tab8 o
  refine ⟨by rw [str_size, own_len o], fun ad e => tab8_cells w hb ad e, fun e => ?_⟩
  have := w.nil e
  have h0 : (rows8 bs).length = 0 := by rw [this]; rfl
  rw [rows8_len] at h0
  have := own_len o; omega
theorem refText_ok (s : ByteArray) (hs : s.size < 2 ^ 40) (h : Heap) : HEnt Tryd.prog 38 #[.string s] h fun v h' => v = .string (str (textB s)) ∧ Ext h h' := by
  refine F38_ent _ _ _ ?_
  unfold F38
  rw [u64_lt _ (by omega) (by omega)]
  refine HEnt.use (refVar_ok s.size (by omega) h) ?_
  rintro _ h1 ⟨a1, c1, rfl, o1⟩
  obtain ⟨g1, g2, g3⟩ := own_str o1 (varB_lt _ (by omega))
  have := varF_len 10 s.size
  refine ⟨_, _, _, rfl, str (varB s.size), g1, g2, g3, by rw [str_size]; unfold varB; omega, ?_, o1.ext⟩
  rw [str_app' _ [] s]; rfl
theorem str_tab {h h1 : Heap} {s : ByteArray} {b c : Nat} (n : New h b (.cells ((bytesV s).toArray ++ Array.replicate (c - s.size) (.int .u8 0)) 5 (c, c + 1)) h1) (hc : s.size ≤ c) : Tab 1 h1 (some (at0 b)) s.size c (rows8 (lst s)) := by
  obtain ⟨rfl, rfl⟩ := n
  have hb : (h.push (.cells ((bytesV s).toArray ++ Array.replicate (c - s.size) (.int .u8 0)) 5 (c, c + 1)))[h.size]? = some (.cells ((bytesV s).toArray ++ Array.replicate (c - s.size) (.int .u8 0)) 5 (c, c + 1)) := Array.getElem?_push_size
  refine ⟨by rw [rows8_len, lst_len], hc, fun r hr => ?_, fun hne => ⟨h.size, 0, rfl, blk_lt hb, fun i r hi j v hj => ?_⟩, fun e => by cases e⟩
  · obtain ⟨n, _, rfl⟩ := List.mem_map.1 hr; rfl
  · rw [rows8, List.getElem?_map] at hi
    obtain ⟨n, hn, rfl⟩ := Option.map_eq_some_iff.1 hi
    have hlt := (List.getElem?_eq_some_iff.1 hn).1
    match j, hj with
    | 0, hj =>
      cases hj
      rw [cell_blk hb, bytesV_lst, Nat.zero_add, Nat.mul_one, Nat.add_zero, Array.getElem?_append_left (by simpa using hlt)]
      rw [List.getElem?_toArray, List.getElem?_map, hn]; rfl
theorem refReadVar_ok (a : Option Addr) (l c : Nat) (bs : List Nat) (h : Heap) (w : Tab 1 h a l c (rows8 bs)) (hb : ∀ x ∈ bs, x < 256) (hl : l < 2 ^ 40) :
    HEnt Tryd.prog 51 #[.slice a l c] h fun v h' => v = .tuple #[.int .u64 (readVar bs).1, .int .i64 (readVar bs).2.1, .int .i64 (readVar bs).2.2] ∧ h' = h := by
  have hlen : bs.length = l := by have := w.len; rwa [rows8_len] at this
  refine F51_ent _ _ _ _ _ ?_
  unfold F51
  rintro _ rfl _ rfl _ rfl
  refine ⟨fun x y j hh => ∃ i v : Nat, x = v ∧ y = (128 ^ i : Nat) ∧ j = i ∧ i ≤ 9 ∧ v < 128 ^ i ∧ hh = h ∧ readVar bs = rv bs (10 - i) i v, fun _ _ j _ => (10 - j).toNat, ⟨0, 0, rfl, rfl, rfl, by omega, by decide, rfl, rfl⟩, ?_⟩
  rintro h1 _ _ _ ⟨i, v, rfl, rfl, rfl, hi, hv, rfl, hr⟩
  have hp9 : 128 ^ i ≤ 128 ^ 9 := Nat.pow_le_pow_right (by decide) hi
  have h9 : (128 : Nat) ^ 9 = 2 ^ 63 := by decide
  unfold F51_b1
  refine br_of (fun _ => ?_) (fun g => by simp at g; omega)
  rw [show 10 - i = (9 - i) + 1 by omega] at hr
  unfold rv at hr
  unfold F51_k2
  refine br_of (fun g2 => ?_) (fun g2 => ?_)
  · have g2' : bs.length ≤ i := by simp at g2; omega
    rw [if_pos g2'] at hr
    exact ⟨by rw [hr]; rfl, rfl⟩
  have g2' : ¬ bs.length ≤ i := by simp at g2; omega
  rw [if_neg g2'] at hr
  obtain ⟨q, eq, _, hc⟩ := tab8_get w (i := i) (by omega)
  have hlt : bs.getD i 0 < 256 := getD_lt hb i
  have hc' : Vc.cell h1 (q.add ((i : Int).toNat * 1)) = some (.int .u8 (bs.getD i 0 : Nat)) := by rw [Int.toNat_natCast]; exact hc
  generalize bs.getD i 0 = cc at *
  have k4 : ∀ bb : Bool, (bb = true ↔ i = 9 ∧ cc > 1) → F51_k4 (fun x y j hh => ∃ i v : Nat, x = v ∧ y = (128 ^ i : Nat) ∧ j = i ∧ i ≤ 9 ∧ v < 128 ^ i ∧ hh = h1 ∧ readVar bs = rv bs (10 - i) i v) (fun _ _ j _ => (10 - j).toNat) ((10 : Int) - (i : Int)).toNat a l c v (128 ^ i : Nat) i bb h1 fun v h' => v = .tuple #[.int .u64 (readVar bs).1, .int .i64 (readVar bs).2.1, .int .i64 (readVar bs).2.2] ∧ h' = h1 := by
    intro bb hbb
    unfold F51_k4
    refine br_of (fun g3 => ?_) (fun g3 => ?_)
    · rw [if_pos (hbb.1 g3)] at hr
      exact ⟨by rw [hr]; rfl, rfl⟩
    have g3' : ¬ (i = 9 ∧ cc > 1) := fun e => by rw [hbb.2 e] at g3; cases g3
    rw [if_neg g3'] at hr
    have hp : cc % 128 * 128 ^ i < 2 ^ 64 ∧ v + cc % 128 * 128 ^ i < 2 ^ 64 := by
      by_cases e : i = 9
      · subst e
        have hc1 : cc % 128 ≤ 1 := by omega
        have : cc % 128 * 128 ^ 9 ≤ 1 * 128 ^ 9 := Nat.mul_le_mul_right _ hc1
        omega
      · have h8 : 128 ^ i ≤ 128 ^ 8 := Nat.pow_le_pow_right (by decide) (by omega)
        have : cc % 128 * 128 ^ i ≤ 127 * 128 ^ 8 := Nat.mul_le_mul (by omega) h8
        have : v < 128 ^ 8 := Nat.lt_of_lt_of_le hv h8
        have : (128 : Nat) ^ 8 = 2 ^ 56 := by decide
        omega
    unfold F51_k5
    refine ⟨q, eq, by omega, by omega, _, hc', by decide, ?_⟩
    have es : IntKind.u64.wrap ((v : Int) + IntKind.u64.wrap (IntKind.u64.wrap ((cc : Int).tmod 128) * ((128 ^ i : Nat) : Int))) = ((v + cc % 128 * 128 ^ i : Nat) : Int) := by
      have e0 : (cc : Int).tmod 128 = ((cc % 128 : Nat) : Int) := tmodn cc 128
      rw [e0, u64_lt ((cc % 128 : Nat) : Int) (by omega) (by omega), ← Int.natCast_mul, u64_lt ((cc % 128 * 128 ^ i : Nat) : Int) (by omega) (by omega), ← Int.natCast_add, u64_lt _ (by omega) (by omega)]
    rw [es]
    rintro _ rfl _ rfl
    have hv' : v + cc % 128 * 128 ^ i < 128 ^ (i + 1) := by
      have : cc % 128 * 128 ^ i ≤ 127 * 128 ^ i := Nat.mul_le_mul_right _ (by omega)
      rw [Nat.pow_succ]; omega
    generalize v + cc % 128 * 128 ^ i = y at *
    have k6 : ∀ b6 : Bool, (b6 = true ↔ cc = 0 ∧ 0 < i) → cc < 128 → F51_k6 (fun x y j hh => ∃ i v : Nat, x = v ∧ y = (128 ^ i : Nat) ∧ j = i ∧ i ≤ 9 ∧ v < 128 ^ i ∧ hh = h1 ∧ readVar bs = rv bs (10 - i) i v) (fun _ _ j _ => (10 - j).toNat) ((10 : Int) - (i : Int)).toNat y i b6 h1 fun v h' => v = .tuple #[.int .u64 (readVar bs).1, .int .i64 (readVar bs).2.1, .int .i64 (readVar bs).2.2] ∧ h' = h1 := by
      intro b6 hb6 h128
      rw [if_pos h128] at hr
      unfold F51_k6
      refine br_of (fun g5 => ?_) (fun g5 => ?_)
      · rw [if_pos (hb6.1 g5)] at hr
        exact ⟨by rw [hr]; rfl, rfl⟩
      · rw [if_neg (fun e => by rw [hb6.2 e] at g5; cases g5)] at hr
        unfold F51_k7
        rw [i64_lt _ (by omega) (by omega)]
        exact ⟨by rw [hr]; rfl, rfl⟩
    refine ⟨q, eq, by omega, by omega, _, hc', br_of (fun g4 => ⟨q, eq, by omega, by omega, _, hc', br_of (fun g5 => ?_) (fun g5 => ?_)⟩) (fun g4 => ?_)⟩
    · refine k6 _ ?_ ?_
      · simp at g5; simp; omega
      · simp at g4; omega
    · refine k6 _ ?_ ?_
      · simp at g5; simp; omega
      · simp at g4; omega
    · have g4' : ¬ cc < 128 := by simp at g4; omega
      rw [if_neg g4'] at hr
      have hi9 : i ≠ 9 := fun e => g3' ⟨e, by omega⟩
      unfold F51_k8
      rintro _ rfl
      rw [i64_lt _ (by omega) (by omega)]
      have h8 : 128 ^ (i + 1) ≤ 128 ^ 9 := Nat.pow_le_pow_right (by decide) (by omega)
      refine ⟨⟨i + 1, y, rfl, ?_, by omega, by omega, hv', rfl, by rw [hr]; congr 1; omega⟩, by show ((10 : Int) - ((i : Int) + 1)).toNat < ((10 : Int) - i).toNat; omega⟩
      have e1 : (((128 ^ i : Nat) : Int) * 128) = ((128 ^ (i + 1) : Nat) : Int) := by rw [Nat.pow_succ]; push_cast; rfl
      rw [e1, u64_lt _ (by omega) (by omega)]
  unfold F51_k3
  refine br_of (fun g3 => ⟨q, eq, by omega, by omega, _, hc', k4 _ ?_⟩) (fun g3 => k4 _ ?_)
  · have g3' : i = 9 := by simp at g3; omega
    simp only [decide_eq_true_eq]; omega
  · have g3' : i ≠ 9 := by simp at g3; omega
    exact ⟨fun e => (by cases e), fun e => absurd e.1 g3'⟩
/-- what cut tells -/
def cutC (bs : List Nat) : Value := match textP bs with
  | some (x, y) => .tuple #[.string (str x), .string (str y), .bool true]
  | none => .tuple #[.string ByteArray.empty, .string ByteArray.empty, .bool false]
theorem textP_eq (bs : List Nat) : textP bs = if (readVar bs).2.2 = 0 ∧ (readVar bs).1 ≤ bs.length - (readVar bs).2.1 then some ((bs.drop (readVar bs).2.1).take (readVar bs).1, (bs.drop (readVar bs).2.1).drop (readVar bs).1) else none := by
  unfold textP numP
  by_cases h1 : (readVar bs).2.2 = 0
  · by_cases h2 : (readVar bs).1 ≤ bs.length - (readVar bs).2.1
    · rw [if_pos ⟨h1, by omega⟩, if_pos ⟨h1, h2⟩]
      show takeP _ _ = _
      unfold takeP
      rw [if_pos (by rw [List.length_drop]; exact h2)]
    · rw [if_neg (show ¬ ((readVar bs).2.2 = 0 ∧ (readVar bs).1 ≤ bs.length - (readVar bs).2.1) from fun h => h2 h.2)]
      by_cases h3 : (readVar bs).1 ≤ bs.length
      · rw [if_pos ⟨h1, h3⟩]
        show takeP _ _ = _
        unfold takeP
        rw [if_neg (by rw [List.length_drop]; exact h2)]
      · rw [if_neg (show ¬ ((readVar bs).2.2 = 0 ∧ (readVar bs).1 ≤ bs.length) from fun h => h3 h.2)]; rfl
  · rw [if_neg (fun h => h1 h.1), if_neg (fun h => h1 h.1)]; rfl
theorem cut_ok (s : ByteArray) (hs : s.size < 2 ^ 40) (h : Heap) : HEnt Tryd.prog 52 #[.string s] h fun v h' => v = cutC (lst s) ∧ Ext h h' := by
  have hl := lst_len s
  have hbd := rv_bound (lst s) 10 0 0
  rw [show rv (lst s) 10 0 0 = readVar (lst s) from rfl] at hbd
  refine F52_ent _ _ _ ?_
  unfold F52
  intro c b h1 hc n1
  have x1 : Ext h h1 := by obtain ⟨rfl, rfl⟩ := n1; exact Ext.push _ _
  refine HEnt.use (refReadVar_ok _ _ _ (lst s) h1 (str_tab n1 hc) (lst_lt s) hs) ?_
  rintro _ h2 ⟨rfl, e2⟩
  replace e2 := e2.symm
  subst e2
  have k1 : ∀ bb : Bool, (bb = true ↔ ¬ ((readVar (lst s)).2.2 = 0 ∧ (readVar (lst s)).1 ≤ (lst s).length - (readVar (lst s)).2.1)) → F52_k1 s (readVar (lst s)).1 (readVar (lst s)).2.1 bb h1 fun v h' => v = cutC (lst s) ∧ Ext h h' := by
    intro bb hbb
    unfold F52_k1 cutC
    rw [textP_eq]
    refine br_of (fun g => ?_) (fun g => ?_)
    · rw [if_neg (hbb.1 g)]
      exact ⟨rfl, x1⟩
    · have g' : (readVar (lst s)).2.2 = 0 ∧ (readVar (lst s)).1 ≤ (lst s).length - (readVar (lst s)).2.1 := Classical.byContradiction fun e => by rw [hbb.2 e] at g; cases g
      rw [if_pos g']
      unfold F52_k2
      have e1 : IntKind.i64.wrap (((readVar (lst s)).2.1 : Int) + IntKind.i64.wrap ((readVar (lst s)).1 : Int)) = (((readVar (lst s)).2.1 + (readVar (lst s)).1 : Nat) : Int) := by
        have a1 : ((readVar (lst s)).2.1 : Int) + ((readVar (lst s)).1 : Int) = (((readVar (lst s)).2.1 + (readVar (lst s)).1 : Nat) : Int) := by omega
        rw [i64_lt ((readVar (lst s)).1 : Int) (by omega) (by omega), a1]
        exact i64_lt _ (by omega) (by omega)
      rw [e1]
      refine ⟨by omega, by omega, by omega, by omega, by omega, by omega, fun h3 e3 => ?_⟩
      obtain rfl : h3 = h1 := e3
      refine ⟨?_, x1⟩
      rw [Int.toNat_natCast, Int.toNat_natCast, Int.toNat_natCast, str_cut, str_cut, Nat.add_sub_cancel_left, List.drop_drop, List.take_of_length_le (l := (lst s).drop ((readVar (lst s)).2.1 + (readVar (lst s)).1)) (by rw [List.length_drop]; omega)]
  refine ⟨_, _, _, rfl, br_of (fun g => k1 _ ?_) (fun g => ?_)⟩
  · have g' : (readVar (lst s)).2.2 ≠ 0 := by simp at g; omega
    exact ⟨fun _ h => g' h.1, fun _ => rfl⟩
  · have g' : (readVar (lst s)).2.2 = 0 := by simp at g; omega
    rw [i64_lt _ (by omega) (by omega), u64_lt _ (by omega) (by omega)]
    refine k1 _ ?_
    simp only [decide_eq_true_eq]; omega
end Go.Proofs.YtnahhdkekchmfaaDoor

namespace Go.Proofs.YtnahhdkekchmfaaDoor
open Go.Vc Go.Sha Go.Trail Go.Lay
set_option linter.unusedVariables false
set_option maxRecDepth 4000
theorem conv_str {w : World} {b : Nat} {bs : List Nat} (h3 : bs.length = 3) (hb : ∀ x ∈ bs, x < 256) (hc : CellsAt w.heap (at0 b) (bs.map u8)) : (convert 40 9 (.slice (some (at0 b)) 3 3)).run Tryd.prog w = .ok (.string (str bs)) w := by
  have hbv : bytesV (str bs) = bs.map u8 := by rw [bytesV_lst, lst_str bs hb]
  have := Vc.run_bytesToString (P := Tryd.prog) (w := w) (a := some (at0 b)) (l := 3) (c := 3) (str bs) (by rw [str_size, h3]) (fun ad e => by cases e; rw [hbv]; exact hc) (by rintro ⟨⟩)
  simp [convert, run_und Tryd.underlying40, run_und Tryd.underlying9, run_und Tryd.underlying5, this]
noncomputable def encS (es : List EntV) : ByteArray := if (checkC es).2 = 0 then str (encodeC es) else ⟨#[]⟩
theorem refEncode_ok (a : Option Addr) (l c : Nat) (es : List EntV) (h : Heap) (w : Tab 4 h a l c (ents es)) (hs : Small es) (hl : l < 2 ^ 40) :
    HEnt Tryd.prog 22 #[.slice a l c] h fun v h' => v = .tuple #[.string (encS es), .int .i64 (checkC es).2] ∧ Ext h h' := by
  have hlen : es.length = l := by have := w.len; rwa [ents_len] at this
  refine F22_ent _ _ _ _ _ ?_
  unfold F22
  refine HEnt.use (refCheck_ok a l c es h w hs hl) ?_
  rintro _ h1 ⟨rfl, x1⟩
  refine ⟨_, _, rfl, br_of (fun g => ?_) (fun g => ?_)⟩
  · have g' : (checkC es).2 ≠ 0 := by simp at g; omega
    exact ⟨by rw [encS, if_neg g'], x1⟩
  have g' : (checkC es).2 = 0 := by simp at g; omega
  obtain ⟨hl64, hz, _⟩ := check_zero g'
  have hvl := varF_len 10 l
  unfold F22_k1
  rw [u64_lt _ (by omega) (by omega)]
  refine HEnt.use (refVar_ok l (by omega) h1) ?_
  rintro _ h2 ⟨a2, c2, rfl, o2⟩
  obtain ⟨q1, q2, q3⟩ := own_str o2 (varB_lt l (by omega))
  refine ⟨_, _, _, rfl, str (varB l), q1, q2, q3, by rw [str_size]; unfold varB; show 3 + _ ≤ _; omega, ?_⟩
  rintro _ rfl _ rfl
  have x2 := x1.trans o2.ext
  have hst : (⟨#[86, 76, 1]⟩ : ByteArray) ++ str (varB l) = str ([86, 76, 1] ++ varB l) := str_app [86, 76, 1] (varB l)
  refine ⟨fun s x hh => ∃ k : Nat, x = k ∧ k ≤ l ∧ Ext h hh ∧ s = str ([86, 76, 1] ++ varB l ++ entsB (es.take k)), fun _ x _ => ((l : Int) - x).toNat, ⟨0, rfl, by omega, x2, by rw [hst]; simp [entsB]⟩, ?_⟩
  rintro h3 _ _ ⟨k, rfl, hk, x3, rfl⟩
  unfold F22_b2
  refine br_of (fun gk => ?_) (fun gk => ?_)
  case refine_2 =>
    have hk' : k = l := by
      have : ¬ (k : Int) < (l : Int) := by simpa using gk
      omega
    unfold F22_k5
    refine ⟨?_, x3⟩
    rw [encS, if_pos g', g', hk', List.take_of_length_le (by omega)]
    unfold encodeC; rw [hlen]; rfl
  have hk' : k < l := by simpa using gk
  obtain ⟨q, eq, _, c0, c1, c2', c3⟩ := ent_get (w.grow x3) (en_get (i := k) (by omega))
  have hsm := hs _ (en_mem (es := es) (i := k) (by omega))
  obtain ⟨_, f1, f2, f3, f4, _, _, f5⟩ := stA_zero (st_zero (hz k (by omega))).1
  have hel := entsB_len (small_take hs k)
  have htk : (es.take k).length ≤ 64 := by rw [List.length_take]; omega
  have hmul := Nat.mul_le_mul_right (2 ^ 31) htk
  have hts : ([86, 76, 1] ++ varB l ++ entsB (es.take k)).length < 2 ^ 38 := by
    simp only [List.length_append, List.length_cons, List.length_nil]
    unfold varB; omega
  have htp := textB_len (en es k).path
  have htb := textB_len (en es k).body
  unfold F22_k3
  refine ⟨q, eq, by omega, by omega, _, _, _, _, by rw [Int.toNat_natCast]; exact c0, by rw [Int.toNat_natCast]; exact c1, by rw [Int.toNat_natCast]; exact c2', by rw [Int.toNat_natCast]; exact c3, rfl, ?_⟩
  refine ((St.start h).grow x3).new fun b h4 s4 x4 _ => ?_
  refine fill (vs := entA (en es k)) s4 zero30 (entA_size _) (entA_one _) fun h5 s5 o5 => ?_
  have ek : (IntKind.u8.wrap (en es k).kind : Int) = ((en es k).kind.toNat : Nat) := by
    rw [show (en es k).kind = ((en es k).kind.toNat : Int) by omega, u8_wrap, Nat.mod_eq_of_lt (by omega)]; simp
  have em : (en es k).mode = ((en es k).mode.toNat : Int) := by omega
  have em1 : (IntKind.u8.wrap (IntKind.i64.wrap ((en es k).mode.tdiv 256)) : Int) = ((en es k).mode.toNat / 256 : Nat) := by
    rw [em]
    have : (((en es k).mode.toNat : Nat) : Int).tdiv 256 = (((en es k).mode.toNat / 256 : Nat) : Int) := tdivn _ 256
    rw [this, i64_lt _ (by omega) (by omega), u8_wrap, Nat.mod_eq_of_lt (by omega), Int.toNat_natCast]
  have em2 : (IntKind.u8.wrap ((en es k).mode.tmod 256) : Int) = ((en es k).mode.toNat % 256 : Nat) := by
    rw [em]
    have : (((en es k).mode.toNat : Nat) : Int).tmod 256 = (((en es k).mode.toNat % 256 : Nat) : Int) := tmodn _ 256
    rw [this, u8_wrap, Nat.mod_eq_of_lt (by omega), Int.toNat_natCast]
  have hb3 : ∀ x ∈ [(en es k).kind.toNat, (en es k).mode.toNat / 256, (en es k).mode.toNat % 256], x < 256 := by
    intro x hx
    simp only [List.mem_cons, List.not_mem_nil, or_false] at hx
    rcases hx with rfl | rfl | rfl <;> omega
  -- behind the two effects
  have last : ∀ {h'}, St h h' [⟨b, entA (en es k), 30⟩] → ∀ s6_1 : ByteArray, s6_1 = str ([86, 76, 1] ++ varB l ++ entsB (es.take k)) ++ str [(en es k).kind.toNat, (en es k).mode.toNat / 256, (en es k).mode.toNat % 256] ++ str (textB (en es k).path) → ∃ x53 : Int, Vc.cell h' ((at0 b).add 1) = some (Value.int .i64 x53) ∧ br ((x53 : Int) == 1) (∃ s57 : ByteArray, Vc.cell h' ((at0 b).add 3) = some (Value.string s57) ∧ HCalls Tryd.prog 38 #[Value.string s57] h' fun r58 h5 => ∃ s58 : ByteArray, r58 = Value.string s58 ∧ s6_1.size + s58.size ≤ 9223372036854775807 ∧ ∀ s6_2 : ByteArray, s6_2 = s6_1 ++ s58 → F22_k4 (fun s x hh => ∃ k : Nat, x = k ∧ k ≤ l ∧ Ext h hh ∧ s = str ([86, 76, 1] ++ varB l ++ entsB (es.take k))) (fun _ x _ => ((l : Int) - x).toNat) ((l : Int) - (k : Int)).toNat a l c s6_2 k h5 fun v h' => v = .tuple #[.string (encS es), .int .i64 (checkC es).2] ∧ Ext h h') (F22_k4 (fun s x hh => ∃ k : Nat, x = k ∧ k ≤ l ∧ Ext h hh ∧ s = str ([86, 76, 1] ++ varB l ++ entsB (es.take k))) (fun _ x _ => ((l : Int) - x).toNat) ((l : Int) - (k : Int)).toNat a l c s6_1 k h' fun v h' => v = .tuple #[.string (encS es), .int .i64 (checkC es).2] ∧ Ext h h') := by
    rintro h' s _ rfl
    rw [str_app, str_app]
    have done : ∀ {h''}, Ext h h'' → ∀ t : ByteArray, t = str ([86, 76, 1] ++ varB l ++ entsB (es.take k) ++ entB (en es k)) → F22_k4 (fun s x hh => ∃ k : Nat, x = k ∧ k ≤ l ∧ Ext h hh ∧ s = str ([86, 76, 1] ++ varB l ++ entsB (es.take k))) (fun _ x _ => ((l : Int) - x).toNat) ((l : Int) - (k : Int)).toNat a l c t k h'' fun v h' => v = .tuple #[.string (encS es), .int .i64 (checkC es).2] ∧ Ext h h' := by
      rintro h'' x'' _ rfl
      unfold F22_k4
      rintro _ rfl
      rw [i64_lt _ (by omega) (by omega)]
      refine ⟨⟨k + 1, by omega, by omega, x'', ?_⟩, by show ((l : Int) - ((k : Int) + 1)).toNat < ((l : Int) - k).toNat; omega⟩
      rw [take_en (by omega), entsB_snoc, ← List.append_assoc]
    refine ⟨_, s.cell 0 rfl rfl, br_of (fun gf => ?_) (fun gf => ?_)⟩
    · have gf' : (en es k).kind = 1 := by simpa using gf
      refine ⟨_, s.cell 0 rfl rfl, HEnt.use (refText_ok _ (by omega) h') ?_⟩
      rintro _ h7 ⟨rfl, x7⟩
      refine ⟨_, rfl, ?_, ?_⟩
      · rw [str_size, str_size]
        simp only [List.length_append, List.length_cons, List.length_nil] at hts ⊢
        omega
      · rintro _ rfl
        refine done (s.ext.trans x7) _ ?_
        rw [str_app]
        unfold entB
        rw [if_pos gf']
        simp only [List.append_assoc]
    · have gf' : (en es k).kind ≠ 1 := by simpa using gf
      refine done s.ext _ ?_
      unfold entB
      rw [if_neg gf']
      simp only [List.append_assoc, List.append_nil]
  have ld3 := fun (k' : Nat) (v : Value) (hv : (entA (en es k))[k']? = some v) => s5.quiet (P := Tryd.prog) 0 rfl (k := k') hv Tryd.underlying3 rfl
  refine ⟨Ext, Ext.refl, fun _ _ _ => Ext.trans, _, ld3 1 _ rfl, _, ld3 2 _ rfl, by decide, _, ld3 2 _ rfl, by decide, _, s5.quiet (P := Tryd.prog) 0 rfl (k := 0) rfl Tryd.underlying9 rfl, ?_, ?_⟩
  · rw [ek, em1, em2]
    refine ⟨by decide, newK_intro fun h6 n6 x6 _ => ⟨x6, str [(en es k).kind.toNat, (en es k).mode.toNat / 256, (en es k).mode.toNat % 256], fun w hw => conv_str rfl hb3 (CellsAt.ext (cells_blk0 n6) hw), ?_, ?_⟩⟩
    · rw [str_size, str_size]
      simp only [List.length_cons, List.length_nil]
      omega
    · refine HEnt.use (refText_ok _ (by omega) h6) ?_
      rintro _ h7 ⟨rfl, x7⟩
      refine ⟨_, rfl, x7, ?_, last ((s5.grow x6).grow x7)⟩
      rw [str_app, str_size, str_size]
      simp only [List.length_append, List.length_cons, List.length_nil] at hts ⊢
      omega
  · rw [ek, em1, em2]
    refine HEnt.use (refText_ok _ (by omega) h5) ?_
    rintro _ h6 ⟨rfl, x6⟩
    refine ⟨_, rfl, x6, by decide, newK_intro fun h7 n7 x7 _ => ⟨x7, str [(en es k).kind.toNat, (en es k).mode.toNat / 256, (en es k).mode.toNat % 256], fun w hw => conv_str rfl hb3 (CellsAt.ext (cells_blk0 n7) hw), ?_, ?_, last ((s5.grow x6).grow x7)⟩⟩
    · rw [str_size, str_size]
      simp only [List.length_cons, List.length_nil]
      omega
    · rw [str_app, str_size, str_size]
      simp only [List.length_append, List.length_cons, List.length_nil] at hts ⊢
      omega
end Go.Proofs.YtnahhdkekchmfaaDoor

namespace Go.Proofs.YtnahhdkekchmfaaDoor
open Go.Vc Go.Sha Go.Trail Go.Lay
set_option linter.unusedVariables false
set_option maxRecDepth 4000
theorem str_lt (s : ByteArray) (n : Nat) : ∀ x ∈ (lst s).drop n, x < 256 := fun x hx => lst_lt s x (List.mem_of_mem_drop hx)
/-- what guess tells -/
def GuessR (bs : List Nat) (h : Heap) (v : Value) (h' : Heap) : Prop :=
  ∃ a l c g, v = .slice a l c ∧ OwnR 30 4 h h' a l c (ents g) ∧ g.length ≤ 64 ∧ Small g ∧ ∀ cnt r0 es rest, numP 64 bs = some (cnt, r0) → entsP cnt r0 = some (es, rest) → g = es
theorem guess_none {bs : List Nat} {h h' : Heap} (x : Ext h h') (hn : ∀ cnt r0, numP 64 bs = some (cnt, r0) → entsP cnt r0 = none) : GuessR bs h (.slice none 0 0) h' :=
  ⟨none, 0, 0, [], rfl, OwnR.nil 30 4 x, Nat.zero_le _, fun e he => (by cases he), fun cnt r0 es rest h1 h2 => by rw [hn cnt r0 h1] at h2; cases h2⟩
theorem guess_ok (s : ByteArray) (hs : s.size < 2 ^ 27) (h : Heap) : HEnt Tryd.prog 39 #[.string s] h (GuessR (lst s) h) := by
  have hl := lst_len s
  have hbd := rv_bound (lst s) 10 0 0
  rw [show rv (lst s) 10 0 0 = readVar (lst s) from rfl] at hbd
  refine F39_ent _ _ _ ?_
  unfold F39
  intro c b h1 hc n1
  have x1 : Ext h h1 := by obtain ⟨rfl, rfl⟩ := n1; exact Ext.push _ _
  refine HEnt.use (refReadVar_ok _ _ _ (lst s) h1 (str_tab n1 hc) (lst_lt s) (by omega)) ?_
  rintro _ h2 ⟨rfl, e2⟩
  replace e2 := e2.symm
  subst e2
  have k1 : ∀ bb : Bool, (bb = true ↔ ¬ ((readVar (lst s)).2.2 = 0 ∧ (readVar (lst s)).1 ≤ 64)) → F39_k1 s none 0 0 (readVar (lst s)).1 (readVar (lst s)).2.1 bb h1 (GuessR (lst s) h) := by
    intro bb hbb
    unfold F39_k1
    refine br_of (fun g => ?_) (fun g => ?_)
    · refine guess_none x1 fun cnt r0 hn => ?_
      unfold numP at hn
      rw [if_neg (hbb.1 g)] at hn; cases hn
    have g' : (readVar (lst s)).2.2 = 0 ∧ (readVar (lst s)).1 ≤ 64 := Classical.byContradiction fun e => by rw [hbb.2 e] at g; cases g
    have hnum : numP 64 (lst s) = some ((readVar (lst s)).1, (lst s).drop (readVar (lst s)).2.1) := if_pos g'
    generalize hcnt : (readVar (lst s)).1 = cnt at *
    generalize (readVar (lst s)).2.1 = n at *
    have hr0 : ((lst s).drop n).length ≤ s.size := by rw [List.length_drop]; omega
    have hb0 := str_lt s n
    have fail : ∀ {h'} {k : Nat} {es : List EntV} {rr : List Nat}, Ext h h' → entsP k ((lst s).drop n) = some (es, rr) → k < cnt → entP rr = none → GuessR (lst s) h (.slice none 0 0) h' := by
      intro h' k es rr x' he hlt hno
      refine guess_none x' fun cnt' r0' hn => ?_
      rw [hnum] at hn
      obtain ⟨rfl, rfl⟩ := Prod.mk.inj (Option.some.inj hn)
      have h1 : entsP (k + 1) ((lst s).drop n) = none := by
        show (entsP k ((lst s).drop n)).bind _ = none
        rw [he]
        show (entP rr).bind _ = none
        rw [hno]; rfl
      have h2 := entsP_none h1 (cnt - (k + 1))
      rwa [show k + 1 + (cnt - (k + 1)) = cnt by omega] at h2
    unfold F39_k2
    refine ⟨by omega, by omega, by omega, ?_⟩
    refine ⟨fun t a3 l3 c3 x hh => ∃ (k : Nat) (es : List EntV), x = k ∧ k ≤ cnt ∧ entsP k ((lst s).drop n) = some (es, lst t) ∧ OwnR 30 4 h hh a3 l3 c3 (ents es), fun _ _ _ _ x _ => ((cnt : Int) - x).toNat, ⟨0, [], rfl, by omega, ?_, OwnR.nil 30 4 x1⟩, ?_⟩
    · rw [Int.toNat_natCast, Int.toNat_natCast, lst_cut, List.take_of_length_le (by rw [List.length_drop]; omega)]; rfl
    rintro h3 t a3 l3 c3 _ ⟨k, es, rfl, hk, he, o3⟩
    obtain ⟨honly, hesl, hbr⟩ := ents_only hb0 k he
    simp only at honly hesl hbr
    have hol := o3.len
    rw [ents_len] at hol
    have htl := lst_len t
    have hts : (lst t).length ≤ s.size := by
      have := congrArg List.length honly
      rw [List.length_append] at this; omega
    unfold F39_b3
    rw [i64_lt (cnt : Int) (by omega) (by omega)]
    refine br_of (fun gk => ?_) (fun gk => ?_)
    case refine_2 =>
      have hk' : k = cnt := by
        have : ¬ (k : Int) < (cnt : Int) := by simpa using gk
        omega
      subst hk'
      unfold F39_k10
      refine ⟨a3, l3, c3, es, rfl, o3, by omega, ents_small hb0 (by omega) he, fun cnt' r0' es' rest hn he' => ?_⟩
      rw [hnum] at hn
      obtain ⟨rfl, rfl⟩ := Prod.mk.inj (Option.some.inj hn)
      rw [he] at he'
      exact (Prod.mk.inj (Option.some.inj he')).1
    have hk' : k < cnt := by simpa using gk
    unfold F39_k4
    refine br_of (fun g3 => ?_) (fun g3 => ?_)
    · have g3' : (lst t).length < 3 := by simp at g3; omega
      exact fail o3.ext he hk' (by unfold entP takeP; rw [if_neg (by omega)]; rfl)
    have g3' : 3 ≤ t.size := by simp at g3; omega
    have ht3 : takeP 3 (lst t) = some ((lst t).take 3, (lst t).drop 3) := if_pos (by omega)
    have e0 : bt t 0 = ((lst t).getD 0 0 : Nat) := bt_lst t 0
    have e1 : bt t 1 = ((lst t).getD 1 0 : Nat) := bt_lst t 1
    have e2 : bt t 2 = ((lst t).getD 2 0 : Nat) := bt_lst t 2
    have tk : ∀ i, i < 3 → ((lst t).take 3).getD i 0 = (lst t).getD i 0 := fun i hi => by
      rw [List.getD_eq_getElem?_getD, List.getD_eq_getElem?_getD, List.getElem?_take, if_pos hi]
    have hent : entP (lst t) = (textP ((lst t).drop 3)).bind fun y => if (lst t).getD 0 0 = 1 then (textP y.2).bind fun z => some (⟨str y.1, 1, ((lst t).getD 1 0 * 256 + (lst t).getD 2 0 : Nat), str z.1⟩, z.2)
        else some (⟨str y.1, ((lst t).getD 0 0 : Nat), ((lst t).getD 1 0 * 256 + (lst t).getD 2 0 : Nat), ByteArray.empty⟩, y.2) := by
      unfold entP; rw [ht3]
      show (textP ((lst t).drop 3)).bind _ = _
      rw [tk 0 (by omega), tk 1 (by omega), tk 2 (by omega)]
    have q0 := getD_lt (lst_lt t) 0
    have q1 := getD_lt (lst_lt t) 1
    have q2 := getD_lt (lst_lt t) 2
    unfold F39_k5
    refine ⟨by omega, by omega, by omega, by omega, by omega, by omega, fun b8 h4 hb8 x4 n4 => ?_⟩
    rw [e0, e1, e2]
    generalize (lst t).getD 0 0 = kd at *
    generalize (lst t).getD 1 0 = p at *
    generalize (lst t).getD 2 0 = q at *
    have emode : (IntKind.i64.wrap (IntKind.i64.wrap (256 * IntKind.i64.wrap (p : Int)) + IntKind.i64.wrap (q : Int)) : Int) = ((p * 256 + q : Nat) : Int) := by
      rw [i64_lt (p : Int) (by omega) (by omega), i64_lt (q : Int) (by omega) (by omega), i64_lt (256 * (p : Int)) (by omega) (by omega), i64_lt _ (by omega) (by omega)]; omega
    rw [emode, i64_lt (kd : Int) (by omega) (by omega)]
    have s4 := stMore ((St.start h).grow o3.ext) hb8 x4 n4
    refine fill (vs := entA ⟨ByteArray.empty, (kd : Int), ((p * 256 + q : Nat) : Int), ByteArray.empty⟩) s4 zero30 (entA_size _) (entA_one _) fun h5 s5 on5 => ?_
    have ob8 : ∀ j, a3 = some ⟨j, 0, none⟩ → j ≠ b8 := fun j e => by have := (o3.lt j e).2; omega
    have hb8h : h.size ≤ b8 := (s4.at_ 0 _ rfl).1
    have o5 : OwnR 30 4 h h5 a3 l3 c3 (ents es) := (o3.grow x4).keep (S := (· = b8)) (on5.keep rfl) (fun j hj e => by omega) ob8
    refine ⟨by omega, by omega, by omega, HEnt.use (cut_ok _ (by rw [ByteArray.size_extract]; omega) h5) ?_⟩
    have hex : lst (t.extract 3 ((t.size : Int)).toNat) = (lst t).drop 3 := by
      rw [Int.toNat_natCast, lst_cut, List.take_of_length_le (by rw [List.length_drop]; omega)]
    rw [hex]
    rintro _ h6 ⟨rfl, x6⟩
    have s6 := s5.grow x6
    have o6 := o5.grow x6
    have hbd3 : ∀ x ∈ (lst t).drop 3, x < 256 := str_lt t 3
    unfold cutC
    cases ht1 : textP ((lst t).drop 3) with
    | none =>
      refine ⟨_, _, _, rfl, br_of (fun _ => fail s6.ext he hk' (by rw [hent, ht1]; rfl)) (fun hf => by cases hf)⟩
    | some y =>
      obtain ⟨y1, y2⟩ := y
      obtain ⟨ho1, hy1, hy2⟩ := text_only hbd3 ht1
      simp only at ho1 hy1 hy2
      have hyl : y2.length ≤ (lst t).length := by
        have := congrArg List.length ho1
        rw [List.length_append, List.length_drop] at this; omega
      refine ⟨_, _, _, rfl, br_of (fun hf => by cases hf) (fun _ => ?_)⟩
      have app : ∀ {h'} {e : EntV} {r : List Nat}, St h h' [⟨b8, entA e, 30⟩] → OwnR 30 4 h h' a3 l3 c3 (ents es) → entP (lst t) = some (e, r) → (∀ x ∈ r, x < 256) → F39_k8 (fun t a3 l3 c3 x hh => ∃ (k : Nat) (es : List EntV), x = k ∧ k ≤ cnt ∧ entsP k ((lst s).drop n) = some (es, lst t) ∧ OwnR 30 4 h hh a3 l3 c3 (ents es)) (fun _ _ _ _ x _ => ((cnt : Int) - x).toNat) ((cnt : Int) - (k : Int)).toNat (str r) a3 l3 c3 cnt k (at0 b8) h' (GuessR (lst s) h) := by
        intro h' e r s' o' hE hr
        unfold F39_k8
        refine ⟨_, _, _, _, s'.cell 0 rfl rfl, s'.cell 0 rfl rfl, s'.cell 0 rfl rfl, s'.cell 0 rfl rfl, rfl, rfl, by decide, newK_intro fun h8 n8 x8 _ => ?_⟩
        have o8 : OwnR 30 4 h' h8 (some (at0 h'.size)) 1 1 (ents [e]) := OwnR.new_ (rows := ents [e]) n8 x8 (Nat.le_refl _) (ents_row _) rfl
        refine appK_R cells30 (o'.grow x8) o8.rows.src rfl (ents_row _) (ents_one _) (by rw [bytes30]; omega) zeroR30 fun a9 c9 h9 o9 k9 d9 => ?_
        unfold F39_k9
        rw [i64_lt _ (by omega) (by omega)]
        refine ⟨⟨k + 1, es ++ [e], by omega, by omega, ?_, ?_⟩, by show ((cnt : Int) - ((k : Int) + 1)).toNat < ((cnt : Int) - k).toNat; omega⟩
        · show (entsP k ((lst s).drop n)).bind _ = _
          rw [he]
          show (entP (lst t)).bind _ = _
          rw [hE, lst_str r hr]; rfl
        · rw [ents, List.map_append]; exact o9
      unfold F39_k6
      refine s6.store 0 rfl (k := 0) (Nat.zero_lt_succ 3) rfl fun h7 s7 on7 => ?_
      have s7' : St h h7 [⟨b8, entA ⟨str y1, (kd : Int), ((p * 256 + q : Nat) : Int), ByteArray.empty⟩, 30⟩] := s7
      have o7 := o6.keep (S := (· = b8)) (on7.keep rfl) (fun j hj e => by omega) ob8
      refine ⟨_, s7'.cell 0 rfl rfl, br_of (fun gk1 => ?_) (fun gk1 => ?_)⟩
      · have hk1 : kd = 1 := by simp at gk1; omega
        subst hk1
        refine HEnt.use (cut_ok _ (by rw [str_size]; omega) h7) ?_
        rw [lst_str y2 hy2]
        rintro _ h8 ⟨rfl, x8⟩
        have s8 := s7'.grow x8
        unfold cutC
        cases ht2 : textP y2 with
        | none =>
          refine ⟨_, _, _, rfl, br_of (fun _ => fail s8.ext he hk' (by rw [hent, ht1]; simp [ht2])) (fun hf => by cases hf)⟩
        | some z =>
          obtain ⟨z1, z2⟩ := z
          obtain ⟨_, hz1, hz2⟩ := text_only hy2 ht2
          refine ⟨_, _, _, rfl, br_of (fun hf => by cases hf) (fun _ => ?_)⟩
          unfold F39_k7
          refine s8.store 0 rfl (k := 3) (Nat.le_refl 4) rfl fun h9 s9 on9 => ?_
          have s9' : St h h9 [⟨b8, entA ⟨str y1, 1, ((p * 256 + q : Nat) : Int), str z1⟩, 30⟩] := s9
          refine app s9' ((o7.grow x8).keep (S := (· = b8)) (on9.keep rfl) (fun j hj e => by omega) ob8) ?_ hz2
          rw [hent, ht1]; simp [ht2]
      · have hk1 : kd ≠ 1 := by simp at gk1; omega
        refine app s7' o7 ?_ hy2
        rw [hent, ht1]; simp [hk1]
  refine ⟨_, _, _, rfl, br_of (fun g => k1 _ ?_) (fun g => k1 _ ?_)⟩
  · have g' : (readVar (lst s)).2.2 ≠ 0 := by simp at g; omega
    exact ⟨fun _ h => g' h.1, fun _ => rfl⟩
  · have g' : (readVar (lst s)).2.2 = 0 := by simp at g; omega
    simp only [decide_eq_true_eq]; omega
theorem refDecode_ok (s : ByteArray) (hs : s.size < 2 ^ 27) (h : Heap) : HEnt Tryd.prog 23 #[.string s] h fun v h' => decR (lst s) h v h' := by
  have hl := lst_len s
  refine F23_ent _ _ _ ?_
  unfold F23
  refine br_of (fun g => ?_) (fun g => ?_)
  · have g' : (lst s).length < 3 := by simp at g; omega
    exact ⟨Ext.refl _, .inr ⟨no_head (by unfold headP takeP; rw [if_neg (by omega)]; rfl), rfl⟩⟩
  have g' : 3 ≤ s.size := by simp at g; omega
  unfold F23_k1
  have hex : lst (s.extract 3 ((s.size : Int)).toNat) = (lst s).drop 3 := by
    rw [Int.toNat_natCast, lst_cut, List.take_of_length_le (by rw [List.length_drop]; omega)]
  refine ⟨by omega, by omega, by omega, HEnt.use (guess_ok _ (by rw [ByteArray.size_extract]; omega) h) ?_⟩
  rw [hex]
  rintro _ h1 ⟨a1, l1, c1, g1, rfl, o1, hg64, hsm, huniq⟩
  have hlen1 := o1.len
  rw [ents_len] at hlen1
  refine ⟨_, _, _, rfl, ?_⟩
  have hl40 : l1 < 2 ^ 40 := by omega
  refine HEnt.use (refEncode_ok a1 l1 c1 g1 h1 o1.rows hsm hl40) ?_
  rintro _ h2 ⟨rfl, x2⟩
  have hdec : ∀ fs, DecIs (lst s) fs → g1 = fs ∧ (checkC g1).2 = 0 ∧ lst s = encodeC g1 := by
    intro fs hf
    have hp := hf.1
    unfold parseP headP at hp
    obtain ⟨u, hu, he⟩ := Option.bind_eq_some_iff.1 hp
    obtain ⟨y, hy, hn⟩ := Option.bind_eq_some_iff.1 hu
    have ht3 : takeP 3 (lst s) = some ((lst s).take 3, (lst s).drop 3) := if_pos (by omega)
    rw [ht3] at hy
    cases hy
    simp only at hn
    split at hn
    · have := huniq u.1 u.2 fs [] hn he
      subst this
      exact ⟨rfl, hf.2, dec_only (lst_lt s) hf⟩
    · cases hn
  have k2 : ∀ bb : Bool, (bb = true ↔ ¬ ((checkC g1).2 = 0 ∧ lst s = encodeC g1)) → F23_k2 a1 l1 c1 bb h2 fun v h' => decR (lst s) h v h' := by
    intro bb hbb
    unfold F23_k2
    refine br_of (fun gb => ?_) (fun gb => ?_)
    · refine ⟨o1.ext.trans x2, .inr ⟨fun fs hf => hbb.1 gb ?_, rfl⟩⟩
      exact (hdec fs hf).2
    · have g2 : (checkC g1).2 = 0 ∧ lst s = encodeC g1 := Classical.byContradiction fun e => by rw [hbb.2 e] at gb; cases gb
      unfold F23_k3
      refine ⟨o1.ext.trans x2, .inl ⟨g1, a1, l1, c1, ?_, rfl, o1.grow x2, hsm⟩⟩
      rw [g2.2]; exact dec_back g2.1 hsm
  refine ⟨_, _, rfl, br_of (fun gb => k2 _ ?_) (fun gb => k2 _ ?_)⟩
  · have gb' : (checkC g1).2 ≠ 0 := by simp at gb; omega
    exact ⟨fun _ hh => gb' hh.1, fun _ => rfl⟩
  · have gb' : (checkC g1).2 = 0 := by simp at gb; omega
    have hes : encS g1 = str (encodeC g1) := if_pos gb'
    have hlt := encode_bytes (good_fits gb' hsm) ((good_check g1).1 gb').1
    rw [hes, seq_str _ hlt, Bool.not_eq_true', decide_eq_false_iff_not]
    exact ⟨fun h hh => h hh.2.symm, fun h hh => h ⟨gb', hh.symm⟩⟩
end Go.Proofs.YtnahhdkekchmfaaDoor
