import Derived.Test.YtpehbcfoddggoaaDoorTrailPure
import Derived.Test.YtpehbcfoddggoaaDoorVpTb

namespace Go.Proofs.YtpehbcfoddggoaaDoor
open Go.Vc Go.Sha Go.Trail Go.RowKit
set_option linter.unusedVariables false

theorem seq_self (s : ByteArray) : seq s s = true := by rw [seq_lst]; simp
theorem seq_str (l : List Nat) (h : ∀ x ∈ l, x < 256) (s : ByteArray) : seq (str l) s = decide (l = lst s) := by rw [seq_lst, lst_str l h]
theorem seq_str2 (l m : List Nat) (h : ∀ x ∈ l, x < 256) (h2 : ∀ x ∈ m, x < 256) : seq (str l) (str m) = decide (l = m) := by rw [seq_lst, lst_str l h, lst_str m h2]
theorem seq_str_nil (l : List Nat) (h : ∀ x ∈ l, x < 256) : seq (str l) ⟨#[]⟩ = decide (l = []) := by rw [seq_nil, lst_str l h]

theorem is_ok (s : ByteArray) (hs : s.size < 2 ^ 30) (h : Heap) (hm : MaxAt h) : HEnt Tryd.prog 33 #[.string s] h fun v h' => v = .bool (decide (good (lst s))) ∧ Ext h h' := by
  refine F33_ent _ _ _ ?_
  unfold F33
  refine HEnt.use (clean_ok s hs h hm) ?_
  rintro _ h1 ⟨rfl, x1⟩
  refine ⟨_, _, rfl, br_of (fun h0 => ⟨?_, x1⟩) (fun h0 => ⟨?_, x1⟩)⟩
  · have h0' : (clean (lst s)).2 = 0 := by
      have : (((clean (lst s)).2 : Nat) : Int) = 0 := by simpa using h0
      omega
    rw [seq_str _ (clean_lt _)]
    congr 1
    refine decide_eq_decide.2 ?_
    rw [good_iff]
    exact ⟨fun e => Prod.ext e h0', fun e => by rw [e]⟩
  · have h0' : (clean (lst s)).2 ≠ 0 := by
      have : ¬ (((clean (lst s)).2 : Nat) : Int) = 0 := by simpa using h0
      omega
    congr 1
    refine (decide_eq_false fun hg => ?_).symm
    rw [good_iff] at hg
    rw [hg] at h0'; exact h0' rfl

theorem refIs_ok (s : ByteArray) (hs : s.size < 2 ^ 30) (h : Heap) : HEnt Tryd.prog 34 #[.string s] h fun v h' => v = .bool (decide (good (lst s))) ∧ Ext h h' := by
  refine F34_ent _ _ _ ?_
  have ls := lst_len s
  unfold F34
  rw [seq_nil]
  refine br_of (fun h0 => ⟨?_, Ext.refl _⟩) (fun h0 => ?_)
  · rw [decide_eq_true (show good (lst s) from .inl (of_decide_eq_true h0))]
  have h0' := of_decide_eq_false h0
  have hgood : good (lst s) ↔ ((∀ p ∈ pieces (lst s), partP p) ∧ (pieces (lst s)).length ≤ 8) := ⟨fun h => good_pieces h h0', fun h => .inr h⟩
  unfold F34_k1
  refine HEnt.use (refPieces_ok s (by omega) h) ?_
  rintro _ h1 ⟨ap, l, cp, rfl, o⟩
  refine ⟨ap, l, cp, rfl, ?_⟩
  rintro _ rfl
  have hl := o.len
  rw [vals_len] at hl
  have hplen := pieces_len (lst s)
  have hplt := pieces_lt (lst s) (lst_lt s)
  have heach := pieces_each (lst s)
  generalize pieces (lst s) = P at *
  refine ⟨fun x h' => ∃ k : Nat, x = k ∧ k ≤ P.length ∧ (∀ p ∈ P.take k, partP p) ∧ h' = h1, fun x _ => (P.length - x).toNat, ⟨0, rfl, by omega, by simp, rfl⟩, ?_⟩
  rintro h2 _ ⟨k, rfl, hk, hok, rfl⟩
  unfold F34_b2
  refine br_of (fun ht => ?_) (fun hf => ?_)
  · have hk' : k < P.length := by
      have : (k : Int) < (l : Int) := by simpa using ht
      omega
    obtain ⟨b, rfl, _, hc1⟩ := o.cell (vals_get hk')
    have hxlt := hplt _ (getD_mem hk')
    have hxlen := heach _ (getD_mem hk')
    have hxm := getD_mem hk'
    have ht := takeP_succ P k hk'
    generalize P.getD k [] = x at *
    unfold F34_k3
    refine ⟨_, rfl, by omega, by omega, str x, by rw [Int.toNat_natCast, Nat.mul_one, add_mk, Nat.zero_add]; exact hc1, ?_⟩
    refine HEnt.use (refPart_ok (str x) (by rw [str_size]; omega) h2) ?_
    rintro _ _ ⟨rfl, rfl⟩
    rw [lst_str x hxlt]
    refine ⟨_, rfl, br_of (fun hp => ⟨?_, o.ext⟩) (fun hp => ?_)⟩
    · have hp' : ¬ partP x := by simpa using hp
      congr 1
      exact (decide_eq_false fun hg => hp' ((hgood.1 hg).1 x hxm)).symm
    · have hp' : partP x := by simpa using hp
      unfold F34_k4
      rintro _ rfl
      have e1 : IntKind.i64.wrap ((k : Int) + 1) = ((k + 1 : Nat) : Int) := by rw [i64_lt _ (by omega) (by omega)]; omega
      rw [e1]
      refine ⟨⟨k + 1, rfl, by omega, ?_, rfl⟩, by show ((P.length : Int) - ((k + 1 : Nat) : Int)).toNat < ((P.length : Int) - (k : Int)).toNat; omega⟩
      rw [ht]
      intro p hpm
      rcases List.mem_append.1 hpm with h | h
      · exact hok p h
      · rw [List.mem_singleton] at h; rw [h]; exact hp'
  · have hk' : k = P.length := by
      have : ¬ (k : Int) < (l : Int) := by simpa using hf
      omega
    rw [List.take_of_length_le (by omega)] at hok
    unfold F34_k5
    refine ⟨?_, o.ext⟩
    congr 1
    refine decide_eq_decide.2 ?_
    rw [hgood]
    exact ⟨fun h => ⟨hok, by omega⟩, fun h => by have := h.2; omega⟩

theorem parts_ok (s : ByteArray) (hs : s.size < 2 ^ 30) (h : Heap) (hm : MaxAt h) : HEnt Tryd.prog 19 #[.string s] h fun v h' => ∃ a l c, v = .slice a l c ∧ OwnAt 9 h h' a l c (vals (partsL (lst s))) := by
  refine F19_ent _ _ _ ?_
  have no : ∀ h', Ext h h' → (lst s = [] ∨ ¬ good (lst s)) → F19_k1 s true h' fun v h' => ∃ a l c, v = .slice a l c ∧ OwnAt 9 h h' a l c (vals (partsL (lst s))) := fun h' x hn => by
    unfold F19_k1
    refine br_of (fun _ => ⟨none, 0, 0, rfl, ?_⟩) (fun hb => by cases hb)
    unfold partsL; rw [if_pos hn]
    exact OwnAt.nil 9 x
  unfold F19
  rw [seq_nil]
  refine br_of (fun h0 => no h (Ext.refl _) (.inl (of_decide_eq_true h0))) (fun h0 => ?_)
  refine HEnt.use (is_ok s hs h hm) ?_
  rintro _ h1 ⟨rfl, x1⟩
  refine ⟨_, rfl, ?_⟩
  by_cases hg : good (lst s)
  · rw [decide_eq_true hg]
    unfold F19_k1
    refine br_of (fun hb => by cases hb) (fun _ => ?_)
    unfold F19_k2
    refine HEnt.use (split_ok s (by omega) h1 (hm.ext x1)) ?_
    rintro _ h2 ⟨l, rfl, o⟩
    refine ⟨_, l, l, rfl, _, l, l, rfl, ?_⟩
    rw [parts_good hg (of_decide_eq_false h0)]
    exact ⟨o.own, fun k e => by have := o.new k e; have := x1.size; omega, x1.trans o.ext⟩
  · rw [decide_eq_false hg]; exact no h1 x1 (.inr hg)
theorem refParts_ok (s : ByteArray) (hs : s.size < 2 ^ 30) (h : Heap) : HEnt Tryd.prog 25 #[.string s] h fun v h' => ∃ a l c, v = .slice a l c ∧ OwnAt 9 h h' a l c (vals (partsL (lst s))) := by
  refine F25_ent _ _ _ ?_
  have no : ∀ h', Ext h h' → (lst s = [] ∨ ¬ good (lst s)) → F25_k1 s true h' fun v h' => ∃ a l c, v = .slice a l c ∧ OwnAt 9 h h' a l c (vals (partsL (lst s))) := fun h' x hn => by
    unfold F25_k1
    refine br_of (fun _ => ⟨none, 0, 0, rfl, ?_⟩) (fun hb => by cases hb)
    unfold partsL; rw [if_pos hn]
    exact OwnAt.nil 9 x
  unfold F25
  rw [seq_nil]
  refine br_of (fun h0 => no h (Ext.refl _) (.inl (of_decide_eq_true h0))) (fun h0 => ?_)
  refine HEnt.use (refIs_ok s hs h) ?_
  rintro _ h1 ⟨rfl, x1⟩
  refine ⟨_, rfl, ?_⟩
  by_cases hg : good (lst s)
  · rw [decide_eq_true hg]
    unfold F25_k1
    refine br_of (fun hb => by cases hb) (fun _ => ?_)
    unfold F25_k2
    refine HEnt.use (refPieces_ok s (by omega) h1) ?_
    rintro _ h2 ⟨a, l, c, rfl, o⟩
    refine ⟨a, l, c, rfl, a, l, c, rfl, ?_⟩
    rw [parts_good hg (of_decide_eq_false h0)]
    exact ⟨o.own, fun k e => by have := o.new k e; have := x1.size; omega, x1.trans o.ext⟩
  · rw [decide_eq_false hg]; exact no h1 x1 (.inr hg)

theorem lastIndex_ok (s : ByteArray) (hs : s.size < 2 ^ 40) (h : Heap) : HEnt Tryd.prog 36 #[.string s, .int .u8 47] h fun v h' => v = .int .i64 (Lib.lastIndexByte s 47) ∧ h' = h := by
  refine HEnt.of_body Tryd.func36 (by kernel_rfl) (by kernel_rfl) fun w hw => ?_
  refine (Tryd.strings_LastIndexByte s 47 (by omega) w).mono fun e w' ⟨he, hw'⟩ => ?_
  subst hw'
  exact ⟨_, he, Kin.refl _, rfl, hw⟩
theorem bang_lst (s : ByteArray) (i : Nat) (hi : i < s.size) : (s.data[i]!).toNat = (lst s).getD i 0 := by
  have h2 : i < s.data.size := hi
  rw [List.getD_eq_getElem?_getD, lst, List.getElem?_map, getElem!_pos s.data i h2]
  rw [Array.getElem?_toList, Array.getElem?_eq_getElem h2]; rfl
/-- strings of a result with a bool -/
def res2 (r : List Nat × Bool) : Value := .tuple #[.string (str r.1), .bool r.2]
theorem up_ok (s : ByteArray) (hs : s.size < 2 ^ 30) (h : Heap) (hm : MaxAt h) : HEnt Tryd.prog 23 #[.string s] h fun v h' => v = res2 (upL (lst s)) ∧ Ext h h' := by
  refine F23_ent _ _ _ ?_
  have ls := lst_len s
  have no : ∀ h', Ext h h' → (lst s = [] ∨ ¬ good (lst s)) → F23_k1 s true h' fun v h' => v = res2 (upL (lst s)) ∧ Ext h h' := fun h' x hn => by
    unfold F23_k1
    refine br_of (fun _ => ⟨?_, x⟩) (fun hb => by cases hb)
    unfold upL; rw [if_pos hn]; rfl
  unfold F23
  rw [seq_nil]
  refine br_of (fun h0 => no h (Ext.refl _) (.inl (of_decide_eq_true h0))) (fun h0 => ?_)
  refine HEnt.use (is_ok s hs h hm) ?_
  rintro _ h1 ⟨rfl, x1⟩
  refine ⟨_, rfl, ?_⟩
  by_cases hg : good (lst s)
  · rw [decide_eq_true hg]
    have hu : upL (lst s) = (joinT (pieces (lst s)).dropLast, true) := by
      unfold upL; rw [if_neg (fun e => e.elim (of_decide_eq_false h0) fun e => e hg)]
    unfold F23_k1
    refine br_of (fun hb => by cases hb) (fun _ => ?_)
    unfold F23_k2
    refine HEnt.use (lastIndex_ok s (by omega) h1) ?_
    rintro _ _ ⟨rfl, rfl⟩
    refine ⟨_, rfl, ?_⟩
    rcases Lib.lastIdx_spec s 47 s.size with ⟨e, hno⟩ | ⟨i, hi, e, hc, hno⟩
    · have e' : Lib.lastIndexByte s 47 = -1 := e
      rw [e']
      refine br_of (fun hb => by simp at hb) (fun _ => ?_)
      unfold F23_k3
      refine ⟨?_, x1⟩
      rw [hu, no_last]
      · rfl
      · intro c hcm
        obtain ⟨j, hj, rfl⟩ := List.getElem_of_mem hcm
        have hj' : j < s.size := by omega
        have := hno j hj'
        rw [bang_lst s j hj', List.getD_eq_getElem?_getD, List.getElem?_eq_getElem hj] at this
        simp only [Option.getD_some] at this
        omega
    · have e' : Lib.lastIndexByte s 47 = i := e
      rw [e']
      refine br_of (fun _ => ⟨by omega, by omega, by omega, ?_, x1⟩) (fun hb => by simp at hb)
      rw [bang_lst s i hi] at hc
      rw [hu, take_last (lst s) i (by omega) (by omega)]
      · rw [Int.toNat_natCast, str_cut]; rfl
      · intro c hcm
        obtain ⟨j, hj, rfl⟩ := List.getElem_of_mem hcm
        rw [List.length_drop] at hj
        rw [List.getElem_drop]
        have := hno (i + 1 + j) (by omega) (by omega)
        rw [bang_lst s _ (by omega), List.getD_eq_getElem?_getD, List.getElem?_eq_getElem (by omega)] at this
        simp only [Option.getD_some] at this
        omega
  · rw [decide_eq_false hg]; exact no h1 x1 (.inr hg)
theorem OwnAt.nonnil {el : TypeId} {h0 h : Heap} {a : Option Addr} {l c : Nat} {vs : List Value} (o : OwnAt el h0 h a (l + 1) c vs) : l + 1 ≤ c ∧ ∃ b, a = some ⟨b, 0, none⟩ := by
  rcases o.own with ⟨_, e, _, _⟩ | ⟨h1, h2, b, cs, rfl, _⟩
  · cases e
  · exact ⟨h2, b, rfl⟩
theorem refUp_ok (s : ByteArray) (hs : s.size < 2 ^ 30) (h : Heap) : HEnt Tryd.prog 24 #[.string s] h fun v h' => v = res2 (upL (lst s)) ∧ Ext h h' := by
  refine F24_ent _ _ _ ?_
  unfold F24
  refine HEnt.use (refParts_ok s hs h) ?_
  rintro _ h1 ⟨a, l, c, rfl, o⟩
  have hl := o.len
  rw [vals_len] at hl
  have hp := parts_all (lst s)
  refine ⟨a, l, c, rfl, br_of (fun h0 => ⟨?_, o.ext⟩) (fun h0 => ?_)⟩
  · have h0' : l = 0 := by
      have : (l : Int) = 0 := by simpa using h0
      omega
    have he : lst s = [] ∨ ¬ good (lst s) := Decidable.byContradiction fun hn => by
      have : partsL (lst s) = pieces (lst s) := by unfold partsL; rw [if_neg hn]
      obtain ⟨p, ps, hps⟩ := pieces_ne (lst s)
      rw [this, hps] at hl; simp at hl; omega
    unfold upL; rw [if_pos he]; rfl
  · have h0' : l ≠ 0 := by
      have : ¬ (l : Int) = 0 := by simpa using h0
      omega
    have hne : ¬ (lst s = [] ∨ ¬ good (lst s)) := fun hn => by
      unfold partsL at hl; rw [if_pos hn] at hl; simp at hl; omega
    have e1 : partsL (lst s) = pieces (lst s) := by unfold partsL; rw [if_neg hne]
    obtain ⟨n, rfl⟩ : ∃ n, l = n + 1 := ⟨l - 1, by omega⟩
    obtain ⟨hc, b, rfl⟩ := OwnAt.nonnil o
    have ew : IntKind.i64.wrap (((n + 1 : Nat) : Int) - 1) = ((n : Nat) : Int) := by rw [i64_lt _ (by omega) (by omega)]; omega
    unfold F24_k1
    rw [ew]
    refine ⟨by omega, by omega, by omega, ?_⟩
    rw [cut0, Int.toNat_natCast, Nat.sub_zero, Nat.sub_zero]
    have os := OwnAt.shrink o
    rw [vals, ← List.map_dropLast] at os
    refine HEnt.use (text_ok _ n c (partsL (lst s)).dropLast h1 os (fun p hpm => hp.1 p (List.dropLast_subset _ hpm)) (by omega)) ?_
    rintro _ _ ⟨rfl, rfl⟩
    refine ⟨_, rfl, ?_, o.ext⟩
    unfold upL; rw [if_neg hne, e1]; rfl

theorem same_ok {h1 h2 : Heap} (a b : Option Addr) (l c l' c' : Nat) (ps : List (List Nat)) (h : Heap) (o : OwnAt 9 h1 h a l c (vals ps)) (o' : OwnAt 9 h2 h b l' c' (vals ps)) (hl40 : ps.length < 2 ^ 40) :
    HEnt Tryd.prog 22 #[.slice a l c, .slice b l' c'] h fun v h' => v = .bool true ∧ h' = h := by
  refine F22_ent _ _ _ _ _ _ _ _ ?_
  have hl := o.len
  have hl' := o'.len
  rw [vals_len] at hl hl'
  subst hl
  subst hl'
  unfold F22
  refine br_of (fun hb => by simp at hb) (fun _ => ?_)
  unfold F22_k1
  refine ⟨fun x h' => ∃ k : Nat, x = k ∧ k ≤ ps.length ∧ h' = h, fun x _ => (ps.length - x).toNat, ⟨0, rfl, by omega, rfl⟩, ?_⟩
  rintro h3 _ ⟨k, rfl, hk, rfl⟩
  unfold F22_b2
  refine br_of (fun ht => ?_) (fun hf => ?_)
  · have hk' : k < ps.length := by
      have : (k : Int) < (ps.length : Int) := by simpa using ht
      omega
    obtain ⟨b1, rfl, _, hc1⟩ := o.cell (vals_get hk')
    obtain ⟨b2, rfl, _, hc2⟩ := o'.cell (vals_get hk')
    unfold F22_k3
    refine ⟨_, rfl, by omega, by omega, _, by rw [Int.toNat_natCast, Nat.mul_one, add_mk, Nat.zero_add]; exact hc1, _, rfl, by omega, by omega, _, by rw [Int.toNat_natCast, Nat.mul_one, add_mk, Nat.zero_add]; exact hc2, ?_⟩
    intro h4 hcl; obtain rfl := hcl.eq
    rw [seq_self]
    refine br_of (fun hb => by cases hb) (fun _ => ?_)
    unfold F22_k4
    have e1 : IntKind.i64.wrap ((k : Int) + 1) = ((k + 1 : Nat) : Int) := by rw [i64_lt _ (by omega) (by omega)]; omega
    rw [e1]
    exact ⟨⟨k + 1, rfl, by omega, rfl⟩, by show ((ps.length : Int) - ((k + 1 : Nat) : Int)).toNat < ((ps.length : Int) - (k : Int)).toNat; omega⟩
  · unfold F22_k5; exact ⟨rfl, rfl⟩

theorem tells_ok (s : ByteArray) (hs : s.size < 2 ^ 30) (h : Heap) (hm : MaxAt h) : HEnt Tryd.prog 9 #[.string s] h fun v h' => v = .bool true ∧ Ext h h' := by
  refine F9_ent _ _ _ ?_
  unfold F9
  refine HEnt.use (up_ok s hs h hm) ?_
  rintro _ h1 ⟨rfl, x1⟩
  refine ⟨_, _, rfl, HEnt.use (refUp_ok s hs h1) ?_⟩
  rintro _ h2 ⟨rfl, x2⟩
  refine ⟨_, _, rfl, HEnt.use (parts_ok s hs h2 (hm.ext (x1.trans x2))) ?_⟩
  rintro _ h3 ⟨a, l, c, rfl, o⟩
  refine ⟨a, l, c, rfl, HEnt.use (refParts_ok s hs h3) ?_⟩
  rintro _ h4 ⟨a', l', c', rfl, o'⟩
  refine ⟨a', l', c', rfl, HEnt.use (same_ok a a' l c l' c' _ h4 (o.grow o'.ext) o' (by have := (parts_all (lst s)).2; omega)) ?_⟩
  rintro _ _ ⟨rfl, rfl⟩
  have x := ((x1.trans x2).trans o.ext).trans o'.ext
  refine ⟨_, rfl, br_of (fun _ => br_of (fun _ => br_of (fun _ => ?_) (fun hb => by simp at hb)) (fun hb => by rw [seq_self] at hb; cases hb)) (fun hb => by cases hb)⟩
  refine HEnt.use (works_ok _ (hm.ext x)) ?_
  rintro _ h5 ⟨rfl, x5⟩
  exact ⟨true, rfl, rfl, x.trans x5⟩
end Go.Proofs.YtpehbcfoddggoaaDoor
