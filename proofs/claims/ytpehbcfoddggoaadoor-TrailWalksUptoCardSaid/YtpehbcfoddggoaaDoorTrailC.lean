import Derived.Test.YtpehbcfoddggoaaDoorTrailB

namespace Go.Proofs.YtpehbcfoddggoaaDoor
open Go.Vc Go.Sha Go.Trail Go.RowKit
set_option linter.unusedVariables false

theorem lexP_cut : ∀ (k : Nat) (p q : List (List Nat)), k ≤ p.length → k ≤ q.length → p.take k = q.take k → lexP p q = lexP (p.drop k) (q.drop k)
  | 0, _, _, _, _, _ => rfl
  | k + 1, [], _, h, _, _ => by simp at h
  | k + 1, _ :: _, [], _, h, _ => by simp at h
  | k + 1, x :: p, y :: q, h1, h2, h3 => by
    simp only [List.take_succ_cons, List.cons.injEq] at h3
    rw [h3.1]
    show (if y = y then lexP p q else ltB y y) = _
    rw [if_pos rfl]
    exact lexP_cut k p q (by simpa using h1) (by simpa using h2) h3.2
theorem pieces_lt' (s : ByteArray) : ∀ p ∈ piecesE (lst s), ∀ x ∈ p, x < 256 := by
  intro p hp
  unfold piecesE at hp
  split at hp
  · simp at hp
  · exact pieces_lt _ (lst_lt s) p hp
theorem getD_mem {ps : List (List Nat)} {i : Nat} (hi : i < ps.length) : ps.getD i [] ∈ ps := by
  rw [List.getD_eq_getElem?_getD, List.getElem?_eq_getElem hi]; exact List.getElem_mem hi
theorem piecesE_len (l : List Nat) : (piecesE l).length ≤ l.length + 1 := by
  unfold piecesE; split
  · simp
  · exact pieces_len l

theorem refLess_ok (s t : ByteArray) (hs : s.size < 2 ^ 40) (ht : t.size < 2 ^ 40) (h : Heap) : HEnt Tryd.prog 12 #[.string s, .string t] h fun v h' => v = .bool (lexK (lst s) (lst t)) ∧ Ext h h' := by
  refine F12_ent _ _ _ _ ?_
  unfold F12
  refine HEnt.use (refpieces_ok s hs h) ?_
  rintro _ h1 ⟨a, l, c, rfl, o1⟩
  refine ⟨a, l, c, rfl, HEnt.use (refpieces_ok t ht h1) ?_⟩
  rintro _ h2 ⟨a', l', c', rfl, o2⟩
  refine ⟨a', l', c', rfl, ?_⟩
  rintro _ rfl
  have p1 := pieces_lt' s
  have p2 := pieces_lt' t
  have hpl := piecesE_len (lst s)
  have ls := lst_len s
  have o1' := o1.grow o2.ext
  have hl1 := o1.len
  have hl2 := o2.len
  rw [vals_len] at hl1 hl2
  rw [← lexE]
  generalize piecesE (lst s) = p at *
  generalize piecesE (lst t) = q at *
  refine ⟨fun x h' => ∃ k : Nat, x = k ∧ k ≤ p.length ∧ k ≤ q.length ∧ p.take k = q.take k ∧ h' = h2, fun x _ => (p.length - x).toNat, ⟨0, rfl, by omega, by omega, rfl, rfl⟩, ?_⟩
  rintro h3 _ ⟨k, rfl, hk1, hk2, he, rfl⟩
  have hcut := lexP_cut k p q hk1 hk2 he
  have fin : ¬ (k < p.length ∧ k < q.length) → F12_k5 a l c a' l' c' h3 fun v h' => v = .bool (lexP p q) ∧ Ext h h' := by
    intro hno
    unfold F12_k5
    refine ⟨?_, o1'.ext⟩
    rw [hcut]
    congr 1
    by_cases h1 : k < p.length
    · have h2 : k = q.length := by omega
      rw [List.drop_of_length_le (l := q) (by omega)]
      have : decide ((l : Int) < (l' : Int)) = false := decide_eq_false (by omega)
      rw [this]
      cases p.drop k <;> rfl
    · rw [List.drop_of_length_le (l := p) (by omega)]
      by_cases h2 : k < q.length
      · rw [List.drop_eq_getElem_cons h2]
        exact decide_eq_true (by omega)
      · rw [List.drop_of_length_le (l := q) (by omega)]
        exact decide_eq_false (by omega)
  unfold F12_b1
  refine br_of (fun ht1 => ?_) (fun hf1 => ?_)
  · have h1 : k < p.length := by
      have : (k : Int) < (l : Int) := by simpa using ht1
      omega
    unfold F12_k2
    refine br_of (fun ht2 => ?_) (fun hf2 => ?_)
    · have h2 : k < q.length := by
        have : (k : Int) < (l' : Int) := by simpa using ht2
        omega
      obtain ⟨b, rfl, hbl, hc1⟩ := o1'.cell (vals_get h1)
      obtain ⟨b', rfl, hbl', hc2⟩ := o2.cell (vals_get h2)
      have q1 := p1 _ (getD_mem h1)
      have q2 := p2 _ (getD_mem h2)
      have dp : p.drop k = p.getD k [] :: p.drop (k + 1) := by
        rw [List.drop_eq_getElem_cons h1, List.getD_eq_getElem?_getD, List.getElem?_eq_getElem h1]; rfl
      have dq : q.drop k = q.getD k [] :: q.drop (k + 1) := by
        rw [List.drop_eq_getElem_cons h2, List.getD_eq_getElem?_getD, List.getElem?_eq_getElem h2]; rfl
      have tp : p.take (k + 1) = p.take k ++ [p.getD k []] := by
        rw [List.take_succ_eq_append_getElem h1, List.getD_eq_getElem?_getD, List.getElem?_eq_getElem h1]; rfl
      have tq : q.take (k + 1) = q.take k ++ [q.getD k []] := by
        rw [List.take_succ_eq_append_getElem h2, List.getD_eq_getElem?_getD, List.getElem?_eq_getElem h2]; rfl
      rw [dp, dq] at hcut
      generalize p.getD k [] = x at *
      generalize q.getD k [] = y at *
      unfold F12_k3
      have ca : Vc.cell h3 ((⟨b, 0, none⟩ : Addr).add ((k : Int).toNat * 1)) = some (.string (str x)) := by rw [Int.toNat_natCast, Nat.mul_one, add_mk, Nat.zero_add]; exact hc1
      have cb : Vc.cell h3 ((⟨b', 0, none⟩ : Addr).add ((k : Int).toNat * 1)) = some (.string (str y)) := by rw [Int.toNat_natCast, Nat.mul_one, add_mk, Nat.zero_add]; exact hc2
      refine ⟨_, rfl, by omega, by omega, _, ca, _, rfl, by omega, by omega, _, cb, ?_⟩
      intro h4 hcl; obtain rfl := hcl.eq
      rw [seq_lst, lst_str _ q1, lst_str _ q2]
      refine br_of (fun hne => ?_) (fun heq => ?_)
      · have hne' : ¬ x = y := by simpa using hne
        refine ⟨_, rfl, by omega, by omega, _, ca, _, rfl, by omega, by omega, _, cb, ?_⟩
        intro h5 hcl; obtain rfl := hcl.eq
        refine ⟨?_, o1'.ext⟩
        rw [slt_lst, lst_str _ q1, lst_str _ q2, hcut]
        show _ = Value.bool (if x = y then _ else ltB x y)
        rw [if_neg hne']
      · have heq' : x = y := by simpa using heq
        unfold F12_k4
        rintro _ rfl
        have e1 : IntKind.i64.wrap ((k : Int) + 1) = ((k + 1 : Nat) : Int) := by rw [i64_lt _ (by omega) (by omega)]; omega
        rw [e1]
        exact ⟨⟨k + 1, rfl, by omega, by omega, by rw [tp, tq, he, heq'], rfl⟩, by show ((p.length : Int) - ((k + 1 : Nat) : Int)).toNat < ((p.length : Int) - (k : Int)).toNat; omega⟩
    · have h2 : ¬ k < q.length := by
        have : ¬ (k : Int) < (l' : Int) := by simpa using hf2
        omega
      exact fin (fun hh => h2 hh.2)
  · have h1 : ¬ k < p.length := by
      have : ¬ (k : Int) < (l : Int) := by simpa using hf1
      omega
    unfold F12_k2
    exact br_of (fun hb => by simp at hb) (fun _ => fin (fun hh => h1 hh.1))
end Go.Proofs.YtpehbcfoddggoaaDoor
