import Derived.Test.YtnahhdkekchmfaaDoorLayTp

namespace Go.Proofs.YtnahhdkekchmfaaDoor
open Go.Vc Go.Sha Go.Trail Go.RowKit
set_option linter.unusedVariables false

theorem seq_self (s : ByteArray) : seq s s = true := by rw [seq_lst]; simp
theorem seq_str (l : List Nat) (h : ∀ x ∈ l, x < 256) (s : ByteArray) : seq (str l) s = decide (l = lst s) := by rw [seq_lst, lst_str l h]
theorem seq_str2 (l m : List Nat) (h : ∀ x ∈ l, x < 256) (h2 : ∀ x ∈ m, x < 256) : seq (str l) (str m) = decide (l = m) := by rw [seq_lst, lst_str l h, lst_str m h2]
theorem seq_str_nil (l : List Nat) (h : ∀ x ∈ l, x < 256) : seq (str l) ⟨#[]⟩ = decide (l = []) := by rw [seq_nil, lst_str l h]

theorem refIs_ok (s : ByteArray) (hs : s.size < 2 ^ 30) (h : Heap) : HEnt Tryd.prog 47 #[.string s] h fun v h' => v = .bool (decide (good (lst s))) ∧ Ext h h' := by
  refine F47_ent _ _ _ ?_
  have ls := lst_len s
  unfold F47
  rw [seq_nil]
  refine br_of (fun h0 => ⟨?_, Ext.refl _⟩) (fun h0 => ?_)
  · rw [decide_eq_true (show good (lst s) from .inl (of_decide_eq_true h0))]
  have h0' := of_decide_eq_false h0
  have hgood : good (lst s) ↔ ((∀ p ∈ pieces (lst s), partP p) ∧ (pieces (lst s)).length ≤ 8) := ⟨fun h => good_pieces h h0', fun h => .inr h⟩
  unfold F47_k1
  refine HEnt.use (refPieces_ok s (by omega) h) ?_
  rintro _ h1 ⟨ap, l, cp, rfl, o⟩
  refine ⟨ap, l, cp, rfl, ?_⟩
  rintro _ rfl
  have hl := o.len
  rw [vals_len] at hl
  have hplen := pieces_len (lst s)
  have hplt := pieces_lt (lst s) (lst_lt s)
  have heach := pieces_each (lst s)
  generalize pieces (lst s) = P at *
  refine ⟨fun x h' => ∃ k : Nat, x = k ∧ k ≤ P.length ∧ (∀ p ∈ P.take k, partP p) ∧ h' = h1, fun x _ => (P.length - x).toNat, ⟨0, rfl, by omega, by simp, rfl⟩, ?_⟩
  rintro h2 _ ⟨k, rfl, hk, hok, rfl⟩
  unfold F47_b2
  refine br_of (fun ht => ?_) (fun hf => ?_)
  · have hk' : k < P.length := by
      have : (k : Int) < (l : Int) := by simpa using ht
      omega
    obtain ⟨b, rfl, _, hc1⟩ := o.cell (vals_get hk')
    have hxlt := hplt _ (getD_mem hk')
    have hxlen := heach _ (getD_mem hk')
    have hxm := getD_mem hk'
    have ht := takeP_succ P k hk'
    generalize P.getD k [] = x at *
    unfold F47_k3
    refine ⟨_, rfl, by omega, by omega, str x, by rw [Int.toNat_natCast, Nat.mul_one, add_mk, Nat.zero_add]; exact hc1, ?_⟩
    refine HEnt.use (refPart_ok (str x) (by rw [str_size]; omega) h2) ?_
    rintro _ _ ⟨rfl, rfl⟩
    rw [lst_str x hxlt]
    refine ⟨_, rfl, br_of (fun hp => ⟨?_, o.ext⟩) (fun hp => ?_)⟩
    · have hp' : ¬ partP x := by simpa using hp
      congr 1
      exact (decide_eq_false fun hg => hp' ((hgood.1 hg).1 x hxm)).symm
    · have hp' : partP x := by simpa using hp
      unfold F47_k4
      rintro _ rfl
      have e1 : IntKind.i64.wrap ((k : Int) + 1) = ((k + 1 : Nat) : Int) := by rw [i64_lt _ (by omega) (by omega)]; omega
      rw [e1]
      refine ⟨⟨k + 1, rfl, by omega, ?_, rfl⟩, by show ((P.length : Int) - ((k + 1 : Nat) : Int)).toNat < ((P.length : Int) - (k : Int)).toNat; omega⟩
      rw [ht]
      intro p hpm
      rcases List.mem_append.1 hpm with h | h
      · exact hok p h
      · rw [List.mem_singleton] at h; rw [h]; exact hp'
  · have hk' : k = P.length := by
      have : ¬ (k : Int) < (l : Int) := by simpa using hf
      omega
    rw [List.take_of_length_le (by omega)] at hok
    unfold F47_k5
    refine ⟨?_, o.ext⟩
    congr 1
    refine decide_eq_decide.2 ?_
    rw [hgood]
    exact ⟨fun h => ⟨hok, by omega⟩, fun h => by have := h.2; omega⟩
end Go.Proofs.YtnahhdkekchmfaaDoor
