import Derived.Test.YtpehbcfoddggoaaDoorTrailE

namespace Go.Proofs.YtpehbcfoddggoaaDoor
open Go.Vc Go.Sha Go.Trail Go.RowKit
set_option linter.unusedVariables false

theorem OwnAt.shrink {el : TypeId} {h0 h : Heap} {a : Option Addr} {l c : Nat} {vs : List Value} (o : OwnAt el h0 h a (l + 1) c vs) : OwnAt el h0 h a l c vs.dropLast := by
  refine ⟨?_, o.new, o.ext⟩
  have hl := o.len
  rcases o.own with ⟨_, e, _, _⟩ | ⟨h1, h2, b, cs, rfl, h3, h4, h5, h6⟩
  · cases e
  · refine .inr ⟨by simp [hl], by omega, b, cs, rfl, h3, h4, h5, ?_⟩
    rw [← h6, List.dropLast_eq_take, List.length_take, List.take_take]
    congr 1
    simp; omega
theorem cut0 (c : Nat) (b : Nat) : cutAt c 0 1 (some (⟨b, 0, none⟩ : Addr)) = some ⟨b, 0, none⟩ := by
  unfold cutAt; split
  · rfl
  · simp [add_mk]

def cl : List (List Nat) → List (List Nat) → Option (List (List Nat))
  | acc, [] => some acc
  | acc, x :: r => if x = [] ∨ x = [46] then cl acc r else if x = [46, 46] then (if acc = [] then none else cl acc.dropLast r) else if partP x then cl (acc ++ [x]) r else none
def clean (l : List Nat) : List Nat × Nat := match cl [] (pieces l) with
  | none => ([], 12)
  | some acc => if acc.length > 8 then ([], 3) else (joinT acc, 0)
theorem part_lt {x : List Nat} (h : partP x) : ∀ c ∈ x, c < 256 := fun c hc => by
  have := h.2.2.2.2 c hc
  unfold okP at this; omega
theorem joinT_len : ∀ ps : List (List Nat), (∀ p ∈ ps, p.length ≤ 24) → (joinT ps).length ≤ ps.length * 25
  | [], _ => by simp [joinT]
  | [x], h => by have := h x (by simp); simp [joinT]; omega
  | x :: y :: r, h => by
    have := h x (by simp)
    have ih := joinT_len (y :: r) fun p hp => h p (List.mem_cons_of_mem _ hp)
    simp only [joinT, List.length_append, List.length_cons] at ih ⊢
    omega
theorem pieces_each (l : List Nat) : ∀ p ∈ pieces l, p.length ≤ l.length := by
  induction l with
  | nil => intro p hp; simp [pieces] at hp; subst hp; simp
  | cons c r ih =>
    intro p hp
    unfold pieces at hp
    split at hp
    · rcases List.mem_cons.1 hp with rfl | hp
      · simp
      · have := ih p hp; simp; omega
    · obtain ⟨q, qs, hq⟩ := pieces_ne r
      rw [hq] at hp ih
      rcases List.mem_cons.1 hp with rfl | hp
      · have := ih q (List.mem_cons_self ..); simp; omega
      · have := ih p (List.mem_cons_of_mem _ hp); simp; omega
def res (r : List Nat × Nat) : Value := .tuple #[.string (str r.1), .int .i64 r.2]

theorem clean_ok (s : ByteArray) (hs : s.size < 2 ^ 30) (h : Heap) (hm : MaxAt h) : HEnt Tryd.prog 16 #[.string s] h fun v h' => v = res (clean (lst s)) ∧ Ext h h' := by
  refine F16_ent _ _ _ ?_
  have ls := lst_len s
  unfold F16
  refine HEnt.use (split_ok s (by omega) h hm) ?_
  rintro _ h1 ⟨l, rfl, o1⟩
  refine ⟨_, l, l, rfl, ?_⟩
  have hl := o1.len
  rw [vals_len] at hl
  have hplen := pieces_len (lst s)
  have hplt := pieces_lt (lst s) (lst_lt s)
  have heach := pieces_each (lst s)
  have hcl : clean (lst s) = match cl [] (pieces (lst s)) with
    | none => ([], 12)
    | some acc => if acc.length > 8 then ([], 3) else (joinT acc, 0) := rfl
  rw [hcl]
  generalize pieces (lst s) = P at *
  generalize hC : cl [] P = C
  refine ⟨fun a l' c x h' => ∃ (k : Nat) (acc : List (List Nat)), x = k ∧ k ≤ P.length ∧ acc.length ≤ k ∧ C = cl acc (P.drop k) ∧ (∀ p ∈ acc, partP p) ∧ OwnAt 9 h1 h' a l' c (vals acc), fun _ _ _ x _ => (P.length - x).toNat,
    ⟨0, [], rfl, by omega, by simp, hC.symm, by simp, OwnAt.nil 9 (Ext.refl h1)⟩, ?_⟩
  rintro h2 a l' c _ ⟨k, acc, rfl, hk, hacc, he, hpp, o⟩
  have hol := o.len
  rw [vals_len] at hol
  have x12 := o.ext
  have x02 := o1.ext.trans x12
  unfold F16_b1
  refine br_of (fun ht => ?_) (fun hf => ?_)
  · have hk' : k < P.length := by
      have : (k : Int) < (l : Int) := by simpa using ht
      omega
    obtain ⟨b, e, _, hc1⟩ := (o1.grow x12).cell (vals_get hk')
    cases e
    have hxlt := hplt _ (getD_mem hk')
    have hxlen := heach _ (getD_mem hk')
    have dP : P.drop k = P.getD k [] :: P.drop (k + 1) := by
      rw [List.drop_eq_getElem_cons hk', List.getD_eq_getElem?_getD, List.getElem?_eq_getElem hk']; rfl
    rw [dP] at he
    generalize P.getD k [] = x at *
    have e1 : IntKind.i64.wrap ((k : Int) + 1) = ((k + 1 : Nat) : Int) := by rw [i64_lt _ (by omega) (by omega)]; omega
    have go : ∀ (acc' : List (List Nat)) (a' : Option Addr) (l'' c' : Nat) (h' : Heap), cl acc (x :: P.drop (k + 1)) = cl acc' (P.drop (k + 1)) → acc'.length ≤ k + 1 → (∀ p ∈ acc', partP p) → OwnAt 9 h1 h' a' l'' c' (vals acc') →
        F16_k4 (fun a l' c x h' => ∃ (k : Nat) (acc : List (List Nat)), x = k ∧ k ≤ P.length ∧ acc.length ≤ k ∧ C = cl acc (P.drop k) ∧ (∀ p ∈ acc, partP p) ∧ OwnAt 9 h1 h' a l' c (vals acc)) (fun _ _ _ x _ => (P.length - x).toNat) ((P.length - (k : Int)).toNat)
          a' l'' c' (some ⟨h.size, 0, none⟩) l l (l : Int) (k : Int) h' fun v h' => v = res (match C with
            | none => ([], 12)
            | some acc => if acc.length > 8 then ([], 3) else (joinT acc, 0)) ∧ Ext h h' := by
      intro acc' a' l'' c' h' hcl' hlen hpp' o'
      unfold F16_k4
      rw [e1]
      exact ⟨⟨k + 1, acc', rfl, by omega, hlen, he.trans hcl', hpp', o'⟩, by show ((P.length : Int) - ((k + 1 : Nat) : Int)).toNat < ((P.length : Int) - (k : Int)).toNat; omega⟩
    unfold F16_k2
    refine ⟨_, rfl, by omega, by omega, str x, by rw [Int.toNat_natCast, Nat.mul_one, add_mk, Nat.zero_add]; exact hc1, ?_⟩
    have lx : lst (str x) = x := lst_str x hxlt
    rw [seq_nil, seq_lst, lst_dot, lx]
    have skip : (x = [] ∨ x = [46]) → F16_k3 (fun a l' c x h' => ∃ (k : Nat) (acc : List (List Nat)), x = k ∧ k ≤ P.length ∧ acc.length ≤ k ∧ C = cl acc (P.drop k) ∧ (∀ p ∈ acc, partP p) ∧ OwnAt 9 h1 h' a l' c (vals acc)) (fun _ _ _ x _ => (P.length - x).toNat) ((P.length - (k : Int)).toNat)
          a l' c (str x) (some ⟨h.size, 0, none⟩) l l (l : Int) (k : Int) true h2 fun v h' => v = res (match C with
            | none => ([], 12)
            | some acc => if acc.length > 8 then ([], 3) else (joinT acc, 0)) ∧ Ext h h' := fun hx => by
      unfold F16_k3
      refine br_of (fun _ => go acc a l' c h2 ?_ (by omega) hpp o) (fun hb => by cases hb)
      conv => lhs; unfold cl
      rw [if_pos hx]
    refine br_of (fun h0 => skip (.inl (of_decide_eq_true h0))) (fun h0 => ?_)
    have hx0 := of_decide_eq_false h0
    by_cases hx1 : x = [46]
    · rw [decide_eq_true hx1]; exact skip (.inr hx1)
    rw [decide_eq_false hx1]
    have hno : ¬ (x = [] ∨ x = [46]) := fun h => h.elim hx0 hx1
    unfold F16_k3
    refine br_of (fun hb => by cases hb) (fun _ => ?_)
    rw [seq_lst, lst_dots, lx]
    refine br_of (fun h2' => ?_) (fun h2' => ?_)
    · have hx2 := of_decide_eq_true h2'
      have ec : cl acc (x :: P.drop (k + 1)) = if acc = [] then none else cl acc.dropLast (P.drop (k + 1)) := by
        conv => lhs; unfold cl
        rw [if_neg hno, if_pos hx2]
      refine br_of (fun hz => ?_) (fun hz => ?_)
      · have ha : acc = [] := by
          have : (l' : Int) = 0 := by simpa using hz
          exact List.eq_nil_of_length_eq_zero (by omega)
        refine ⟨?_, x02⟩
        rw [he, ec, if_pos ha]; rfl
      · have hl0 : l' ≠ 0 := by
          have : ¬ (l' : Int) = 0 := by simpa using hz
          omega
        have ha : acc ≠ [] := fun h => by rw [h] at hol; simp at hol; omega
        obtain ⟨n, rfl⟩ : ∃ n, l' = n + 1 := ⟨l' - 1, by omega⟩
        have ew : IntKind.i64.wrap (((n + 1 : Nat) : Int) - 1) = ((n : Nat) : Int) := by rw [i64_lt _ (by omega) (by omega)]; omega
        unfold F16_k5
        rw [ew]
        have hcap : n + 1 ≤ c := by
          rcases o.own with ⟨_, e, _⟩ | o
          · cases e
          · exact o.cap
        obtain ⟨bb, hbb, -⟩ := o.cell (vals_get (show 0 < acc.length by omega))
        subst hbb
        refine ⟨by omega, by omega, by omega, ?_⟩
        rw [cut0, Int.toNat_natCast, Nat.sub_zero, Nat.sub_zero]
        refine go acc.dropLast _ n c h2 (by rw [ec, if_neg ha]) (by simp; omega) (fun p hp => hpp p (List.dropLast_subset _ hp)) ?_
        have := OwnAt.shrink o
        rw [vals, ← List.map_dropLast] at this
        exact this
    · have hx2 := of_decide_eq_false h2'
      refine HEnt.use (part_ok (str x) ?_ h2) ?_
      · have : (str x).size ≤ s.size := by
          rw [str_size]; omega
        omega
      rintro _ _ ⟨rfl, rfl⟩
      rw [lx]
      refine ⟨_, rfl, br_of (fun hp => ?_) (fun hp => ?_)⟩
      · have hp' := of_decide_eq_true hp
        refine ⟨by decide, newK_intro fun h3 n3 x3 s3 => ?_⟩
        refine appK_at (m := 1) (news := vals [x]) cells9 zero9 (o.grow x3) (srcK_slice rfl (fun ad e => by cases e; exact cells_blk0 n3) (by rintro ⟨⟩)) rfl (vals_one _) (by rw [bytes9]; omega) fun a4 c4 h4 o4 k4 => ?_
        refine go (acc ++ [x]) _ _ _ h4 ?_ (by simp; omega) ?_ (by rw [vals_append]; exact o4)
        · conv => lhs; unfold cl
          rw [if_neg hno, if_neg hx2, if_pos hp']
        · intro p hpm
          rcases List.mem_append.1 hpm with h | h
          · exact hpp p h
          · simp at h; rw [h]; exact hp'
      · have hp' := of_decide_eq_false hp
        refine ⟨?_, x02⟩
        have : cl acc (x :: P.drop (k + 1)) = none := by
          conv => lhs; unfold cl
          rw [if_neg hno, if_neg hx2, if_neg hp']
        rw [he, this]; rfl
  · have hk' : k = P.length := by
      have : ¬ (k : Int) < (l : Int) := by simpa using hf
      omega
    rw [List.drop_of_length_le (by omega), show cl acc [] = some acc from rfl] at he
    rw [he]
    unfold F16_k6
    refine br_of (fun h8 => ?_) (fun h8 => ?_)
    · have h8' : acc.length > 8 := by
        have : (l' : Int) > 8 := by simpa using h8
        omega
      refine ⟨?_, x02⟩
      show _ = res (if _ then _ else _)
      rw [if_pos h8']; rfl
    · have h8' : ¬ acc.length > 8 := by
        have : ¬ (l' : Int) > 8 := by simpa using h8
        omega
      have hj := joinT_len acc fun p hp => (hpp p hp).2.1
      unfold F16_k7
      refine HEnt.use (join_ok a l' c acc h2 o (fun p hp => part_lt (hpp p hp)) (by omega) (by omega)) ?_
      rintro _ h3 ⟨rfl, x3⟩
      refine ⟨_, rfl, ?_, x02.trans x3⟩
      show _ = res (if _ then _ else _)
      rw [if_neg h8']; rfl
end Go.Proofs.YtpehbcfoddggoaaDoor
