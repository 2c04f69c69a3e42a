import Derived.Test.YtpehbcfoddggoaaDoorTrailH

namespace Go.Proofs.YtpehbcfoddggoaaDoor
open Go.Vc Go.Sha Go.Trail Go.RowKit
set_option linter.unusedVariables false

theorem refClean_ok (s : ByteArray) (hs : s.size < 2 ^ 30) (h : Heap) : HEnt Tryd.prog 17 #[.string s] h fun v h' => v = res (clean (lst s)) ∧ Ext h h' := by
  refine F17_ent _ _ _ ?_
  have ls := lst_len s
  unfold F17
  refine HEnt.use (refPieces_ok s (by omega) h) ?_
  rintro _ h1 ⟨ap, l, cp, rfl, o1⟩
  refine ⟨ap, l, cp, rfl, ?_⟩
  rintro _ rfl
  have hl := o1.len
  rw [vals_len] at hl
  have hplen := pieces_len (lst s)
  have hplt := pieces_lt (lst s) (lst_lt s)
  have heach := pieces_each (lst s)
  have hcl : clean (lst s) = match cl [] (pieces (lst s)) with
    | none => ([], 12)
    | some acc => if acc.length > 8 then ([], 3) else (joinT acc, 0) := rfl
  rw [hcl]
  generalize pieces (lst s) = P at *
  generalize hC : cl [] P = C
  obtain ⟨I, hI⟩ : ∃ I : Option Addr → Nat → Nat → Int → Heap → Prop, I = fun a l' c (x : Int) h' => ∃ (k : Nat) (acc : List (List Nat)), x = k ∧ k ≤ P.length ∧ acc.length ≤ k ∧ C = cl acc (P.drop k) ∧ (∀ p ∈ acc, partP p) ∧ OwnAt 9 h1 h' a l' c (vals acc) := ⟨_, rfl⟩
  obtain ⟨M, hM⟩ : ∃ M : Option Addr → Nat → Nat → Int → Heap → Nat, M = fun _ _ _ (x : Int) _ => (P.length - x).toNat := ⟨_, rfl⟩
  refine ⟨I, M, by rw [hI]; exact ⟨0, [], rfl, by omega, by simp, hC.symm, by simp, OwnAt.nil 9 (Ext.refl h1)⟩, ?_⟩
  intro h2 a l' c x6 hinv
  rw [hI] at hinv
  obtain ⟨k, acc, rfl, hk, hacc, he, hpp, o⟩ := hinv
  have hol := o.len
  rw [vals_len] at hol
  have x12 := o.ext
  have x02 := o1.ext.trans x12
  unfold F17_b1
  refine br_of (fun ht => ?_) (fun hf => ?_)
  · have hk' : k < P.length := by
      have : (k : Int) < (l : Int) := by simpa using ht
      omega
    obtain ⟨b, rfl, _, hc1⟩ := (o1.grow x12).cell (vals_get hk')
    have hxlt := hplt _ (getD_mem hk')
    have hxlen := heach _ (getD_mem hk')
    have dP : P.drop k = P.getD k [] :: P.drop (k + 1) := by
      rw [List.drop_eq_getElem_cons hk', List.getD_eq_getElem?_getD, List.getElem?_eq_getElem hk']; rfl
    rw [dP] at he
    generalize P.getD k [] = x at *
    have e1 : IntKind.i64.wrap ((k : Int) + 1) = ((k + 1 : Nat) : Int) := by rw [i64_lt _ (by omega) (by omega)]; omega
    have ca : Vc.cell h2 ((⟨b, 0, none⟩ : Addr).add ((k : Int).toNat * 1)) = some (.string (str x)) := by rw [Int.toNat_natCast, Nat.mul_one, add_mk, Nat.zero_add]; exact hc1
    have lx : lst (str x) = x := lst_str x hxlt
    have go : ∀ (acc' : List (List Nat)) (a' : Option Addr) (l'' c' : Nat) (h' : Heap) (R : Value → Heap → Prop), cl acc (x :: P.drop (k + 1)) = cl acc' (P.drop (k + 1)) → acc'.length ≤ k + 1 → (∀ p ∈ acc', partP p) → OwnAt 9 h1 h' a' l'' c' (vals acc') →
        F17_k4 I M (M a l' c (k : Int) h2) a' l'' c' (some ⟨b, 0, none⟩) l cp (k : Int) h' R := by
      intro acc' a' l'' c' h' R hcl' hlen hpp' o'
      unfold F17_k4
      rintro _ rfl
      rw [e1, hI, hM]
      exact ⟨⟨k + 1, acc', rfl, by omega, hlen, he.trans hcl', hpp', o'⟩, by show ((P.length : Int) - ((k + 1 : Nat) : Int)).toNat < ((P.length : Int) - (k : Int)).toNat; omega⟩
    unfold F17_k2
    refine ⟨_, rfl, by omega, by omega, str x, ca, ?_⟩
    rw [seq_nil, lx]
    have skip : ∀ R, (x = [] ∨ x = [46]) → F17_k3 I M (M a l' c (k : Int) h2) a l' c (some ⟨b, 0, none⟩) l cp (k : Int) true h2 R := fun R hx => by
      unfold F17_k3
      refine br_of (fun _ => go acc a l' c h2 _ ?_ (by omega) hpp o) (fun hb => by cases hb)
      conv => lhs; unfold cl
      rw [if_pos hx]
    refine br_of (fun h0 => skip _ (.inl (of_decide_eq_true h0))) (fun h0 => ?_)
    have hx0 := of_decide_eq_false h0
    refine ⟨_, rfl, by omega, by omega, str x, ca, ?_⟩
    rw [seq_lst, lst_dot, lx]
    by_cases hx1 : x = [46]
    · rw [decide_eq_true hx1]; exact skip _ (.inr hx1)
    rw [decide_eq_false hx1]
    have hno : ¬ (x = [] ∨ x = [46]) := fun h => h.elim hx0 hx1
    unfold F17_k3
    refine br_of (fun hb => by cases hb) (fun _ => ?_)
    unfold F17_k5
    refine ⟨_, rfl, by omega, by omega, str x, ca, ?_⟩
    rw [seq_lst, lst_dots, lx]
    refine br_of (fun h2' => ?_) (fun h2' => ?_)
    · have hx2 := of_decide_eq_true h2'
      have ec : cl acc (x :: P.drop (k + 1)) = if acc = [] then none else cl acc.dropLast (P.drop (k + 1)) := by
        conv => lhs; unfold cl
        rw [if_neg hno, if_pos hx2]
      refine br_of (fun hz => ?_) (fun hz => ?_)
      · have ha : acc = [] := by
          have : (l' : Int) = 0 := by simpa using hz
          exact List.eq_nil_of_length_eq_zero (by omega)
        refine ⟨?_, x02⟩
        rw [he, ec, if_pos ha]; rfl
      · have hl0 : l' ≠ 0 := by
          have : ¬ (l' : Int) = 0 := by simpa using hz
          omega
        have ha : acc ≠ [] := fun h => by rw [h] at hol; simp at hol; omega
        obtain ⟨n, rfl⟩ : ∃ n, l' = n + 1 := ⟨l' - 1, by omega⟩
        have ew : IntKind.i64.wrap (((n + 1 : Nat) : Int) - 1) = ((n : Nat) : Int) := by rw [i64_lt _ (by omega) (by omega)]; omega
        unfold F17_k6
        rw [ew]
        have hcap : n + 1 ≤ c := by
          rcases o.own with ⟨_, e, _⟩ | o
          · cases e
          · exact o.cap
        obtain ⟨bb, hbb, -⟩ := o.cell (vals_get (show 0 < acc.length by omega))
        subst hbb
        refine ⟨by decide, newK_intro fun h3 n3 x3 s3 => ⟨by omega, by omega, by omega, ?_⟩⟩
        rw [cut0, Int.toNat_natCast, Nat.sub_zero, Nat.sub_zero]
        have od : OwnAt 9 h1 h3 (some ⟨bb, 0, none⟩) n c (vals acc.dropLast) := by
          have := (OwnAt.shrink o).grow x3
          rw [vals, ← List.map_dropLast] at this
          exact this
        have on : OwnAt 9 h1 h3 (some ⟨h2.size, 0, none⟩) 0 0 [] := OwnAt.new_ n3 (x12.trans x3) x12.size
        refine appK_at (m := n) (news := vals acc.dropLast) cells9 zero9 on od.src od.len (vals_one _) (by rw [bytes9]; omega) fun a4 c4 h4 o4 k4 => ?_
        rw [List.nil_append] at o4
        exact go acc.dropLast _ _ _ h4 _ (by rw [ec, if_neg ha]) (by simp; omega) (fun p hp => hpp p (List.dropLast_subset _ hp)) o4
    · have hx2 := of_decide_eq_false h2'
      unfold F17_k7
      refine ⟨_, rfl, by omega, by omega, str x, ca, ?_⟩
      refine HEnt.use (refPart_ok (str x) ?_ h2) ?_
      · have : (str x).size ≤ s.size := by
          rw [str_size]; omega
        omega
      rintro _ _ ⟨rfl, rfl⟩
      rw [lx]
      refine ⟨_, rfl, br_of (fun hp => ?_) (fun hp => ?_)⟩
      · have hp' : ¬ partP x := by simpa using hp
        refine ⟨?_, x02⟩
        have : cl acc (x :: P.drop (k + 1)) = none := by
          conv => lhs; unfold cl
          rw [if_neg hno, if_neg hx2, if_neg hp']
        rw [he, this]; rfl
      · have hp' : partP x := by simpa using hp
        unfold F17_k8
        refine ⟨_, rfl, by omega, by omega, str x, ca, by decide, newK_intro fun h3 n3 x3 s3 => ?_⟩
        refine appK_at (m := 1) (news := vals [x]) cells9 zero9 (o.grow x3) (srcK_slice rfl (fun ad e => by cases e; exact cells_blk0 n3) (by rintro ⟨⟩)) rfl (vals_one _) (by rw [bytes9]; omega) fun a4 c4 h4 o4 k4 => ?_
        refine go (acc ++ [x]) _ _ _ h4 _ ?_ (by simp; omega) ?_ (by rw [vals_append]; exact o4)
        · conv => lhs; unfold cl
          rw [if_neg hno, if_neg hx2, if_pos hp']
        · intro p hpm
          rcases List.mem_append.1 hpm with h | h
          · exact hpp p h
          · simp at h; rw [h]; exact hp'
  · have hk' : k = P.length := by
      have : ¬ (k : Int) < (l : Int) := by simpa using hf
      omega
    rw [List.drop_of_length_le (by omega), show cl acc [] = some acc from rfl] at he
    rw [he]
    unfold F17_k9
    refine br_of (fun h8 => ?_) (fun h8 => ?_)
    · have h8' : acc.length > 8 := by
        have : (l' : Int) > 8 := by simpa using h8
        omega
      refine ⟨?_, x02⟩
      show _ = res (if _ then _ else _)
      rw [if_pos h8']; rfl
    · have h8' : ¬ acc.length > 8 := by
        have : ¬ (l' : Int) > 8 := by simpa using h8
        omega
      unfold F17_k10
      refine HEnt.use (text_ok a l' c acc h2 o hpp (by omega)) ?_
      rintro _ _ ⟨rfl, rfl⟩
      refine ⟨_, rfl, ?_, x02⟩
      show _ = res (if _ then _ else _)
      rw [if_neg h8']; rfl

theorem joinF_ok (s t : ByteArray) (hs : s.size < 2 ^ 25) (ht : t.size < 2 ^ 25) (h : Heap) (hm : MaxAt h) : HEnt Tryd.prog 18 #[.string s, .string t] h fun v h' => v = res (clean (lst s ++ 47 :: lst t)) ∧ Ext h h' := by
  refine F18_ent _ _ _ _ ?_
  unfold F18
  refine ⟨by show s.size + 1 ≤ _; omega, by rw [ByteArray.size_append]; show s.size + 1 + _ ≤ _; omega, ?_⟩
  refine HEnt.use (clean_ok _ ?_ h hm) ?_
  · rw [ByteArray.size_append, ByteArray.size_append]; show s.size + 1 + _ < _; omega
  rw [lst_append, lst_append]
  rintro _ h1 ⟨rfl, x1⟩
  refine ⟨_, _, rfl, ?_, x1⟩
  rw [List.append_assoc]; rfl

theorem cleans_ok (s t : ByteArray) (hs : s.size < 2 ^ 25) (ht : t.size < 2 ^ 25) (h : Heap) (hm : MaxAt h) : HEnt Tryd.prog 6 #[.string s, .string t] h fun v h' => v = .bool true ∧ Ext h h' := by
  refine F6_ent _ _ _ _ ?_
  unfold F6
  refine HEnt.use (clean_ok s (by omega) h hm) ?_
  rintro _ h1 ⟨rfl, x1⟩
  refine ⟨_, _, rfl, HEnt.use (refClean_ok s (by omega) h1) ?_⟩
  rintro _ h2 ⟨rfl, x2⟩
  refine ⟨_, _, rfl, HEnt.use (joinF_ok s t hs ht h2 (hm.ext (x1.trans x2))) ?_⟩
  rintro _ h3 ⟨rfl, x3⟩
  refine ⟨_, _, rfl, by show s.size + 1 ≤ _; omega, by rw [ByteArray.size_append]; show s.size + 1 + _ ≤ _; omega, ?_⟩
  refine HEnt.use (refClean_ok _ ?_ h3) ?_
  · rw [ByteArray.size_append, ByteArray.size_append]; show s.size + 1 + _ < _; omega
  rw [lst_append, lst_append, List.append_assoc]
  rintro _ h4 ⟨rfl, x4⟩
  have x := ((x1.trans x2).trans x3).trans x4
  refine ⟨_, _, rfl, br_of (fun _ => br_of (fun _ => br_of (fun _ => br_of (fun _ => ?_) (fun hb => ?_)) (fun hb => ?_)) (fun hb => ?_)) (fun hb => ?_)⟩
  · refine HEnt.use (works_ok _ (hm.ext x)) ?_
    rintro _ h5 ⟨rfl, x5⟩
    exact ⟨true, rfl, rfl, x.trans x5⟩
  · simp [show lst (⟨#[47]⟩ : ByteArray) = [47] from rfl] at hb
  · simp [show lst (⟨#[47]⟩ : ByteArray) = [47] from rfl, seq_lst] at hb
  · simp at hb
  · simp [seq_lst] at hb
end Go.Proofs.YtpehbcfoddggoaaDoor
