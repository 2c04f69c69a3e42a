import Derived.Test.YtpehbcfoddggoaaDoorTrailA
import Derived.Test.YtpehbcfoddggoaaDoorTrailLib
import Derived.Test.YtpehbcfoddggoaaDoorTrailShelf

namespace Go.Proofs.YtpehbcfoddggoaaDoor
open Go.Vc Go.Sha Go.Trail Go.RowKit
set_option linter.unusedVariables false

/-- a list of texts, as values -/
def vals (ps : List (List Nat)) : List Value := ps.map fun p => .string (str p)
theorem vals_len (ps : List (List Nat)) : (vals ps).length = ps.length := by simp [vals]
theorem vals_get {ps : List (List Nat)} {i : Nat} (hi : i < ps.length) : (vals ps)[i]? = some (.string (str (ps.getD i []))) := by
  simp [vals, List.getD_eq_getElem?_getD, hi]
theorem vals_one (ps : List (List Nat)) : ∀ u ∈ vals ps, one u = true := by
  intro u hu
  obtain ⟨p, _, rfl⟩ := List.mem_map.1 hu
  rfl
theorem vals_append (ps qs : List (List Nat)) : vals (ps ++ qs) = vals ps ++ vals qs := by simp [vals]
theorem cells9 : Tryd.prog.cellsOf 9 = 1 := by kernel_rfl
theorem zero9 : (((Tryd.prog.info? 9).bind (·.zero)).getD undef).cells.size = 1 := by kernel_rfl
theorem bytes9 : Tryd.prog.bytesOf 9 = 16 := by kernel_rfl
theorem str_cut (s : ByteArray) (i j : Nat) : s.extract i j = str (((lst s).drop i).take (j - i)) := by rw [← lst_cut, str_lst]

theorem pieces_slash : ∀ (x r : List Nat), (∀ c ∈ x, c ≠ 47) → pieces (x ++ 47 :: r) = x :: pieces r
  | [], r, _ => by simp [pieces]
  | c :: x, r, h => by
    have hc : c ≠ 47 := h c (List.mem_cons_self ..)
    have ih := pieces_slash x r fun d hd => h d (List.mem_cons_of_mem _ hd)
    have e : pieces (c :: (x ++ 47 :: r)) = if c = 47 then [] :: pieces (x ++ 47 :: r) else match pieces (x ++ 47 :: r) with
      | [] => [[c]]
      | p :: ps => (c :: p) :: ps := rfl
    show pieces (c :: (x ++ 47 :: r)) = _
    rw [e, if_neg hc, ih]
theorem pieces_whole : ∀ (x : List Nat), (∀ c ∈ x, c ≠ 47) → pieces x = [x]
  | [], _ => rfl
  | c :: x, h => by
    have hc : c ≠ 47 := h c (List.mem_cons_self ..)
    have ih := pieces_whole x fun d hd => h d (List.mem_cons_of_mem _ hd)
    unfold pieces
    rw [if_neg hc, ih]
theorem pieces_len (l : List Nat) : (pieces l).length ≤ l.length + 1 := by
  induction l with
  | nil => decide
  | cons c r ih =>
    unfold pieces
    split
    · simp; omega
    · obtain ⟨p, ps, hp⟩ := pieces_ne r
      rw [hp] at ih ⊢
      simp at ih ⊢; omega

theorem refPieces_ok (s : ByteArray) (hs : s.size < 2 ^ 40) (h : Heap) : HEnt Tryd.prog 30 #[.string s] h fun v h' => ∃ a l c, v = .slice a l c ∧ OwnAt 9 h h' a l c (vals (pieces (lst s))) := by
  refine F30_ent _ _ _ ?_
  have ls := lst_len s
  unfold F30
  rintro _ rfl _ rfl
  refine ⟨fun a l c from_ i h' => ∃ (f k : Nat) (done : List (List Nat)), from_ = f ∧ i = k ∧ f ≤ k ∧ k ≤ s.size ∧ done.length ≤ k ∧ pieces (lst s) = done ++ pieces ((lst s).drop f) ∧ (∀ c ∈ ((lst s).drop f).take (k - f), c ≠ 47) ∧ OwnAt 9 h h' a l c (vals done),
    fun _ _ _ _ i _ => (s.size - i).toNat, ⟨0, 0, [], rfl, rfl, by omega, by omega, by simp, rfl, by simp, OwnAt.nil 9 (Ext.refl h)⟩, ?_⟩
  rintro h1 a l c _ _ ⟨f, k, done, rfl, rfl, hfk, hk, hdl, hp, hno, o⟩
  have hol := o.len
  rw [vals_len] at hol
  unfold F30_b1
  refine br_of (fun ht => ?_) (fun hf => ?_)
  · have hk' : k < s.size := by
      have : (k : Int) < (s.size : Int) := by simpa using ht
      omega
    have e1 : IntKind.i64.wrap ((k : Int) + 1) = ((k + 1 : Nat) : Int) := by rw [i64_lt _ (by omega) (by omega)]; omega
    have cut : ((lst s).drop f).take (k + 1 - f) = ((lst s).drop f).take (k - f) ++ [(lst s).getD k 0] := by
      rw [show k + 1 - f = (k - f) + 1 by omega, List.take_succ_eq_append_getElem (by rw [List.length_drop]; omega), List.getElem_drop, List.getD_eq_getElem?_getD, List.getElem?_eq_getElem (by omega)]
      simp [show f + (k - f) = k by omega]
    have dk : (lst s).drop f = ((lst s).drop f).take (k - f) ++ (lst s).getD k 0 :: (lst s).drop (k + 1) := by
      conv => lhs; rw [← List.take_append_drop (k - f) ((lst s).drop f)]
      rw [List.drop_drop, show f + (k - f) = k by omega]
      congr 1
      rw [List.drop_eq_getElem_cons (by omega), List.getD_eq_getElem?_getD, List.getElem?_eq_getElem (by omega)]; rfl
    unfold F30_k2
    rw [bt_lst]
    refine ⟨by omega, by omega, br_of (fun hc => ?_) (fun hc => ?_)⟩
    · have hc' : (lst s).getD k 0 = 47 := by
        have : (((lst s).getD k 0 : Nat) : Int) = 47 := by simpa using hc
        omega
      refine ⟨by omega, by omega, by omega, by decide, newK_intro fun h2 n2 x2 s2 => ?_⟩
      rw [Int.toNat_natCast, Int.toNat_natCast, str_cut] at n2
      refine appK_at (m := 1) (news := vals [((lst s).drop f).take (k - f)]) cells9 zero9 (o.grow x2) (srcK_slice rfl (fun ad e => by cases e; exact cells_blk0 n2) (by rintro ⟨⟩)) rfl (vals_one _) (by rw [bytes9]; omega) fun a3 c3 h3 o3 k3 => ?_
      rintro _ rfl
      unfold F30_k3
      rintro _ rfl
      rw [e1]
      refine ⟨⟨k + 1, k + 1, done ++ [((lst s).drop f).take (k - f)], rfl, rfl, by omega, by omega, by simp; omega, ?_, by simp, by rw [vals_append]; exact o3⟩, by show ((s.size : Int) - ((k + 1 : Nat) : Int)).toNat < ((s.size : Int) - (k : Int)).toNat; omega⟩
      rw [hp]
      conv => lhs; rw [dk, hc', pieces_slash _ _ hno]
      simp
    · have hc' : (lst s).getD k 0 ≠ 47 := by
        have : ¬ (((lst s).getD k 0 : Nat) : Int) = 47 := by simpa using hc
        omega
      unfold F30_k3
      rintro _ rfl
      rw [e1]
      refine ⟨⟨f, k + 1, done, rfl, rfl, by omega, by omega, by omega, hp, ?_, o⟩, by show ((s.size : Int) - ((k + 1 : Nat) : Int)).toNat < ((s.size : Int) - (k : Int)).toNat; omega⟩
      rw [cut]
      intro d hd
      rcases List.mem_append.1 hd with hd | hd
      · exact hno d hd
      · simp at hd; rw [hd]; exact hc'
  · have hk' : k = s.size := by
      have : ¬ (k : Int) < (s.size : Int) := by simpa using hf
      omega
    unfold F30_k4
    refine ⟨by omega, by omega, by omega, by decide, newK_intro fun h2 n2 x2 s2 => ?_⟩
    rw [Int.toNat_natCast, Int.toNat_natCast, str_cut] at n2
    refine appK_at (m := 1) (news := vals [((lst s).drop f).take (s.size - f)]) cells9 zero9 (o.grow x2) (srcK_slice rfl (fun ad e => by cases e; exact cells_blk0 n2) (by rintro ⟨⟩)) rfl (vals_one _) (by rw [bytes9]; omega) fun a3 c3 h3 o3 k3 => ?_
    refine ⟨a3, _, c3, rfl, ?_⟩
    subst hk'
    have hw : ((lst s).drop f).take (s.size - f) = (lst s).drop f := List.take_of_length_le (by rw [List.length_drop]; omega)
    rw [hw] at o3 hno
    rw [hp, pieces_whole _ hno, vals_append]
    exact o3
/-- the pieces of a path; none has the empty one -/
def piecesE (l : List Nat) : List (List Nat) := if l = [] then [] else pieces l
theorem refpieces_ok (s : ByteArray) (hs : s.size < 2 ^ 40) (h : Heap) : HEnt Tryd.prog 26 #[.string s] h fun v h' => ∃ a l c, v = .slice a l c ∧ OwnAt 9 h h' a l c (vals (piecesE (lst s))) := by
  refine F26_ent _ _ _ ?_
  unfold F26
  rw [seq_nil]
  refine br_of (fun h0 => ?_) (fun h0 => ?_)
  · refine ⟨none, 0, 0, rfl, ?_⟩
    unfold piecesE; rw [if_pos (of_decide_eq_true h0)]
    exact OwnAt.nil 9 (Ext.refl h)
  · unfold F26_k1
    refine HEnt.use (refPieces_ok s hs h) ?_
    rintro _ h1 ⟨a, l, c, rfl, o⟩
    refine ⟨a, l, c, rfl, a, l, c, rfl, ?_⟩
    unfold piecesE; rw [if_neg (of_decide_eq_false h0)]; exact o
theorem lexE (p q : List Nat) : lexP (piecesE p) (piecesE q) = lexK p q := by
  unfold piecesE
  by_cases hp : p = []
  · subst hp
    by_cases hq : q = []
    · subst hq; rfl
    · rw [if_pos rfl, if_neg hq]
      obtain ⟨y, ys, hy⟩ := pieces_ne q
      rw [hy]
      cases q with
      | nil => exact absurd rfl hq
      | cons b q => rfl
  · rw [if_neg hp]
    by_cases hq : q = []
    · subst hq
      rw [if_pos rfl]
      obtain ⟨y, ys, hy⟩ := pieces_ne p
      rw [hy]
      cases p with
      | nil => exact absurd rfl hp
      | cons b q => rfl
    · rw [if_neg hq, lex_eq]
theorem pieces_lt (l : List Nat) (hl : ∀ x ∈ l, x < 256) : ∀ p ∈ pieces l, ∀ x ∈ p, x < 256 := by
  induction l with
  | nil => intro p hp x hx; simp [pieces] at hp; subst hp; simp at hx
  | cons c r ih =>
    have ih' := ih fun x hx => hl x (List.mem_cons_of_mem _ hx)
    intro p hp x hx
    unfold pieces at hp
    split at hp
    · rcases List.mem_cons.1 hp with rfl | hp
      · simp at hx
      · exact ih' p hp x hx
    · obtain ⟨q, qs, hq⟩ := pieces_ne r
      rw [hq] at hp ih'
      rcases List.mem_cons.1 hp with rfl | hp
      · rcases List.mem_cons.1 hx with rfl | hx
        · exact hl x (List.mem_cons_self ..)
        · exact ih' q (List.mem_cons_self ..) x hx
      · exact ih' p (List.mem_cons_of_mem _ hp) x hx
end Go.Proofs.YtpehbcfoddggoaaDoor
