import Derived.Test.YtcfegbpoailbdaaDoorVopA
import Derived.Test.YtcfegbpoailbdaaDoorTrailSpec
import Derived.Test.YtcfegbpoailbdaaDoorVcT
import Derived.Test.YtcfegbpoailbdaaDoorTrailLib
import Derived.Test.YtcfegbpoailbdaaDoorOvlShelf

namespace Go.Proofs.YtcfegbpoailbdaaDoor
open Go.Vc Go.Sha Go.Trail
set_option linter.unusedVariables false

theorem i64_lt (n : Int) (h : -9223372036854775808 ≤ n) (h' : n < 9223372036854775808) : IntKind.i64.wrap n = n := IntWalk.i64_in _ (by omega)
theorem seq_nil (s : ByteArray) : seq s ⟨#[]⟩ = decide (lst s = []) := seq_lst s _
theorem lt_of_lst {s : ByteArray} {i : Nat} (h : i < s.size) : i < (lst s).length := by rw [lst_len]; exact h

theorem less_ok (s t : ByteArray) (hs : s.size < 2 ^ 62) (h : Heap) : HEnt Tryd.prog 41 #[.string s, .string t] h fun v h' => v = .bool (lexK (lst s) (lst t)) ∧ h' = h := by
  refine F41_ent _ _ _ _ ?_
  unfold F41
  have ls := lst_len s
  have lt := lst_len t
  have main : F41_k2 s t h fun v h' => v = .bool (lexK (lst s) (lst t)) ∧ h' = h := by
    unfold F41_k2
    have em : minI (s.size : Int) (t.size : Int) = ((min s.size t.size : Nat) : Int) := by unfold minI; split <;> omega
    rw [em]
    refine ⟨fun x h' => ∃ k : Nat, x = k ∧ k ≤ min s.size t.size ∧ lexK ((lst s).drop k) ((lst t).drop k) = lexK (lst s) (lst t) ∧ h' = h, fun x _ => (min s.size t.size - x).toNat, ⟨0, rfl, by omega, rfl, rfl⟩, ?_⟩
    rintro _ _ ⟨k, rfl, hk, he, rfl⟩
    unfold F41_b3
    refine br_of (fun ht => ?_) (fun hf => ?_)
    · have hk' : k < min s.size t.size := by
        have : (k : Int) < ((min s.size t.size : Nat) : Int) := by simpa using ht
        omega
      have ds : (lst s).drop k = (lst s).getD k 0 :: (lst s).drop (k + 1) := by
        rw [List.drop_eq_getElem_cons (by omega), List.getD_eq_getElem?_getD, List.getElem?_eq_getElem (by omega)]; rfl
      have dt : (lst t).drop k = (lst t).getD k 0 :: (lst t).drop (k + 1) := by
        rw [List.drop_eq_getElem_cons (by omega), List.getD_eq_getElem?_getD, List.getElem?_eq_getElem (by omega)]; rfl
      rw [ds, dt, lexK] at he
      unfold F41_k4
      refine ⟨by omega, by omega, by omega, by omega, ?_⟩
      intro h1 hcl; obtain rfl := hcl.eq
      rw [bt_lst, bt_lst]
      generalize (lst s).getD k 0 = a at *
      generalize (lst t).getD k 0 = b at *
      refine br_of (fun hab => ?_) (fun hab => ?_)
      · have hab' : a = b := by
          have : (a : Int) = b := by simpa using hab
          omega
        rw [if_pos hab'] at he
        unfold F41_k5
        have e1 : IntKind.i64.wrap ((k : Int) + 1) = ((k + 1 : Nat) : Int) := by rw [i64_lt _ (by omega) (by omega)]; omega
        rw [e1]
        exact ⟨⟨k + 1, rfl, by omega, he, rfl⟩, by show (((min s.size t.size : Nat) : Int) - ((k + 1 : Nat) : Int)).toNat < (((min s.size t.size : Nat) : Int) - (k : Int)).toNat; omega⟩
      · have hab' : ¬ a = b := by
          have : ¬ (a : Int) = b := by simpa using hab
          omega
        rw [if_neg hab'] at he
        rw [← he]
        unfold F41_k6
        refine br_of (fun ha => ?_) (fun ha => ?_)
        · have ha' : a = 47 := by
            have : (a : Int) = 47 := by simpa using ha
            omega
          unfold F41_k7
          refine br_of (fun _ => ⟨?_, rfl⟩) (fun hb => by cases hb)
          rw [if_pos ha', ha']; rfl
        · have ha' : ¬ a = 47 := by
            have : ¬ (a : Int) = 47 := by simpa using ha
            omega
          rw [if_neg ha']
          unfold F41_k7
          refine br_of (fun hb => ?_) (fun hb => ?_)
          · have hb' : b = 47 := by
              have : (b : Int) = 47 := by simpa using hb
              omega
            rw [if_pos hb', ha]; exact ⟨rfl, rfl⟩
          · have hb' : ¬ b = 47 := by
              have : ¬ (b : Int) = 47 := by simpa using hb
              omega
            rw [if_neg hb']
            unfold F41_k8
            exact ⟨by congr 1; exact decide_eq_decide.2 (by omega), rfl⟩
    · have hk' : k = min s.size t.size := by
        have : ¬ (k : Int) < ((min s.size t.size : Nat) : Int) := by simpa using hf
        omega
      unfold F41_k9
      refine ⟨?_, rfl⟩
      rw [← he]
      congr 1
      by_cases hlt : s.size < t.size
      · rw [List.drop_of_length_le (l := lst s) (by omega), List.drop_eq_getElem_cons (l := lst t) (by omega)]
        simp [lexK, hlt]
      · rw [List.drop_of_length_le (l := lst t) (by omega)]
        have : decide ((s.size : Int) < (t.size : Int)) = false := decide_eq_false (by omega)
        rw [this]
        cases (lst s).drop k <;> rfl
  rw [seq_nil, seq_nil]
  refine br_of (fun hs0 => ?_) (fun hs0 => ?_)
  · have h0 := of_decide_eq_true hs0
    unfold F41_k1
    refine br_of (fun _ => br_of (fun _ => ⟨?_, rfl⟩) (fun hb => ?_)) (fun hb => by cases hb)
    · rw [h0, seq_nil t]
      by_cases ht : lst t = []
      · rw [ht]; rfl
      · cases hl : lst t with
        | nil => exact absurd hl ht
        | cons b q => rfl
    · rw [seq_nil, h0] at hb; simp at hb
  · have h0 := of_decide_eq_false hs0
    unfold F41_k1
    refine br_of (fun ht0 => br_of (fun hb => ?_) (fun _ => ⟨?_, rfl⟩)) (fun _ => main)
    · rw [seq_nil, decide_eq_true_eq] at hb; exact absurd hb h0
    · have h1 := of_decide_eq_true ht0
      rw [h1]
      cases hl : lst s with
      | nil => exact absurd hl h0
      | cons a p => rfl

/-- p, or what lies below it -/
def inP (p q : List Nat) : Bool := decide (p = []) || decide (q = p) || decide (q.take (p.length + 1) = p ++ [47])
theorem in_ok (s t : ByteArray) (hs : s.size < 2 ^ 62) (h : Heap) : HEnt Tryd.prog 18 #[.string s, .string t] h fun v h' => v = .bool (inP (lst s) (lst t)) ∧ h' = h := by
  refine F18_ent _ _ _ _ ?_
  unfold F18 inP
  have ls := lst_len s
  have lt := lst_len t
  rw [seq_nil, seq_lst t s]
  refine br_of (fun h0 => ⟨by rw [h0]; simp, rfl⟩) (fun h0 => ?_)
  refine br_of (fun h1 => ⟨by rw [h1]; simp, rfl⟩) (fun h1 => ?_)
  rw [h0, h1, Bool.false_or, Bool.false_or]
  refine br_of (fun h2 => ?_) (fun h2 => ⟨?_, rfl⟩)
  · have h2' : s.size < t.size := by
      have : (t.size : Int) > (s.size : Int) := by simpa using h2
      omega
    refine ⟨by omega, by omega, by omega, ?_⟩
    have e : (lst t).take ((lst s).length + 1) = (lst t).take (lst s).length ++ [(lst t).getD (lst s).length 0] := by
      rw [List.take_succ_eq_append_getElem (by omega), List.getD_eq_getElem?_getD, List.getElem?_eq_getElem (by omega)]; rfl
    rw [e, seq_lst, Int.toNat_natCast, lst_cut, List.drop_zero, Nat.sub_zero, ← ls]
    refine br_of (fun h3 => ⟨by omega, by omega, ?_, rfl⟩) (fun h3 => ⟨?_, rfl⟩)
    · have h3' := of_decide_eq_true h3
      rw [h3', bt_lst]
      congr 1
      rw [Bool.eq_iff_iff]
      simp only [beq_iff_eq, decide_eq_true_eq, List.append_cancel_left_eq, List.cons.injEq, and_true]
      omega
    · have h3' := of_decide_eq_false h3
      congr 1
      refine (decide_eq_false fun hh => h3' ?_).symm
      exact (List.append_inj' hh rfl).1
  · have h2' : ¬ s.size < t.size := by
      have : ¬ (t.size : Int) > (s.size : Int) := by simpa using h2
      omega
    congr 1
    refine (decide_eq_false fun hh => ?_).symm
    have := congrArg List.length hh
    rw [List.length_take, List.length_append] at this
    simp at this; omega
theorem refIn_ok (s t : ByteArray) (hs : s.size < 2 ^ 62) (h : Heap) : HEnt Tryd.prog 53 #[.string s, .string t] h fun v h' => v = .bool (inP (lst s) (lst t)) ∧ h' = h := by
  refine F53_ent _ _ _ _ ?_
  unfold F53 inP
  have ls := lst_len s
  have lt := lst_len t
  have last : lst s ≠ [] → ¬ lst t = lst s → F53_k2 s t h fun v h' => v = .bool (decide (lst s = []) || decide (lst t = lst s) || decide ((lst t).take ((lst s).length + 1) = lst s ++ [47])) ∧ h' = h := by
    intro h0 h1
    rw [decide_eq_false h0, decide_eq_false h1, Bool.false_or, Bool.false_or]
    unfold F53_k2
    have ew : IntKind.i64.wrap ((s.size : Int) + 1) = ((s.size + 1 : Nat) : Int) := by rw [i64_lt _ (by omega) (by omega)]; omega
    rw [ew]
    refine br_of (fun h2 => ?_) (fun h2 => ⟨?_, rfl⟩)
    · have h2' : s.size < t.size := by
        have : (t.size : Int) > (s.size : Int) := by simpa using h2
        omega
      refine ⟨by omega, by omega, by omega, by show s.size + 1 ≤ _; omega, ?_, rfl⟩
      rw [seq_lst, Int.toNat_natCast, lst_cut, List.drop_zero, Nat.sub_zero, lst_append, ← ls]; rfl
    · have h2' : ¬ s.size < t.size := by
        have : ¬ (t.size : Int) > (s.size : Int) := by simpa using h2
        omega
      congr 1
      refine (decide_eq_false fun hh => ?_).symm
      have := congrArg List.length hh
      rw [List.length_take, List.length_append] at this
      simp at this; omega
  rw [seq_nil, seq_lst s t]
  refine br_of (fun h0 => ?_) (fun h0 => ?_)
  · unfold F53_k1
    exact br_of (fun _ => ⟨by rw [h0]; simp, rfl⟩) (fun hb => by cases hb)
  · unfold F53_k1
    refine br_of (fun h1 => ⟨?_, rfl⟩) (fun h1 => last (of_decide_eq_false h0) (fun e => (of_decide_eq_false h1) e.symm))
    have := of_decide_eq_true h1
    rw [this]; simp
end Go.Proofs.YtcfegbpoailbdaaDoor

namespace Go.Proofs.YtcfegbpoailbdaaDoor
open Go.Vc Go.Sha Go.Trail Go.RowKit
set_option linter.unusedVariables false

/-- a list of texts, as values -/
def vals (ps : List (List Nat)) : List Value := ps.map fun p => .string (str p)
theorem vals_len (ps : List (List Nat)) : (vals ps).length = ps.length := by simp [vals]
theorem vals_get {ps : List (List Nat)} {i : Nat} (hi : i < ps.length) : (vals ps)[i]? = some (.string (str (ps.getD i []))) := by
  simp [vals, List.getD_eq_getElem?_getD, hi]
theorem vals_one (ps : List (List Nat)) : ∀ u ∈ vals ps, one u = true := by
  intro u hu
  obtain ⟨p, _, rfl⟩ := List.mem_map.1 hu
  rfl
theorem vals_append (ps qs : List (List Nat)) : vals (ps ++ qs) = vals ps ++ vals qs := by simp [vals]
theorem cells9 : Tryd.prog.cellsOf 9 = 1 := by kernel_rfl
theorem zero9 : (((Tryd.prog.info? 9).bind (·.zero)).getD undef).cells.size = 1 := by kernel_rfl
theorem bytes9 : Tryd.prog.bytesOf 9 = 16 := by kernel_rfl
theorem str_cut (s : ByteArray) (i j : Nat) : s.extract i j = str (((lst s).drop i).take (j - i)) := by rw [← lst_cut, str_lst]

theorem pieces_slash : ∀ (x r : List Nat), (∀ c ∈ x, c ≠ 47) → pieces (x ++ 47 :: r) = x :: pieces r
  | [], r, _ => by simp [pieces]
  | c :: x, r, h => by
    have hc : c ≠ 47 := h c (List.mem_cons_self ..)
    have ih := pieces_slash x r fun d hd => h d (List.mem_cons_of_mem _ hd)
    have e : pieces (c :: (x ++ 47 :: r)) = if c = 47 then [] :: pieces (x ++ 47 :: r) else match pieces (x ++ 47 :: r) with
      | [] => [[c]]
      | p :: ps => (c :: p) :: ps := rfl
    show pieces (c :: (x ++ 47 :: r)) = _
    rw [e, if_neg hc, ih]
theorem pieces_whole : ∀ (x : List Nat), (∀ c ∈ x, c ≠ 47) → pieces x = [x]
  | [], _ => rfl
  | c :: x, h => by
    have hc : c ≠ 47 := h c (List.mem_cons_self ..)
    have ih := pieces_whole x fun d hd => h d (List.mem_cons_of_mem _ hd)
    unfold pieces
    rw [if_neg hc, ih]
theorem pieces_len (l : List Nat) : (pieces l).length ≤ l.length + 1 := by
  induction l with
  | nil => decide
  | cons c r ih =>
    unfold pieces
    split
    · simp; omega
    · obtain ⟨p, ps, hp⟩ := pieces_ne r
      rw [hp] at ih ⊢
      simp at ih ⊢; omega

theorem refPieces_ok (s : ByteArray) (hs : s.size < 2 ^ 40) (h : Heap) : HEnt Tryd.prog 62 #[.string s] h fun v h' => ∃ a l c, v = .slice a l c ∧ OwnAt 9 h h' a l c (vals (pieces (lst s))) := by
  refine F62_ent _ _ _ ?_
  have ls := lst_len s
  unfold F62
  rintro _ rfl _ rfl
  refine ⟨fun a l c from_ i h' => ∃ (f k : Nat) (done : List (List Nat)), from_ = f ∧ i = k ∧ f ≤ k ∧ k ≤ s.size ∧ done.length ≤ k ∧ pieces (lst s) = done ++ pieces ((lst s).drop f) ∧ (∀ c ∈ ((lst s).drop f).take (k - f), c ≠ 47) ∧ OwnAt 9 h h' a l c (vals done),
    fun _ _ _ _ i _ => (s.size - i).toNat, ⟨0, 0, [], rfl, rfl, by omega, by omega, by simp, rfl, by simp, OwnAt.nil 9 (Ext.refl h)⟩, ?_⟩
  rintro h1 a l c _ _ ⟨f, k, done, rfl, rfl, hfk, hk, hdl, hp, hno, o⟩
  have hol := o.len
  rw [vals_len] at hol
  unfold F62_b1
  refine br_of (fun ht => ?_) (fun hf => ?_)
  · have hk' : k < s.size := by
      have : (k : Int) < (s.size : Int) := by simpa using ht
      omega
    have e1 : IntKind.i64.wrap ((k : Int) + 1) = ((k + 1 : Nat) : Int) := by rw [i64_lt _ (by omega) (by omega)]; omega
    have cut : ((lst s).drop f).take (k + 1 - f) = ((lst s).drop f).take (k - f) ++ [(lst s).getD k 0] := by
      rw [show k + 1 - f = (k - f) + 1 by omega, List.take_succ_eq_append_getElem (by rw [List.length_drop]; omega), List.getElem_drop, List.getD_eq_getElem?_getD, List.getElem?_eq_getElem (by omega)]
      simp [show f + (k - f) = k by omega]
    have dk : (lst s).drop f = ((lst s).drop f).take (k - f) ++ (lst s).getD k 0 :: (lst s).drop (k + 1) := by
      conv => lhs; rw [← List.take_append_drop (k - f) ((lst s).drop f)]
      rw [List.drop_drop, show f + (k - f) = k by omega]
      congr 1
      rw [List.drop_eq_getElem_cons (by omega), List.getD_eq_getElem?_getD, List.getElem?_eq_getElem (by omega)]; rfl
    unfold F62_k2
    rw [bt_lst]
    refine ⟨by omega, by omega, br_of (fun hc => ?_) (fun hc => ?_)⟩
    · have hc' : (lst s).getD k 0 = 47 := by
        have : (((lst s).getD k 0 : Nat) : Int) = 47 := by simpa using hc
        omega
      refine ⟨by omega, by omega, by omega, by decide, newK_intro fun h2 n2 x2 s2 => ?_⟩
      rw [Int.toNat_natCast, Int.toNat_natCast, str_cut] at n2
      refine appK_at (m := 1) (news := vals [((lst s).drop f).take (k - f)]) cells9 zero9 (o.grow x2) (srcK_slice rfl (fun ad e => by cases e; exact cells_blk0 n2) (by rintro ⟨⟩)) rfl (vals_one _) (by rw [bytes9]; omega) fun a3 c3 h3 o3 k3 => ?_
      rintro _ rfl
      unfold F62_k3
      rintro _ rfl
      rw [e1]
      refine ⟨⟨k + 1, k + 1, done ++ [((lst s).drop f).take (k - f)], rfl, rfl, by omega, by omega, by simp; omega, ?_, by simp, by rw [vals_append]; exact o3⟩, by show ((s.size : Int) - ((k + 1 : Nat) : Int)).toNat < ((s.size : Int) - (k : Int)).toNat; omega⟩
      rw [hp]
      conv => lhs; rw [dk, hc', pieces_slash _ _ hno]
      simp
    · have hc' : (lst s).getD k 0 ≠ 47 := by
        have : ¬ (((lst s).getD k 0 : Nat) : Int) = 47 := by simpa using hc
        omega
      unfold F62_k3
      rintro _ rfl
      rw [e1]
      refine ⟨⟨f, k + 1, done, rfl, rfl, by omega, by omega, by omega, hp, ?_, o⟩, by show ((s.size : Int) - ((k + 1 : Nat) : Int)).toNat < ((s.size : Int) - (k : Int)).toNat; omega⟩
      rw [cut]
      intro d hd
      rcases List.mem_append.1 hd with hd | hd
      · exact hno d hd
      · simp at hd; rw [hd]; exact hc'
  · have hk' : k = s.size := by
      have : ¬ (k : Int) < (s.size : Int) := by simpa using hf
      omega
    unfold F62_k4
    refine ⟨by omega, by omega, by omega, by decide, newK_intro fun h2 n2 x2 s2 => ?_⟩
    rw [Int.toNat_natCast, Int.toNat_natCast, str_cut] at n2
    refine appK_at (m := 1) (news := vals [((lst s).drop f).take (s.size - f)]) cells9 zero9 (o.grow x2) (srcK_slice rfl (fun ad e => by cases e; exact cells_blk0 n2) (by rintro ⟨⟩)) rfl (vals_one _) (by rw [bytes9]; omega) fun a3 c3 h3 o3 k3 => ?_
    refine ⟨a3, _, c3, rfl, ?_⟩
    subst hk'
    have hw : ((lst s).drop f).take (s.size - f) = (lst s).drop f := List.take_of_length_le (by rw [List.length_drop]; omega)
    rw [hw] at o3 hno
    rw [hp, pieces_whole _ hno, vals_append]
    exact o3
/-- the pieces of a path; none has the empty one -/
def piecesE (l : List Nat) : List (List Nat) := if l = [] then [] else pieces l
theorem refpieces_ok (s : ByteArray) (hs : s.size < 2 ^ 40) (h : Heap) : HEnt Tryd.prog 64 #[.string s] h fun v h' => ∃ a l c, v = .slice a l c ∧ OwnAt 9 h h' a l c (vals (piecesE (lst s))) := by
  refine F64_ent _ _ _ ?_
  unfold F64
  rw [seq_nil]
  refine br_of (fun h0 => ?_) (fun h0 => ?_)
  · refine ⟨none, 0, 0, rfl, ?_⟩
    unfold piecesE; rw [if_pos (of_decide_eq_true h0)]
    exact OwnAt.nil 9 (Ext.refl h)
  · unfold F64_k1
    refine HEnt.use (refPieces_ok s hs h) ?_
    rintro _ h1 ⟨a, l, c, rfl, o⟩
    refine ⟨a, l, c, rfl, a, l, c, rfl, ?_⟩
    unfold piecesE; rw [if_neg (of_decide_eq_false h0)]; exact o
theorem lexE (p q : List Nat) : lexP (piecesE p) (piecesE q) = lexK p q := by
  unfold piecesE
  by_cases hp : p = []
  · subst hp
    by_cases hq : q = []
    · subst hq; rfl
    · rw [if_pos rfl, if_neg hq]
      obtain ⟨y, ys, hy⟩ := pieces_ne q
      rw [hy]
      cases q with
      | nil => exact absurd rfl hq
      | cons b q => rfl
  · rw [if_neg hp]
    by_cases hq : q = []
    · subst hq
      rw [if_pos rfl]
      obtain ⟨y, ys, hy⟩ := pieces_ne p
      rw [hy]
      cases p with
      | nil => exact absurd rfl hp
      | cons b q => rfl
    · rw [if_neg hq, lex_eq]
theorem pieces_lt (l : List Nat) (hl : ∀ x ∈ l, x < 256) : ∀ p ∈ pieces l, ∀ x ∈ p, x < 256 := by
  induction l with
  | nil => intro p hp x hx; simp [pieces] at hp; subst hp; simp at hx
  | cons c r ih =>
    have ih' := ih fun x hx => hl x (List.mem_cons_of_mem _ hx)
    intro p hp x hx
    unfold pieces at hp
    split at hp
    · rcases List.mem_cons.1 hp with rfl | hp
      · simp at hx
      · exact ih' p hp x hx
    · obtain ⟨q, qs, hq⟩ := pieces_ne r
      rw [hq] at hp ih'
      rcases List.mem_cons.1 hp with rfl | hp
      · rcases List.mem_cons.1 hx with rfl | hx
        · exact hl x (List.mem_cons_self ..)
        · exact ih' q (List.mem_cons_self ..) x hx
      · exact ih' p (List.mem_cons_of_mem _ hp) x hx
end Go.Proofs.YtcfegbpoailbdaaDoor

namespace Go.Proofs.YtcfegbpoailbdaaDoor
open Go.Vc Go.Sha Go.Trail Go.RowKit
set_option linter.unusedVariables false

theorem lexP_cut : ∀ (k : Nat) (p q : List (List Nat)), k ≤ p.length → k ≤ q.length → p.take k = q.take k → lexP p q = lexP (p.drop k) (q.drop k)
  | 0, _, _, _, _, _ => rfl
  | k + 1, [], _, h, _, _ => by simp at h
  | k + 1, _ :: _, [], _, h, _ => by simp at h
  | k + 1, x :: p, y :: q, h1, h2, h3 => by
    simp only [List.take_succ_cons, List.cons.injEq] at h3
    rw [h3.1]
    show (if y = y then lexP p q else ltB y y) = _
    rw [if_pos rfl]
    exact lexP_cut k p q (by simpa using h1) (by simpa using h2) h3.2
theorem pieces_lt' (s : ByteArray) : ∀ p ∈ piecesE (lst s), ∀ x ∈ p, x < 256 := by
  intro p hp
  unfold piecesE at hp
  split at hp
  · simp at hp
  · exact pieces_lt _ (lst_lt s) p hp
theorem getD_mem {ps : List (List Nat)} {i : Nat} (hi : i < ps.length) : ps.getD i [] ∈ ps := by
  rw [List.getD_eq_getElem?_getD, List.getElem?_eq_getElem hi]; exact List.getElem_mem hi
theorem piecesE_len (l : List Nat) : (piecesE l).length ≤ l.length + 1 := by
  unfold piecesE; split
  · simp
  · exact pieces_len l

theorem refLess_ok (s t : ByteArray) (hs : s.size < 2 ^ 40) (ht : t.size < 2 ^ 40) (h : Heap) : HEnt Tryd.prog 52 #[.string s, .string t] h fun v h' => v = .bool (lexK (lst s) (lst t)) ∧ Ext h h' := by
  refine F52_ent _ _ _ _ ?_
  unfold F52
  refine HEnt.use (refpieces_ok s hs h) ?_
  rintro _ h1 ⟨a, l, c, rfl, o1⟩
  refine ⟨a, l, c, rfl, HEnt.use (refpieces_ok t ht h1) ?_⟩
  rintro _ h2 ⟨a', l', c', rfl, o2⟩
  refine ⟨a', l', c', rfl, ?_⟩
  rintro _ rfl
  have p1 := pieces_lt' s
  have p2 := pieces_lt' t
  have hpl := piecesE_len (lst s)
  have ls := lst_len s
  have o1' := o1.grow o2.ext
  have hl1 := o1.len
  have hl2 := o2.len
  rw [vals_len] at hl1 hl2
  rw [← lexE]
  generalize piecesE (lst s) = p at *
  generalize piecesE (lst t) = q at *
  refine ⟨fun x h' => ∃ k : Nat, x = k ∧ k ≤ p.length ∧ k ≤ q.length ∧ p.take k = q.take k ∧ h' = h2, fun x _ => (p.length - x).toNat, ⟨0, rfl, by omega, by omega, rfl, rfl⟩, ?_⟩
  rintro h3 _ ⟨k, rfl, hk1, hk2, he, rfl⟩
  have hcut := lexP_cut k p q hk1 hk2 he
  have fin : ¬ (k < p.length ∧ k < q.length) → F52_k5 a l c a' l' c' h3 fun v h' => v = .bool (lexP p q) ∧ Ext h h' := by
    intro hno
    unfold F52_k5
    refine ⟨?_, o1'.ext⟩
    rw [hcut]
    congr 1
    by_cases h1 : k < p.length
    · have h2 : k = q.length := by omega
      rw [List.drop_of_length_le (l := q) (by omega)]
      have : decide ((l : Int) < (l' : Int)) = false := decide_eq_false (by omega)
      rw [this]
      cases p.drop k <;> rfl
    · rw [List.drop_of_length_le (l := p) (by omega)]
      by_cases h2 : k < q.length
      · rw [List.drop_eq_getElem_cons h2]
        exact decide_eq_true (by omega)
      · rw [List.drop_of_length_le (l := q) (by omega)]
        exact decide_eq_false (by omega)
  unfold F52_b1
  refine br_of (fun ht1 => ?_) (fun hf1 => ?_)
  · have h1 : k < p.length := by
      have : (k : Int) < (l : Int) := by simpa using ht1
      omega
    unfold F52_k2
    refine br_of (fun ht2 => ?_) (fun hf2 => ?_)
    · have h2 : k < q.length := by
        have : (k : Int) < (l' : Int) := by simpa using ht2
        omega
      obtain ⟨b, rfl, hbl, hc1⟩ := o1'.cell (vals_get h1)
      obtain ⟨b', rfl, hbl', hc2⟩ := o2.cell (vals_get h2)
      have q1 := p1 _ (getD_mem h1)
      have q2 := p2 _ (getD_mem h2)
      have dp : p.drop k = p.getD k [] :: p.drop (k + 1) := by
        rw [List.drop_eq_getElem_cons h1, List.getD_eq_getElem?_getD, List.getElem?_eq_getElem h1]; rfl
      have dq : q.drop k = q.getD k [] :: q.drop (k + 1) := by
        rw [List.drop_eq_getElem_cons h2, List.getD_eq_getElem?_getD, List.getElem?_eq_getElem h2]; rfl
      have tp : p.take (k + 1) = p.take k ++ [p.getD k []] := by
        rw [List.take_succ_eq_append_getElem h1, List.getD_eq_getElem?_getD, List.getElem?_eq_getElem h1]; rfl
      have tq : q.take (k + 1) = q.take k ++ [q.getD k []] := by
        rw [List.take_succ_eq_append_getElem h2, List.getD_eq_getElem?_getD, List.getElem?_eq_getElem h2]; rfl
      rw [dp, dq] at hcut
      generalize p.getD k [] = x at *
      generalize q.getD k [] = y at *
      unfold F52_k3
      have ca : Vc.cell h3 ((⟨b, 0, none⟩ : Addr).add ((k : Int).toNat * 1)) = some (.string (str x)) := by rw [Int.toNat_natCast, Nat.mul_one, add_mk, Nat.zero_add]; exact hc1
      have cb : Vc.cell h3 ((⟨b', 0, none⟩ : Addr).add ((k : Int).toNat * 1)) = some (.string (str y)) := by rw [Int.toNat_natCast, Nat.mul_one, add_mk, Nat.zero_add]; exact hc2
      refine ⟨_, rfl, by omega, by omega, _, ca, _, rfl, by omega, by omega, _, cb, ?_⟩
      intro h4 hcl; obtain rfl := hcl.eq
      rw [seq_lst, lst_str _ q1, lst_str _ q2]
      refine br_of (fun hne => ?_) (fun heq => ?_)
      · have hne' : ¬ x = y := by simpa using hne
        refine ⟨_, rfl, by omega, by omega, _, ca, _, rfl, by omega, by omega, _, cb, ?_⟩
        intro h5 hcl; obtain rfl := hcl.eq
        refine ⟨?_, o1'.ext⟩
        rw [slt_lst, lst_str _ q1, lst_str _ q2, hcut]
        show _ = Value.bool (if x = y then _ else ltB x y)
        rw [if_neg hne']
      · have heq' : x = y := by simpa using heq
        unfold F52_k4
        rintro _ rfl
        have e1 : IntKind.i64.wrap ((k : Int) + 1) = ((k + 1 : Nat) : Int) := by rw [i64_lt _ (by omega) (by omega)]; omega
        rw [e1]
        exact ⟨⟨k + 1, rfl, by omega, by omega, by rw [tp, tq, he, heq'], rfl⟩, by show ((p.length : Int) - ((k + 1 : Nat) : Int)).toNat < ((p.length : Int) - (k : Int)).toNat; omega⟩
    · have h2 : ¬ k < q.length := by
        have : ¬ (k : Int) < (l' : Int) := by simpa using hf2
        omega
      exact fin (fun hh => h2 hh.2)
  · have h1 : ¬ k < p.length := by
      have : ¬ (k : Int) < (l : Int) := by simpa using hf1
      omega
    unfold F52_k2
    exact br_of (fun hb => by simp at hb) (fun _ => fin (fun hh => h1 hh.1))
end Go.Proofs.YtcfegbpoailbdaaDoor

namespace Go.Proofs.YtcfegbpoailbdaaDoor
open Go.Vc Go.Sha Go.Trail Go.RowKit
set_option linter.unusedVariables false

/-- the cell that Split's searcher reads -/
def MaxAt (h : Heap) : Prop := ∃ m, Vc.cell h ⟨0, 0, none⟩ = some (.int .i64 m)
theorem MaxAt.ext {h h' : Heap} (k : MaxAt h) (x : Ext h h') : MaxAt h' := by obtain ⟨m, e⟩ := k; exact ⟨m, x.some e⟩

theorem split_vals (s : ByteArray) : (Lib.splitB ⟨#[47]⟩ 0 (Lib.countB s ⟨#[47]⟩) s).map Value.string = vals (pieces (lst s)) := by
  have h := split_pieces s.data.toList
  have h2 := Lib.splitB_data ⟨#[47]⟩ 0 (Lib.countB s ⟨#[47]⟩) s
  have h3 : (Lib.splitB ⟨#[47]⟩ 0 (Lib.countB s ⟨#[47]⟩) s).map lst = pieces (lst s) := by
    have : (Lib.splitB ⟨#[47]⟩ 0 (Lib.countB s ⟨#[47]⟩) s).map lst = ((Lib.splitB ⟨#[47]⟩ 0 (Lib.countB s ⟨#[47]⟩) s).map (·.data.toList)).map (List.map UInt8.toNat) := by
      rw [List.map_map]; rfl
    rw [this, h2]; exact h
  rw [← h3, vals, List.map_map]
  apply List.map_congr_left
  intro x _
  show Value.string x = Value.string (str (lst x))
  rw [str_lst]

theorem split_ok (s : ByteArray) (hs : s.size < 2 ^ 31) (h : Heap) (hm : MaxAt h) : HEnt Tryd.prog 33 #[.string s, .string ⟨#[47]⟩] h fun v h' => ∃ l, v = .slice (some ⟨h.size, 0, none⟩) l l ∧ OwnAt 9 h h' (some ⟨h.size, 0, none⟩) l l (vals (pieces (lst s))) := by
  refine HEnt.of_body Tryd.func33 (by kernel_rfl) (by kernel_rfl) fun w hw => ?_
  obtain ⟨m, hm⟩ := hm
  refine (Tryd.strings_Split s ⟨#[47]⟩ m w (by omega) (by show Vc.cell w.heap _ = _; rw [hw]; exact hm) (by decide)).mono fun e w' ⟨he, hw'⟩ => ?_
  subst hw'
  refine ⟨_, he, ⟨rfl, rfl, rfl⟩, _, by rw [hw], ?_⟩
  rw [split_vals]
  have hl : (vals (pieces (lst s))).length = Lib.countB s ⟨#[47]⟩ + 1 := by
    rw [← split_vals, List.length_map, Lib.splitB_all ⟨#[47]⟩ (by decide) 0 _ s rfl]
  have hb : (w.alloc (.cells (vals (pieces (lst s))).toArray 9)).heap[h.size]? = some (.cells (vals (pieces (lst s))).toArray 9 (0, 0)) := by
    show (w.heap.push _)[h.size]? = _
    rw [hw]; simp
  have := OwnAt.new_ hb (show Ext h (w.alloc (.cells (vals (pieces (lst s))).toArray 9)).heap from by show Ext h (w.heap.push _); rw [hw]; exact Ext.push _ _) (Nat.le_refl _)
  simpa [hl] using this

theorem join_ok {h0 : Heap} (a : Option Addr) (l c : Nat) (ps : List (List Nat)) (h : Heap) (o : OwnAt 9 h0 h a l c (vals ps)) (hp : ∀ p ∈ ps, ∀ x ∈ p, x < 256) (hlen : (joinT ps).length < 2 ^ 40) (hl : l < 2 ^ 40) :
    HEnt Tryd.prog 35 #[.slice a l c, .string ⟨#[47]⟩] h fun v h' => v = .string (str (joinT ps)) ∧ Ext h h' := by
  refine HEnt.of_body Tryd.func35 (by kernel_rfl) (by kernel_rfl) fun w hw => ?_
  have hol := o.len
  rw [vals_len] at hol
  by_cases h0 : ps = []
  · subst h0
    have hl0 : l = 0 := hol.symm
    subst hl0
    refine (Tryd.strings_Join_none a c ⟨#[47]⟩ w).mono fun e w' ⟨he, hw'⟩ => ?_
    subst hw'
    exact ⟨_, he, Kin.refl _, rfl, by rw [hw]; exact Ext.refl _⟩
  · have hpos : 0 < ps.length := List.length_pos_iff.2 h0
    obtain ⟨b, rfl, hb0, hc0⟩ := o.cell (vals_get hpos)
    have hcap : l ≤ c := by
      rcases o.own with ⟨e, _⟩ | o
      · cases e
      · exact o.cap
    have hblt : b < h.size := lt_of_cell hc0
    have hN : (ps.map str).length = l := by simp [hol]
    have e1 : ((ps.map str).map (·.data.toList)).map (List.map UInt8.toNat) = ps := by
      rw [List.map_map, List.map_map]
      conv => rhs; rw [← List.map_id ps]
      apply List.map_congr_left
      intro p hpp
      exact lst_str p (hp p hpp)
    have e2 := lib_join ((ps.map str).map (·.data.toList))
    rw [e1] at e2
    have hjl : (Lib.join ((ps.map str).map (·.data.toList)) [47]).length = (joinT ps).length := by rw [← e2]; simp
    refine ((hN ▸ Tryd.strings_Join b 0 c (ps.map str) ⟨#[47]⟩ w (fun j x hx => ?_) (by rw [hw]; exact hblt) (by rw [hN]; omega) (by rw [hN]; exact hcap) (by show (Lib.join _ [47]).length ≤ _; rw [hjl]; omega)) : Calls _ _ _ _ _).mono fun e w' ⟨he, bel⟩ => ?_
    · have hj : j < ps.length := by
        have := (List.getElem?_eq_some_iff.1 hx).1
        simpa using this
      obtain ⟨b', e', _, hc⟩ := o.cell (vals_get hj)
      cases e'
      show Vc.cell w.heap _ = _
      rw [hw, Nat.zero_add, hc]
      rw [List.getElem?_map, List.getElem?_eq_getElem hj] at hx
      rw [List.getD_eq_getElem?_getD, List.getElem?_eq_getElem hj]
      simpa using hx
    · refine ⟨_, he, ⟨bel.os, bel.tape, bel.output⟩, ?_, by rw [← hw]; exact bel.size, fun k hk => by rw [← hw]; exact bel.block k (by rw [hw]; exact hk)⟩
      congr 1
      apply lst_inj
      have : lst (⟨(Lib.join ((ps.map str).map (·.data.toList)) [47]).toArray⟩ : ByteArray) = joinT ps := by rw [← e2]; rfl
      rw [lst_str _ ?_]
      · exact this
      · intro x hx
        rw [← this] at hx
        exact lst_lt _ x hx
end Go.Proofs.YtcfegbpoailbdaaDoor

namespace Go.Proofs.YtcfegbpoailbdaaDoor
open Go.Vc Go.Sha Go.Trail Go.RowKit
set_option linter.unusedVariables false

def okP (c : Nat) : Prop := (97 ≤ c ∧ c ≤ 122) ∨ (48 ≤ c ∧ c ≤ 57) ∨ c = 95 ∨ c = 45 ∨ c = 46
instance (c : Nat) : Decidable (okP c) := by unfold okP; infer_instance
def partP (x : List Nat) : Prop := x ≠ [] ∧ x.length ≤ 24 ∧ x ≠ [46] ∧ x ≠ [46, 46] ∧ ∀ c ∈ x, okP c
instance (x : List Nat) : Decidable (partP x) := by unfold partP; infer_instance

theorem lst_dot : lst ⟨#[46]⟩ = [46] := rfl
theorem lst_dots : lst ⟨#[46, 46]⟩ = [46, 46] := rfl
theorem take_succ_getD (l : List Nat) (k : Nat) (hk : k < l.length) : l.take (k + 1) = l.take k ++ [l.getD k 0] := by
  rw [List.take_succ_eq_append_getElem hk, List.getD_eq_getElem?_getD, List.getElem?_eq_getElem hk]; rfl

theorem part_ok (s : ByteArray) (hs : s.size < 2 ^ 40) (h : Heap) : HEnt Tryd.prog 34 #[.string s] h fun v h' => v = .bool (decide (partP (lst s))) ∧ h' = h := by
  refine F34_ent _ _ _ ?_
  have ls := lst_len s
  have no : ¬ partP (lst s) → F34_k1 s true h fun v h' => v = .bool (decide (partP (lst s))) ∧ h' = h := fun hn => by
    unfold F34_k1
    exact br_of (fun _ => ⟨by rw [decide_eq_false hn], rfl⟩) (fun hb => by cases hb)
  unfold F34
  rw [seq_nil, seq_lst, seq_lst, lst_dot, lst_dots]
  refine br_of (fun h0 => no fun hp => hp.1 (of_decide_eq_true h0)) (fun h0 => ?_)
  refine br_of (fun h1 => no fun hp => ?_) (fun h1 => ?_)
  · have : (s.size : Int) > 24 := by simpa using h1
    have := hp.2.1; omega
  refine br_of (fun h2 => no fun hp => hp.2.2.1 (of_decide_eq_true h2)) (fun h2 => ?_)
  have h0' := of_decide_eq_false h0
  have h1' : ¬ (s.size : Int) > 24 := by simpa using h1
  have h2' := of_decide_eq_false h2
  unfold F34_k1
  refine br_of (fun h3 => ?_) (fun h3 => ?_)
  · have := of_decide_eq_true h3
    exact ⟨by rw [decide_eq_false fun hp => hp.2.2.2.1 this], rfl⟩
  have h3' := of_decide_eq_false h3
  unfold F34_k2
  refine ⟨fun x h' => ∃ k : Nat, x = k ∧ k ≤ s.size ∧ (∀ c ∈ (lst s).take k, okP c) ∧ h' = h, fun x _ => (s.size - x).toNat, ⟨0, rfl, by omega, by simp, rfl⟩, ?_⟩
  rintro h4 _ ⟨k, rfl, hk, hok, rfl⟩
  unfold F34_b3
  refine br_of (fun ht => ?_) (fun hf => ?_)
  · have hk' : k < s.size := by
      have : (k : Int) < (s.size : Int) := by simpa using ht
      omega
    have key : ∀ b : Bool, (b = false ↔ okP ((lst s).getD k 0)) → F34_k5 (fun x h' => ∃ k : Nat, x = k ∧ k ≤ s.size ∧ (∀ c ∈ (lst s).take k, okP c) ∧ h' = h4) (fun x _ => (s.size - x).toNat) (((s.size : Int) - (k : Int)).toNat) s (s.size : Int) (k : Int) b h4 fun v h' => v = .bool (decide (partP (lst s))) ∧ h' = h4 := by
      intro b hb
      unfold F34_k5
      refine br_of (fun hbt => ⟨?_, rfl⟩) (fun hbf => ?_)
      · have hno : ¬ okP ((lst s).getD k 0) := fun ho => by rw [hb.2 ho] at hbt; cases hbt
        have hmem : (lst s).getD k 0 ∈ lst s := by
          rw [List.getD_eq_getElem?_getD, List.getElem?_eq_getElem (by omega)]; exact List.getElem_mem _
        rw [decide_eq_false fun hp => hno (hp.2.2.2.2 _ hmem)]
      · have ho := hb.1 hbf
        unfold F34_k6
        have e1 : IntKind.i64.wrap ((k : Int) + 1) = ((k + 1 : Nat) : Int) := by rw [i64_lt _ (by omega) (by omega)]; omega
        rw [e1]
        refine ⟨⟨k + 1, rfl, by omega, ?_, rfl⟩, by show ((s.size : Int) - ((k + 1 : Nat) : Int)).toNat < ((s.size : Int) - (k : Int)).toNat; omega⟩
        rw [take_succ_getD _ _ (by omega)]
        intro c hc
        rcases List.mem_append.1 hc with hc | hc
        · exact hok c hc
        · rw [List.mem_singleton] at hc; rw [hc]; exact ho
    unfold F34_k4
    rw [bt_lst]
    generalize (lst s).getD k 0 = c at *
    refine ⟨by omega, by omega, ?_⟩
    repeat' (with_reducible refine br_of (fun _ => ?_) (fun _ => ?_))
    all_goals (refine key _ ?_; unfold okP; simp only [decide_eq_true_eq, decide_eq_false_iff_not, beq_iff_eq, beq_eq_false_iff_ne, ne_eq, Bool.not_eq_false', true_iff] at *; omega)
  · have hk' : k = s.size := by
      have : ¬ (k : Int) < (s.size : Int) := by simpa using hf
      omega
    unfold F34_k7
    rw [List.take_of_length_le (by omega)] at hok
    exact ⟨by rw [decide_eq_true (show partP (lst s) from ⟨h0', by omega, h2', h3', hok⟩)], rfl⟩
end Go.Proofs.YtcfegbpoailbdaaDoor

namespace Go.Proofs.YtcfegbpoailbdaaDoor
open Go.Vc Go.Sha Go.Trail Go.RowKit
set_option linter.unusedVariables false

theorem OwnAt.shrink {el : TypeId} {h0 h : Heap} {a : Option Addr} {l c : Nat} {vs : List Value} (o : OwnAt el h0 h a (l + 1) c vs) : OwnAt el h0 h a l c vs.dropLast := by
  refine ⟨?_, o.new, o.ext⟩
  have hl := o.len
  rcases o.own with ⟨_, e, _, _⟩ | ⟨h1, h2, b, cs, rfl, h3, h4, h5, h6⟩
  · cases e
  · refine .inr ⟨by simp [hl], by omega, b, cs, rfl, h3, h4, h5, ?_⟩
    rw [← h6, List.dropLast_eq_take, List.length_take, List.take_take]
    congr 1
    simp; omega
theorem cut0 (c : Nat) (b : Nat) : cutAt c 0 1 (some (⟨b, 0, none⟩ : Addr)) = some ⟨b, 0, none⟩ := by
  unfold cutAt; split
  · rfl
  · simp [add_mk]

def cl : List (List Nat) → List (List Nat) → Option (List (List Nat))
  | acc, [] => some acc
  | acc, x :: r => if x = [] ∨ x = [46] then cl acc r else if x = [46, 46] then (if acc = [] then none else cl acc.dropLast r) else if partP x then cl (acc ++ [x]) r else none
def clean (l : List Nat) : List Nat × Nat := match cl [] (pieces l) with
  | none => ([], 12)
  | some acc => if acc.length > 8 then ([], 3) else (joinT acc, 0)
theorem part_lt {x : List Nat} (h : partP x) : ∀ c ∈ x, c < 256 := fun c hc => by
  have := h.2.2.2.2 c hc
  unfold okP at this; omega
theorem joinT_len : ∀ ps : List (List Nat), (∀ p ∈ ps, p.length ≤ 24) → (joinT ps).length ≤ ps.length * 25
  | [], _ => by simp [joinT]
  | [x], h => by have := h x (by simp); simp [joinT]; omega
  | x :: y :: r, h => by
    have := h x (by simp)
    have ih := joinT_len (y :: r) fun p hp => h p (List.mem_cons_of_mem _ hp)
    simp only [joinT, List.length_append, List.length_cons] at ih ⊢
    omega
theorem pieces_each (l : List Nat) : ∀ p ∈ pieces l, p.length ≤ l.length := by
  induction l with
  | nil => intro p hp; simp [pieces] at hp; subst hp; simp
  | cons c r ih =>
    intro p hp
    unfold pieces at hp
    split at hp
    · rcases List.mem_cons.1 hp with rfl | hp
      · simp
      · have := ih p hp; simp; omega
    · obtain ⟨q, qs, hq⟩ := pieces_ne r
      rw [hq] at hp ih
      rcases List.mem_cons.1 hp with rfl | hp
      · have := ih q (List.mem_cons_self ..); simp; omega
      · have := ih p (List.mem_cons_of_mem _ hp); simp; omega
def res (r : List Nat × Nat) : Value := .tuple #[.string (str r.1), .int .i64 r.2]

theorem clean_ok (s : ByteArray) (hs : s.size < 2 ^ 30) (h : Heap) (hm : MaxAt h) : HEnt Tryd.prog 17 #[.string s] h fun v h' => v = res (clean (lst s)) ∧ Ext h h' := by
  refine F17_ent _ _ _ ?_
  have ls := lst_len s
  unfold F17
  refine HEnt.use (split_ok s (by omega) h hm) ?_
  rintro _ h1 ⟨l, rfl, o1⟩
  refine ⟨_, l, l, rfl, ?_⟩
  have hl := o1.len
  rw [vals_len] at hl
  have hplen := pieces_len (lst s)
  have hplt := pieces_lt (lst s) (lst_lt s)
  have heach := pieces_each (lst s)
  have hcl : clean (lst s) = match cl [] (pieces (lst s)) with
    | none => ([], 12)
    | some acc => if acc.length > 8 then ([], 3) else (joinT acc, 0) := rfl
  rw [hcl]
  generalize pieces (lst s) = P at *
  generalize hC : cl [] P = C
  refine ⟨fun a l' c x h' => ∃ (k : Nat) (acc : List (List Nat)), x = k ∧ k ≤ P.length ∧ acc.length ≤ k ∧ C = cl acc (P.drop k) ∧ (∀ p ∈ acc, partP p) ∧ OwnAt 9 h1 h' a l' c (vals acc), fun _ _ _ x _ => (P.length - x).toNat,
    ⟨0, [], rfl, by omega, by simp, hC.symm, by simp, OwnAt.nil 9 (Ext.refl h1)⟩, ?_⟩
  rintro h2 a l' c _ ⟨k, acc, rfl, hk, hacc, he, hpp, o⟩
  have hol := o.len
  rw [vals_len] at hol
  have x12 := o.ext
  have x02 := o1.ext.trans x12
  unfold F17_b1
  refine br_of (fun ht => ?_) (fun hf => ?_)
  · have hk' : k < P.length := by
      have : (k : Int) < (l : Int) := by simpa using ht
      omega
    obtain ⟨b, e, _, hc1⟩ := (o1.grow x12).cell (vals_get hk')
    cases e
    have hxlt := hplt _ (getD_mem hk')
    have hxlen := heach _ (getD_mem hk')
    have dP : P.drop k = P.getD k [] :: P.drop (k + 1) := by
      rw [List.drop_eq_getElem_cons hk', List.getD_eq_getElem?_getD, List.getElem?_eq_getElem hk']; rfl
    rw [dP] at he
    generalize P.getD k [] = x at *
    have e1 : IntKind.i64.wrap ((k : Int) + 1) = ((k + 1 : Nat) : Int) := by rw [i64_lt _ (by omega) (by omega)]; omega
    have go : ∀ (acc' : List (List Nat)) (a' : Option Addr) (l'' c' : Nat) (h' : Heap), cl acc (x :: P.drop (k + 1)) = cl acc' (P.drop (k + 1)) → acc'.length ≤ k + 1 → (∀ p ∈ acc', partP p) → OwnAt 9 h1 h' a' l'' c' (vals acc') →
        F17_k4 (fun a l' c x h' => ∃ (k : Nat) (acc : List (List Nat)), x = k ∧ k ≤ P.length ∧ acc.length ≤ k ∧ C = cl acc (P.drop k) ∧ (∀ p ∈ acc, partP p) ∧ OwnAt 9 h1 h' a l' c (vals acc)) (fun _ _ _ x _ => (P.length - x).toNat) ((P.length - (k : Int)).toNat)
          a' l'' c' (some ⟨h.size, 0, none⟩) l l (l : Int) (k : Int) h' fun v h' => v = res (match C with
            | none => ([], 12)
            | some acc => if acc.length > 8 then ([], 3) else (joinT acc, 0)) ∧ Ext h h' := by
      intro acc' a' l'' c' h' hcl' hlen hpp' o'
      unfold F17_k4
      rw [e1]
      exact ⟨⟨k + 1, acc', rfl, by omega, hlen, he.trans hcl', hpp', o'⟩, by show ((P.length : Int) - ((k + 1 : Nat) : Int)).toNat < ((P.length : Int) - (k : Int)).toNat; omega⟩
    unfold F17_k2
    refine ⟨_, rfl, by omega, by omega, str x, by rw [Int.toNat_natCast, Nat.mul_one, add_mk, Nat.zero_add]; exact hc1, ?_⟩
    have lx : lst (str x) = x := lst_str x hxlt
    rw [seq_nil, seq_lst, lst_dot, lx]
    have skip : (x = [] ∨ x = [46]) → F17_k3 (fun a l' c x h' => ∃ (k : Nat) (acc : List (List Nat)), x = k ∧ k ≤ P.length ∧ acc.length ≤ k ∧ C = cl acc (P.drop k) ∧ (∀ p ∈ acc, partP p) ∧ OwnAt 9 h1 h' a l' c (vals acc)) (fun _ _ _ x _ => (P.length - x).toNat) ((P.length - (k : Int)).toNat)
          a l' c (str x) (some ⟨h.size, 0, none⟩) l l (l : Int) (k : Int) true h2 fun v h' => v = res (match C with
            | none => ([], 12)
            | some acc => if acc.length > 8 then ([], 3) else (joinT acc, 0)) ∧ Ext h h' := fun hx => by
      unfold F17_k3
      refine br_of (fun _ => go acc a l' c h2 ?_ (by omega) hpp o) (fun hb => by cases hb)
      conv => lhs; unfold cl
      rw [if_pos hx]
    refine br_of (fun h0 => skip (.inl (of_decide_eq_true h0))) (fun h0 => ?_)
    have hx0 := of_decide_eq_false h0
    by_cases hx1 : x = [46]
    · rw [decide_eq_true hx1]; exact skip (.inr hx1)
    rw [decide_eq_false hx1]
    have hno : ¬ (x = [] ∨ x = [46]) := fun h => h.elim hx0 hx1
    unfold F17_k3
    refine br_of (fun hb => by cases hb) (fun _ => ?_)
    rw [seq_lst, lst_dots, lx]
    refine br_of (fun h2' => ?_) (fun h2' => ?_)
    · have hx2 := of_decide_eq_true h2'
      have ec : cl acc (x :: P.drop (k + 1)) = if acc = [] then none else cl acc.dropLast (P.drop (k + 1)) := by
        conv => lhs; unfold cl
        rw [if_neg hno, if_pos hx2]
      refine br_of (fun hz => ?_) (fun hz => ?_)
      · have ha : acc = [] := by
          have : (l' : Int) = 0 := by simpa using hz
          exact List.eq_nil_of_length_eq_zero (by omega)
        refine ⟨?_, x02⟩
        rw [he, ec, if_pos ha]; rfl
      · have hl0 : l' ≠ 0 := by
          have : ¬ (l' : Int) = 0 := by simpa using hz
          omega
        have ha : acc ≠ [] := fun h => by rw [h] at hol; simp at hol; omega
        obtain ⟨n, rfl⟩ : ∃ n, l' = n + 1 := ⟨l' - 1, by omega⟩
        have ew : IntKind.i64.wrap (((n + 1 : Nat) : Int) - 1) = ((n : Nat) : Int) := by rw [i64_lt _ (by omega) (by omega)]; omega
        unfold F17_k5
        rw [ew]
        have hcap : n + 1 ≤ c := by
          rcases o.own with ⟨_, e, _⟩ | o
          · cases e
          · exact o.cap
        obtain ⟨bb, hbb, -⟩ := o.cell (vals_get (show 0 < acc.length by omega))
        subst hbb
        refine ⟨by omega, by omega, by omega, ?_⟩
        rw [cut0, Int.toNat_natCast, Nat.sub_zero, Nat.sub_zero]
        refine go acc.dropLast _ n c h2 (by rw [ec, if_neg ha]) (by simp; omega) (fun p hp => hpp p (List.dropLast_subset _ hp)) ?_
        have := OwnAt.shrink o
        rw [vals, ← List.map_dropLast] at this
        exact this
    · have hx2 := of_decide_eq_false h2'
      refine HEnt.use (part_ok (str x) ?_ h2) ?_
      · have : (str x).size ≤ s.size := by
          rw [str_size]; omega
        omega
      rintro _ _ ⟨rfl, rfl⟩
      rw [lx]
      refine ⟨_, rfl, br_of (fun hp => ?_) (fun hp => ?_)⟩
      · have hp' := of_decide_eq_true hp
        refine ⟨by decide, newK_intro fun h3 n3 x3 s3 => ?_⟩
        refine appK_at (m := 1) (news := vals [x]) cells9 zero9 (o.grow x3) (srcK_slice rfl (fun ad e => by cases e; exact cells_blk0 n3) (by rintro ⟨⟩)) rfl (vals_one _) (by rw [bytes9]; omega) fun a4 c4 h4 o4 k4 => ?_
        refine go (acc ++ [x]) _ _ _ h4 ?_ (by simp; omega) ?_ (by rw [vals_append]; exact o4)
        · conv => lhs; unfold cl
          rw [if_neg hno, if_neg hx2, if_pos hp']
        · intro p hpm
          rcases List.mem_append.1 hpm with h | h
          · exact hpp p h
          · simp at h; rw [h]; exact hp'
      · have hp' := of_decide_eq_false hp
        refine ⟨?_, x02⟩
        have : cl acc (x :: P.drop (k + 1)) = none := by
          conv => lhs; unfold cl
          rw [if_neg hno, if_neg hx2, if_neg hp']
        rw [he, this]; rfl
  · have hk' : k = P.length := by
      have : ¬ (k : Int) < (l : Int) := by simpa using hf
      omega
    rw [List.drop_of_length_le (by omega), show cl acc [] = some acc from rfl] at he
    rw [he]
    unfold F17_k6
    refine br_of (fun h8 => ?_) (fun h8 => ?_)
    · have h8' : acc.length > 8 := by
        have : (l' : Int) > 8 := by simpa using h8
        omega
      refine ⟨?_, x02⟩
      show _ = res (if _ then _ else _)
      rw [if_pos h8']; rfl
    · have h8' : ¬ acc.length > 8 := by
        have : ¬ (l' : Int) > 8 := by simpa using h8
        omega
      have hj := joinT_len acc fun p hp => (hpp p hp).2.1
      unfold F17_k7
      refine HEnt.use (join_ok a l' c acc h2 o (fun p hp => part_lt (hpp p hp)) (by omega) (by omega)) ?_
      rintro _ h3 ⟨rfl, x3⟩
      refine ⟨_, rfl, ?_, x02.trans x3⟩
      show _ = res (if _ then _ else _)
      rw [if_neg h8']; rfl
end Go.Proofs.YtcfegbpoailbdaaDoor

namespace Go.Proofs.YtcfegbpoailbdaaDoor
open Go.Vc Go.Sha Go.Trail Go.RowKit
set_option linter.unusedVariables false

/-- the signs of a part -/
def signsB : ByteArray := ⟨#[97, 98, 99, 100, 101, 102, 103, 104, 105, 106, 107, 108, 109, 110, 111, 112, 113, 114, 115, 116, 117, 118, 119, 120, 121, 122, 48, 49, 50, 51, 52, 53, 54, 55, 56, 57, 95, 45, 46]⟩
theorem signs_len : (lst signsB).length = 39 := rfl
theorem signs_ok : ∀ c, c < 256 → (lst signsB).any (fun x => decide (x = c)) = decide (okP c) := by decide +kernel
theorem any_take_succ (l : List Nat) (p : Nat → Bool) (k : Nat) (hk : k < l.length) : (l.take (k + 1)).any p = ((l.take k).any p || p (l.getD k 0)) := by
  rw [take_succ_getD _ _ hk, List.any_append]; simp
theorem lst_get_lt (s : ByteArray) (k : Nat) (hk : k < s.size) : (lst s).getD k 0 < 256 := by
  rw [List.getD_eq_getElem?_getD, List.getElem?_eq_getElem (by rw [lst_len]; exact hk)]
  exact lst_lt s _ (List.getElem_mem _)

theorem refPart_ok (s : ByteArray) (hs : s.size < 2 ^ 40) (h : Heap) : HEnt Tryd.prog 63 #[.string s] h fun v h' => v = .bool (decide (partP (lst s))) ∧ h' = h := by
  refine F63_ent _ _ _ ?_
  have ls := lst_len s
  unfold F63
  rintro _ rfl
  refine ⟨fun x h' => ∃ k : Nat, x = k ∧ k ≤ s.size ∧ (∀ c ∈ (lst s).take k, okP c) ∧ h' = h, fun x _ => (s.size - x).toNat, ⟨0, rfl, by omega, by simp, rfl⟩, ?_⟩
  rintro h1 _ ⟨k, rfl, hk, hok, rfl⟩
  unfold F63_b1
  refine br_of (fun ht => ?_) (fun hf => ?_)
  · have hk' : k < s.size := by
      have : (k : Int) < (s.size : Int) := by simpa using ht
      omega
    have hc := lst_get_lt s k hk'
    unfold F63_k2
    rintro _ rfl
    refine ⟨fun b x h' => ∃ j : Nat, x = j ∧ j ≤ 39 ∧ b = ((lst signsB).take j).any (fun x => decide (x = (lst s).getD k 0)) ∧ h' = h1, fun _ x _ => (39 - x).toNat, ⟨0, rfl, by omega, rfl, rfl⟩, ?_⟩
    rintro h2 b _ ⟨j, rfl, hj, hb, rfl⟩
    unfold F63_b3
    refine br_of (fun hjt => ?_) (fun hjf => ?_)
    · have hj' : j < 39 := by
        have : (j : Int) < 39 := by simpa using hjt
        omega
      have e1 : IntKind.i64.wrap ((j : Int) + 1) = ((j + 1 : Nat) : Int) := by rw [i64_lt _ (by omega) (by omega)]; omega
      have hn := any_take_succ (lst signsB) (fun x => decide (x = (lst s).getD k 0)) j (by rw [signs_len]; exact hj')
      unfold F63_k4
      refine br_of (fun hbt => ?_) (fun hbf => ?_)
      · intro h3 hcl; obtain rfl := hcl.eq
        unfold F63_k5
        rintro _ rfl
        rw [e1]
        exact ⟨⟨j + 1, rfl, by omega, by rw [hn, ← hb, hbt]; rfl, rfl⟩, by show ((39 : Int) - ((j + 1 : Nat) : Int)).toNat < ((39 : Int) - (j : Int)).toNat; omega⟩
      · refine ⟨by omega, by show (j : Int) < 39; omega, by omega, by omega, ?_⟩
        intro h3 hcl; obtain rfl := hcl.eq
        unfold F63_k5
        rintro _ rfl
        rw [e1]
        refine ⟨⟨j + 1, rfl, by omega, ?_, rfl⟩, by show ((39 : Int) - ((j + 1 : Nat) : Int)).toNat < ((39 : Int) - (j : Int)).toNat; omega⟩
        rw [hn, ← hb, hbf, Bool.false_or]
        show (bt signsB (j : Int) == bt s (k : Int)) = _
        rw [bt_lst, bt_lst, Bool.eq_iff_iff]
        simp only [beq_iff_eq, decide_eq_true_eq]
        omega
    · have hj' : j = 39 := by
        have : ¬ (j : Int) < 39 := by simpa using hjf
        omega
      subst hj'
      rw [List.take_of_length_le (by rw [signs_len]; omega), signs_ok _ hc] at hb
      unfold F63_k6
      refine br_of (fun hbt => ⟨?_, rfl⟩) (fun hbf => ?_)
      · have hno : ¬ okP ((lst s).getD k 0) := by
          intro ho; rw [hb, decide_eq_true ho] at hbt; cases hbt
        have hmem : (lst s).getD k 0 ∈ lst s := by
          rw [List.getD_eq_getElem?_getD, List.getElem?_eq_getElem (by omega)]; exact List.getElem_mem _
        rw [decide_eq_false fun hp => hno (hp.2.2.2.2 _ hmem)]
      · have ho : okP ((lst s).getD k 0) := by
          rw [hb] at hbf
          by_cases ho : okP ((lst s).getD k 0)
          · exact ho
          · rw [decide_eq_false ho] at hbf; cases hbf
        unfold F63_k7
        rintro _ rfl
        have e1 : IntKind.i64.wrap ((k : Int) + 1) = ((k + 1 : Nat) : Int) := by rw [i64_lt _ (by omega) (by omega)]; omega
        rw [e1]
        refine ⟨⟨k + 1, rfl, by omega, ?_, rfl⟩, by show ((s.size : Int) - ((k + 1 : Nat) : Int)).toNat < ((s.size : Int) - (k : Int)).toNat; omega⟩
        rw [take_succ_getD _ _ (by omega)]
        intro c hc
        rcases List.mem_append.1 hc with hc | hc
        · exact hok c hc
        · rw [List.mem_singleton] at hc; rw [hc]; exact ho
  · have hk' : k = s.size := by
      have : ¬ (k : Int) < (s.size : Int) := by simpa using hf
      omega
    rw [List.take_of_length_le (by omega)] at hok
    unfold F63_k8
    rw [seq_lst, seq_lst, lst_dot, lst_dots]
    have no : ¬ partP (lst s) → Value.bool false = Value.bool (decide (partP (lst s))) := fun hn => by rw [decide_eq_false hn]
    refine br_of (fun h0 => ?_) (fun h0 => ⟨no fun hp => ?_, rfl⟩)
    · have h0' : (s.size : Int) ≥ 1 := by simpa using h0
      refine br_of (fun h1' => ?_) (fun h1' => ⟨no fun hp => ?_, rfl⟩)
      · have h2' : (s.size : Int) ≤ 24 := by simpa using h1'
        refine br_of (fun h3 => ⟨?_, rfl⟩) (fun h3 => ⟨no fun hp => ?_, rfl⟩)
        · have h3' : lst s ≠ [46] := by simpa using h3
          congr 1
          rw [Bool.eq_iff_iff]
          simp only [Bool.not_eq_true', decide_eq_false_iff_not, decide_eq_true_eq]
          refine ⟨fun h4 => ⟨fun e => ?_, by omega, h3', h4, hok⟩, fun hp => hp.2.2.2.1⟩
          rw [e] at ls; simp at ls; omega
        · have : lst s = [46] := by simpa using h3
          exact hp.2.2.1 this
      · have : ¬ (s.size : Int) ≤ 24 := by simpa using h1'
        have := hp.2.1; omega
    · have : ¬ (s.size : Int) ≥ 1 := by simpa using h0
      exact hp.1 (List.eq_nil_of_length_eq_zero (by omega))

theorem joinT_snoc : ∀ (xs : List (List Nat)) (y : List Nat), joinT (xs ++ [y]) = if xs = [] then y else joinT xs ++ 47 :: y
  | [], y => rfl
  | [x], y => rfl
  | x :: z :: r, y => by
    have ih := joinT_snoc (z :: r) y
    rw [if_neg (by simp)] at ih ⊢
    show x ++ 47 :: joinT ((z :: r) ++ [y]) = (x ++ 47 :: joinT (z :: r)) ++ 47 :: y
    rw [ih]; simp
theorem str_app (x y : List Nat) : str x ++ str y = str (x ++ y) := by
  apply ByteArray.ext; simp [str]
theorem takeP_succ (ps : List (List Nat)) (k : Nat) (hk : k < ps.length) : ps.take (k + 1) = ps.take k ++ [ps.getD k []] := by
  rw [List.take_succ_eq_append_getElem hk, List.getD_eq_getElem?_getD, List.getElem?_eq_getElem hk]; rfl
theorem str_nil : str [] = (⟨#[]⟩ : ByteArray) := rfl

theorem text_ok {h0 : Heap} (a : Option Addr) (l c : Nat) (ps : List (List Nat)) (h : Heap) (o : OwnAt 9 h0 h a l c (vals ps)) (hp : ∀ p ∈ ps, partP p) (hl : l < 2 ^ 40) :
    HEnt Tryd.prog 51 #[.slice a l c] h fun v h' => v = .string (str (joinT ps)) ∧ h' = h := by
  refine F51_ent _ _ _ _ _ ?_
  have hol := o.len
  rw [vals_len] at hol
  unfold F51
  rintro _ rfl _ rfl
  refine ⟨fun s x h' => ∃ k : Nat, x = k ∧ k ≤ l ∧ s = str (joinT (ps.take k)) ∧ h' = h, fun _ x _ => (l - x).toNat, ⟨0, rfl, by omega, rfl, rfl⟩, ?_⟩
  rintro h1 _ _ ⟨k, rfl, hk, rfl, rfl⟩
  unfold F51_b1
  refine br_of (fun ht => ?_) (fun hf => ?_)
  · have hk' : k < ps.length := by
      have : (k : Int) < (l : Int) := by simpa using ht
      omega
    have hlen := joinT_len (ps.take k) fun p hpm => (hp p (List.mem_of_mem_take hpm)).2.1
    rw [List.length_take] at hlen
    obtain ⟨b, rfl, _, hc⟩ := o.cell (vals_get hk')
    have hx := hp _ (getD_mem hk')
    have e1 : IntKind.i64.wrap ((k : Int) + 1) = ((k + 1 : Nat) : Int) := by rw [i64_lt _ (by omega) (by omega)]; omega
    have step : ∀ t : List Nat, t ++ ps.getD k [] = joinT (ps.take (k + 1)) → t.length ≤ 2 ^ 50 → F51_k3 (fun s x h' => ∃ k : Nat, x = k ∧ k ≤ l ∧ s = str (joinT (ps.take k)) ∧ h' = h1) (fun _ x _ => (l - x).toNat) (((l : Int) - (k : Int)).toNat) (some ⟨b, 0, none⟩) l c (str t) (k : Int) h1 fun v h' => v = .string (str (joinT ps)) ∧ h' = h1 := by
      intro t he htl
      unfold F51_k3
      refine ⟨_, rfl, by omega, by omega, _, by rw [Int.toNat_natCast, Nat.mul_one, add_mk, Nat.zero_add]; exact hc, ?_, ?_⟩
      · rw [str_size, str_size]; have := hx.2.1; omega
      · rintro _ rfl
        unfold F51_k4
        rintro _ rfl
        rw [e1, str_app, he]
        exact ⟨⟨k + 1, rfl, by omega, rfl, rfl⟩, by show ((l : Int) - ((k + 1 : Nat) : Int)).toNat < ((l : Int) - (k : Int)).toNat; omega⟩
    unfold F51_k2
    refine br_of (fun hpos => ?_) (fun hz => ?_)
    · have hpos' : 0 < k := by
        have : (k : Int) > 0 := by simpa using hpos
        omega
      refine ⟨?_, ?_⟩
      · rw [str_size]; show _ + 1 ≤ _; omega
      · rintro _ rfl
        rw [show (⟨#[47]⟩ : ByteArray) = str [47] from rfl, str_app]
        refine step _ ?_ (by rw [List.length_append]; simp; omega)
        rw [takeP_succ ps k hk', joinT_snoc, if_neg (fun e => ?_)]
        · simp
        · have := congrArg List.length e
          rw [List.length_take, List.length_nil] at this; omega
    · have hz' : k = 0 := by
        have : ¬ (k : Int) > 0 := by simpa using hz
        omega
      subst hz'
      refine step _ ?_ (by simp [joinT])
      rw [takeP_succ ps 0 hk', joinT_snoc]; simp [joinT]
  · have hk' : k = l := by
      have : ¬ (k : Int) < (l : Int) := by simpa using hf
      omega
    unfold F51_k5
    rw [List.take_of_length_le (by omega)]
    exact ⟨rfl, rfl⟩
end Go.Proofs.YtcfegbpoailbdaaDoor

namespace Go.Proofs.YtcfegbpoailbdaaDoor
open Go.Vc Go.Sha Go.Trail Go.RowKit
set_option linter.unusedVariables false

theorem pieces_cons (c : Nat) (r : List Nat) (p : List Nat) (ps : List (List Nat)) (h : pieces r = p :: ps) : pieces (c :: r) = if c = 47 then [] :: p :: ps else (c :: p) :: ps := by
  conv => lhs; unfold pieces
  rw [h]
theorem pieces_cat : ∀ l r : List Nat, pieces (l ++ 47 :: r) = pieces l ++ pieces r
  | [], r => by
    obtain ⟨p, ps, hp⟩ := pieces_ne r
    rw [List.nil_append, pieces_cons _ _ _ _ hp, if_pos rfl, hp]; rfl
  | c :: l, r => by
    have ih := pieces_cat l r
    obtain ⟨p, ps, hp⟩ := pieces_ne l
    rw [hp] at ih
    rw [List.cons_append, pieces_cons c _ _ _ ih, pieces_cons c l _ _ hp]
    split <;> rfl
theorem okP_slash {c : Nat} (h : okP c) : c ≠ 47 := by unfold okP at h; omega
theorem partP_slash {x : List Nat} (h : partP x) : ∀ c ∈ x, c ≠ 47 := fun c hc => okP_slash (h.2.2.2.2 c hc)
theorem pieces_join : ∀ acc : List (List Nat), acc ≠ [] → (∀ p ∈ acc, partP p) → pieces (joinT acc) = acc
  | [], h, _ => absurd rfl h
  | [x], _, h => pieces_whole x (partP_slash (h x (by simp)))
  | x :: y :: r, _, h => by
    show pieces (x ++ 47 :: joinT (y :: r)) = _
    rw [pieces_cat, pieces_whole x (partP_slash (h x (by simp))), pieces_join (y :: r) (by simp) fun p hp => h p (List.mem_cons_of_mem _ hp)]
    rfl
theorem joinT_ne {acc : List (List Nat)} (h0 : acc ≠ []) (h : ∀ p ∈ acc, partP p) : joinT acc ≠ [] := by
  intro e
  have := pieces_join acc h0 h
  rw [e] at this
  have h1 := h [] (by rw [← this]; simp [pieces])
  exact h1.1 rfl

theorem cl_cons (acc : List (List Nat)) (x : List Nat) (r : List (List Nat)) : cl acc (x :: r) = if x = [] ∨ x = [46] then cl acc r else if x = [46, 46] then (if acc = [] then none else cl acc.dropLast r) else if partP x then cl (acc ++ [x]) r else none := by
  conv => lhs; unfold cl
theorem cl_part (acc : List (List Nat)) (x : List Nat) (r : List (List Nat)) (h : partP x) : cl acc (x :: r) = cl (acc ++ [x]) r := by
  rw [cl_cons, if_neg (fun e => e.elim h.1 h.2.2.1), if_neg h.2.2.2.1, if_pos h]
theorem cl_parts : ∀ (ps acc : List (List Nat)), (∀ p ∈ ps, partP p) → cl acc ps = some (acc ++ ps)
  | [], acc, _ => by simp [cl]
  | x :: r, acc, h => by
    rw [cl_part acc x r (h x (by simp)), cl_parts r _ fun p hp => h p (List.mem_cons_of_mem _ hp)]
    simp
theorem cl_app : ∀ (xs ys acc : List (List Nat)), cl acc (xs ++ ys) = (cl acc xs).bind fun a => cl a ys
  | [], ys, acc => by simp [cl]
  | x :: r, ys, acc => by
    have ih := cl_app r ys
    rw [List.cons_append, cl_cons, cl_cons]
    split
    · exact ih acc
    · split
      · split
        · rfl
        · exact ih _
      · split
        · exact ih _
        · rfl
theorem cl_all : ∀ (xs acc r : List (List Nat)), cl acc xs = some r → (∀ p ∈ acc, partP p) → ∀ p ∈ r, partP p
  | [], acc, r, h, ha => by simp [cl] at h; subst h; exact ha
  | x :: xs, acc, r, h, ha => by
    rw [cl_cons] at h
    split at h
    · exact cl_all xs acc r h ha
    · split at h
      · split at h
        · cases h
        · exact cl_all xs _ r h fun p hp => ha p (List.dropLast_subset _ hp)
      · split at h
        · rename_i hx
          refine cl_all xs _ r h fun p hp => ?_
          rcases List.mem_append.1 hp with hp | hp
          · exact ha p hp
          · rw [List.mem_singleton] at hp; rw [hp]; exact hx
        · cases h

/-- a path -/
def good (l : List Nat) : Prop := l = [] ∨ ((∀ p ∈ pieces l, partP p) ∧ (pieces l).length ≤ 8)
instance (l : List Nat) : Decidable (good l) := by unfold good; infer_instance
theorem clean_of {l : List Nat} {acc : List (List Nat)} (h : cl [] (pieces l) = some acc) : clean l = if acc.length > 8 then ([], 3) else (joinT acc, 0) := by
  unfold clean; rw [h]
theorem clean_spec (l : List Nat) : clean l = ([], 12) ∨ clean l = ([], 3) ∨ ∃ acc, cl [] (pieces l) = some acc ∧ clean l = (joinT acc, 0) ∧ (∀ p ∈ acc, partP p) ∧ acc.length ≤ 8 := by
  cases h : cl [] (pieces l) with
  | none => exact .inl (by unfold clean; rw [h])
  | some acc =>
    have ha := cl_all _ _ _ h (by simp)
    by_cases h8 : acc.length > 8
    · exact .inr (.inl (by rw [clean_of h, if_pos h8]))
    · exact .inr (.inr ⟨acc, rfl, by rw [clean_of h, if_neg h8], ha, by omega⟩)
theorem clean_good {l : List Nat} (h : good l) : clean l = (l, 0) := by
  rcases h with rfl | ⟨h1, h2⟩
  · rfl
  · have := cl_parts (pieces l) [] h1
    rw [List.nil_append] at this
    rw [clean_of this, if_neg (by omega), join_pieces]
theorem good_of_parts {acc : List (List Nat)} (h : ∀ p ∈ acc, partP p) (h8 : acc.length ≤ 8) : good (joinT acc) := by
  by_cases h0 : acc = []
  · subst h0; exact .inl rfl
  · refine .inr ?_
    rw [pieces_join acc h0 h]; exact ⟨h, h8⟩
theorem good_iff (l : List Nat) : good l ↔ clean l = (l, 0) := by
  refine ⟨clean_good, fun h => ?_⟩
  rcases clean_spec l with e | e | ⟨acc, _, e, h1, h2⟩
  · rw [h] at e; cases e
  · rw [h] at e; cases e
  · rw [h] at e
    obtain ⟨rfl, _⟩ := Prod.mk.inj e
    exact good_of_parts h1 h2
theorem joinT_lt {acc : List (List Nat)} (h : ∀ p ∈ acc, partP p) : ∀ x ∈ joinT acc, x < 256 := by
  intro x hx
  induction acc with
  | nil => simp [joinT] at hx
  | cons p r ih =>
    have hp := part_lt (h p (by simp))
    have ih' := ih fun q hq => h q (List.mem_cons_of_mem _ hq)
    cases r with
    | nil => exact hp x hx
    | cons q r =>
      rcases List.mem_append.1 (show x ∈ p ++ 47 :: joinT (q :: r) from hx) with h | h
      · exact hp x h
      · rcases List.mem_cons.1 h with h | h
        · omega
        · exact ih' h
theorem clean_lt (l : List Nat) : ∀ x ∈ (clean l).1, x < 256 := by
  rcases clean_spec l with e | e | ⟨acc, _, e, h1, h2⟩
  · rw [e]; simp
  · rw [e]; simp
  · rw [e]; exact joinT_lt h1
theorem clean_len (l : List Nat) : (clean l).1.length ≤ 200 := by
  rcases clean_spec l with e | e | ⟨acc, _, e, h1, h2⟩
  · rw [e]; simp
  · rw [e]; simp
  · rw [e]
    have := joinT_len acc fun p hp => (h1 p hp).2.1
    show (joinT acc).length ≤ _
    omega
theorem clean_out {l : List Nat} (h : (clean l).2 = 0) : good (clean l).1 := by
  rcases clean_spec l with e | e | ⟨acc, _, e, h1, h2⟩
  · rw [e] at h; cases h
  · rw [e] at h; cases h
  · rw [e]; exact good_of_parts h1 h2
theorem clean_bad {l : List Nat} (h : (clean l).2 ≠ 0) : (clean l).1 = [] ∧ ((clean l).2 = 12 ∨ (clean l).2 = 3) := by
  rcases clean_spec l with e | e | ⟨acc, _, e, h1, h2⟩
  · rw [e]; simp
  · rw [e]; simp
  · rw [e] at h; exact absurd rfl h

/-- a path's parts -/
def partsL (l : List Nat) : List (List Nat) := if l = [] ∨ ¬ good l then [] else pieces l
/-- the path above -/
def upL (l : List Nat) : List Nat × Bool := if l = [] ∨ ¬ good l then ([], false) else (joinT (pieces l).dropLast, true)
theorem good_pieces {l : List Nat} (h : good l) (h0 : l ≠ []) : (∀ p ∈ pieces l, partP p) ∧ (pieces l).length ≤ 8 := h.resolve_left h0
theorem parts_all (l : List Nat) : (∀ p ∈ partsL l, partP p) ∧ (partsL l).length ≤ 8 := by
  unfold partsL
  split
  · simp
  · rename_i h
    have h0 : l ≠ [] := fun e => h (.inl e)
    have hg : good l := Decidable.byContradiction fun e => h (.inr e)
    exact good_pieces hg h0
theorem parts_good {l : List Nat} (h : good l) (h0 : l ≠ []) : partsL l = pieces l := by
  unfold partsL; rw [if_neg (fun e => e.elim h0 fun e => e h)]

/-- the last slash -/
theorem take_last (l : List Nat) (i : Nat) (hi : i < l.length) (hc : l.getD i 0 = 47) (hno : ∀ c ∈ l.drop (i + 1), c ≠ 47) : joinT (pieces l).dropLast = l.take i := by
  have e : l = l.take i ++ 47 :: l.drop (i + 1) := by
    conv => lhs; rw [← List.take_append_drop i l]
    congr 1
    rw [List.drop_eq_getElem_cons hi]
    congr 1
    rw [List.getD_eq_getElem?_getD, List.getElem?_eq_getElem hi] at hc
    exact hc
  have h2 : pieces l = pieces (l.take i) ++ [l.drop (i + 1)] := by
    conv => lhs; rw [e]
    rw [pieces_cat, pieces_whole _ hno]
  rw [h2, List.dropLast_concat, join_pieces]
theorem no_last (l : List Nat) (hno : ∀ c ∈ l, c ≠ 47) : joinT (pieces l).dropLast = [] := by
  rw [pieces_whole l hno]; rfl

/-! ### the order, and what lies below -/
theorem lexK_prefix : ∀ (u x : List Nat) (c : Nat), lexK u (u ++ c :: x) = true
  | [], x, c => rfl
  | a :: u, x, c => by
    rw [List.cons_append]
    unfold lexK
    rw [if_pos rfl]
    exact lexK_prefix u x c
theorem near : ∀ p q t : List Nat, lexK q p = false → lexK q (p ++ 47 :: t) = true → q = p ∨ q.take (p.length + 1) = p ++ [47]
  | [], [], _, _, _ => .inl rfl
  | [], b :: q, t, h1, h2 => by
    refine .inr ?_
    rw [List.nil_append] at h2
    unfold lexK at h2
    by_cases hb : b = 47
    · subst hb; simp
    · rw [if_neg hb, if_neg hb, if_pos rfl] at h2; cases h2
  | a :: p, [], t, h1, _ => by simp [lexK] at h1
  | a :: p, b :: q, t, h1, h2 => by
    rw [List.cons_append] at h2
    unfold lexK at h1 h2
    by_cases hb : b = a
    · subst hb
      rw [if_pos rfl] at h1 h2
      rcases near p q t h1 h2 with h | h
      · exact .inl (by rw [h])
      · exact .inr (by simp [h])
    · rw [if_neg hb] at h1 h2
      rw [h1] at h2; cases h2
theorem inP_cases {p q : List Nat} (h : inP p q = true) : p = [] ∨ q = p ∨ ∃ t, q = p ++ 47 :: t := by
  unfold inP at h
  simp only [Bool.or_eq_true, decide_eq_true_eq] at h
  rcases h with (h | h) | h
  · exact .inl h
  · exact .inr (.inl h)
  · refine .inr (.inr ⟨q.drop (p.length + 1), ?_⟩)
    conv => lhs; rw [← List.take_append_drop (p.length + 1) q]
    rw [h]; simp
theorem inP_below (p t : List Nat) : inP p (p ++ 47 :: t) = true := by
  unfold inP
  simp only [Bool.or_eq_true, decide_eq_true_eq]
  refine .inr ?_
  rw [List.take_append, List.take_of_length_le (by omega), show p.length + 1 - p.length = 1 by omega]
  rfl
theorem inP_of {p q : List Nat} (h : q = p ∨ q.take (p.length + 1) = p ++ [47]) : inP p q = true := by
  unfold inP
  simp only [Bool.or_eq_true, decide_eq_true_eq]
  rcases h with h | h
  · exact .inl (.inr h)
  · exact .inr h
theorem between {p q r : List Nat} (h1 : inP p r = true) (h2 : lexK q p = false) (h3 : lexK q r = true) : inP p q = true := by
  rcases inP_cases h1 with h | h | ⟨t, h⟩
  · subst h; unfold inP; simp
  · subst h; rw [h2] at h3; cases h3
  · subst h; exact inP_of (near p q t h2 h3)
theorem below_less {p r : List Nat} (h1 : inP p r = true) (h2 : p ≠ r) : lexK p r = true := by
  rcases inP_cases h1 with h | h | ⟨t, h⟩
  · subst h
    cases r with
    | nil => exact absurd rfl h2
    | cons b q => rfl
  · exact absurd h.symm h2
  · subst h; exact lexK_prefix _ _ _

/-! ### a path and the one above it -/
theorem snoc_of {α : Type} {l : List α} (h : l ≠ []) : ∃ m x, l = m ++ [x] := ⟨l.dropLast, l.getLast h, (List.dropLast_concat_getLast h).symm⟩
theorem cl_self {acc : List (List Nat)} (h : ∀ p ∈ acc, partP p) : cl [] (pieces (joinT acc)) = some acc := by
  by_cases h0 : acc = []
  · subst h0; rfl
  · rw [pieces_join acc h0 h]; exact (cl_parts acc [] h).trans (by simp)
theorem clean_down {m : List (List Nat)} {x : List Nat} (h : ∀ p ∈ m ++ [x], partP p) (h8 : (m ++ [x]).length ≤ 8) : clean (joinT m ++ 47 :: x) = (joinT (m ++ [x]), 0) := by
  have hm : ∀ p ∈ m, partP p := fun p hp => h p (List.mem_append_left _ hp)
  have hx : partP x := h x (by simp)
  have : cl [] (pieces (joinT m ++ 47 :: x)) = some (m ++ [x]) := by
    rw [pieces_cat, cl_app, cl_self hm, pieces_whole x (partP_slash hx)]
    exact (cl_part m x [] hx).trans rfl
  rw [clean_of this, if_neg (by omega)]
theorem clean_up {m : List (List Nat)} {x : List Nat} (h : ∀ p ∈ m ++ [x], partP p) (h8 : (m ++ [x]).length ≤ 8) : clean (joinT (m ++ [x]) ++ 47 :: [46, 46]) = (joinT m, 0) := by
  have : cl [] (pieces (joinT (m ++ [x]) ++ 47 :: [46, 46])) = some m := by
    rw [pieces_cat, cl_app, cl_self h, show pieces [46, 46] = [[46, 46]] from rfl]
    show cl (m ++ [x]) [[46, 46]] = _
    rw [cl_cons, if_neg (by decide), if_pos rfl, if_neg (by simp), List.dropLast_concat]; rfl
  rw [clean_of this, if_neg (by rw [List.length_append] at h8; simp at h8; omega)]
theorem clean_slashes {l : List Nat} (h : good l) : clean (47 :: l ++ [47]) = (l, 0) := by
  have e : pieces (47 :: l ++ [47]) = [] :: (pieces l ++ [[]]) := by
    have h1 : pieces (l ++ [47]) = pieces l ++ [[]] := pieces_cat l []
    have h2 := pieces_cat [] (l ++ [47])
    rw [h1] at h2
    exact h2
  have hc : cl [] (pieces (47 :: l ++ [47])) = cl [] (pieces l) := by
    rw [e, cl_cons, if_pos (.inl rfl), cl_app]
    cases hl : cl [] (pieces l) with
    | none => rfl
    | some a => show cl a [[]] = _; rw [cl_cons, if_pos (.inl rfl)]; rfl
  have : clean (47 :: l ++ [47]) = clean l := by unfold clean; rw [hc]
  rw [this]; exact clean_good h
theorem joinT_up {m : List (List Nat)} {x : List Nat} (h0 : m ≠ []) : joinT (m ++ [x]) = joinT m ++ 47 :: x := by
  rw [joinT_snoc, if_neg h0]
end Go.Proofs.YtcfegbpoailbdaaDoor

namespace Go.Proofs.YtcfegbpoailbdaaDoor
open Go.Vc Go.Sha Go.Trail Go.RowKit
set_option linter.unusedVariables false

theorem seq_self (s : ByteArray) : seq s s = true := by rw [seq_lst]; simp
theorem seq_str (l : List Nat) (h : ∀ x ∈ l, x < 256) (s : ByteArray) : seq (str l) s = decide (l = lst s) := by rw [seq_lst, lst_str l h]
theorem seq_str2 (l m : List Nat) (h : ∀ x ∈ l, x < 256) (h2 : ∀ x ∈ m, x < 256) : seq (str l) (str m) = decide (l = m) := by rw [seq_lst, lst_str l h, lst_str m h2]
theorem seq_str_nil (l : List Nat) (h : ∀ x ∈ l, x < 256) : seq (str l) ⟨#[]⟩ = decide (l = []) := by rw [seq_nil, lst_str l h]

theorem is_ok (s : ByteArray) (hs : s.size < 2 ^ 30) (h : Heap) (hm : MaxAt h) : HEnt Tryd.prog 42 #[.string s] h fun v h' => v = .bool (decide (good (lst s))) ∧ Ext h h' := by
  refine F42_ent _ _ _ ?_
  unfold F42
  refine HEnt.use (clean_ok s hs h hm) ?_
  rintro _ h1 ⟨rfl, x1⟩
  refine ⟨_, _, rfl, br_of (fun h0 => ⟨?_, x1⟩) (fun h0 => ⟨?_, x1⟩)⟩
  · have h0' : (clean (lst s)).2 = 0 := by
      have : (((clean (lst s)).2 : Nat) : Int) = 0 := by simpa using h0
      omega
    rw [seq_str _ (clean_lt _)]
    congr 1
    refine decide_eq_decide.2 ?_
    rw [good_iff]
    exact ⟨fun e => Prod.ext e h0', fun e => by rw [e]⟩
  · have h0' : (clean (lst s)).2 ≠ 0 := by
      have : ¬ (((clean (lst s)).2 : Nat) : Int) = 0 := by simpa using h0
      omega
    congr 1
    refine (decide_eq_false fun hg => ?_).symm
    rw [good_iff] at hg
    rw [hg] at h0'; exact h0' rfl

theorem refIs_ok (s : ByteArray) (hs : s.size < 2 ^ 30) (h : Heap) : HEnt Tryd.prog 49 #[.string s] h fun v h' => v = .bool (decide (good (lst s))) ∧ Ext h h' := by
  refine F49_ent _ _ _ ?_
  have ls := lst_len s
  unfold F49
  rw [seq_nil]
  refine br_of (fun h0 => ⟨?_, Ext.refl _⟩) (fun h0 => ?_)
  · rw [decide_eq_true (show good (lst s) from .inl (of_decide_eq_true h0))]
  have h0' := of_decide_eq_false h0
  have hgood : good (lst s) ↔ ((∀ p ∈ pieces (lst s), partP p) ∧ (pieces (lst s)).length ≤ 8) := ⟨fun h => good_pieces h h0', fun h => .inr h⟩
  unfold F49_k1
  refine HEnt.use (refPieces_ok s (by omega) h) ?_
  rintro _ h1 ⟨ap, l, cp, rfl, o⟩
  refine ⟨ap, l, cp, rfl, ?_⟩
  rintro _ rfl
  have hl := o.len
  rw [vals_len] at hl
  have hplen := pieces_len (lst s)
  have hplt := pieces_lt (lst s) (lst_lt s)
  have heach := pieces_each (lst s)
  generalize pieces (lst s) = P at *
  refine ⟨fun x h' => ∃ k : Nat, x = k ∧ k ≤ P.length ∧ (∀ p ∈ P.take k, partP p) ∧ h' = h1, fun x _ => (P.length - x).toNat, ⟨0, rfl, by omega, by simp, rfl⟩, ?_⟩
  rintro h2 _ ⟨k, rfl, hk, hok, rfl⟩
  unfold F49_b2
  refine br_of (fun ht => ?_) (fun hf => ?_)
  · have hk' : k < P.length := by
      have : (k : Int) < (l : Int) := by simpa using ht
      omega
    obtain ⟨b, rfl, _, hc1⟩ := o.cell (vals_get hk')
    have hxlt := hplt _ (getD_mem hk')
    have hxlen := heach _ (getD_mem hk')
    have hxm := getD_mem hk'
    have ht := takeP_succ P k hk'
    generalize P.getD k [] = x at *
    unfold F49_k3
    refine ⟨_, rfl, by omega, by omega, str x, by rw [Int.toNat_natCast, Nat.mul_one, add_mk, Nat.zero_add]; exact hc1, ?_⟩
    refine HEnt.use (refPart_ok (str x) (by rw [str_size]; omega) h2) ?_
    rintro _ _ ⟨rfl, rfl⟩
    rw [lst_str x hxlt]
    refine ⟨_, rfl, br_of (fun hp => ⟨?_, o.ext⟩) (fun hp => ?_)⟩
    · have hp' : ¬ partP x := by simpa using hp
      congr 1
      exact (decide_eq_false fun hg => hp' ((hgood.1 hg).1 x hxm)).symm
    · have hp' : partP x := by simpa using hp
      unfold F49_k4
      rintro _ rfl
      have e1 : IntKind.i64.wrap ((k : Int) + 1) = ((k + 1 : Nat) : Int) := by rw [i64_lt _ (by omega) (by omega)]; omega
      rw [e1]
      refine ⟨⟨k + 1, rfl, by omega, ?_, rfl⟩, by show ((P.length : Int) - ((k + 1 : Nat) : Int)).toNat < ((P.length : Int) - (k : Int)).toNat; omega⟩
      rw [ht]
      intro p hpm
      rcases List.mem_append.1 hpm with h | h
      · exact hok p h
      · rw [List.mem_singleton] at h; rw [h]; exact hp'
  · have hk' : k = P.length := by
      have : ¬ (k : Int) < (l : Int) := by simpa using hf
      omega
    rw [List.take_of_length_le (by omega)] at hok
    unfold F49_k5
    refine ⟨?_, o.ext⟩
    congr 1
    refine decide_eq_decide.2 ?_
    rw [hgood]
    exact ⟨fun h => ⟨hok, by omega⟩, fun h => by have := h.2; omega⟩

theorem parts_ok (s : ByteArray) (hs : s.size < 2 ^ 30) (h : Heap) (hm : MaxAt h) : HEnt Tryd.prog 26 #[.string s] h fun v h' => ∃ a l c, v = .slice a l c ∧ OwnAt 9 h h' a l c (vals (partsL (lst s))) := by
  refine F26_ent _ _ _ ?_
  have no : ∀ h', Ext h h' → (lst s = [] ∨ ¬ good (lst s)) → F26_k1 s true h' fun v h' => ∃ a l c, v = .slice a l c ∧ OwnAt 9 h h' a l c (vals (partsL (lst s))) := fun h' x hn => by
    unfold F26_k1
    refine br_of (fun _ => ⟨none, 0, 0, rfl, ?_⟩) (fun hb => by cases hb)
    unfold partsL; rw [if_pos hn]
    exact OwnAt.nil 9 x
  unfold F26
  rw [seq_nil]
  refine br_of (fun h0 => no h (Ext.refl _) (.inl (of_decide_eq_true h0))) (fun h0 => ?_)
  refine HEnt.use (is_ok s hs h hm) ?_
  rintro _ h1 ⟨rfl, x1⟩
  refine ⟨_, rfl, ?_⟩
  by_cases hg : good (lst s)
  · rw [decide_eq_true hg]
    unfold F26_k1
    refine br_of (fun hb => by cases hb) (fun _ => ?_)
    unfold F26_k2
    refine HEnt.use (split_ok s (by omega) h1 (hm.ext x1)) ?_
    rintro _ h2 ⟨l, rfl, o⟩
    refine ⟨_, l, l, rfl, _, l, l, rfl, ?_⟩
    rw [parts_good hg (of_decide_eq_false h0)]
    exact ⟨o.own, fun k e => by have := o.new k e; have := x1.size; omega, x1.trans o.ext⟩
  · rw [decide_eq_false hg]; exact no h1 x1 (.inr hg)
theorem refParts_ok (s : ByteArray) (hs : s.size < 2 ^ 30) (h : Heap) : HEnt Tryd.prog 50 #[.string s] h fun v h' => ∃ a l c, v = .slice a l c ∧ OwnAt 9 h h' a l c (vals (partsL (lst s))) := by
  refine F50_ent _ _ _ ?_
  have no : ∀ h', Ext h h' → (lst s = [] ∨ ¬ good (lst s)) → F50_k1 s true h' fun v h' => ∃ a l c, v = .slice a l c ∧ OwnAt 9 h h' a l c (vals (partsL (lst s))) := fun h' x hn => by
    unfold F50_k1
    refine br_of (fun _ => ⟨none, 0, 0, rfl, ?_⟩) (fun hb => by cases hb)
    unfold partsL; rw [if_pos hn]
    exact OwnAt.nil 9 x
  unfold F50
  rw [seq_nil]
  refine br_of (fun h0 => no h (Ext.refl _) (.inl (of_decide_eq_true h0))) (fun h0 => ?_)
  refine HEnt.use (refIs_ok s hs h) ?_
  rintro _ h1 ⟨rfl, x1⟩
  refine ⟨_, rfl, ?_⟩
  by_cases hg : good (lst s)
  · rw [decide_eq_true hg]
    unfold F50_k1
    refine br_of (fun hb => by cases hb) (fun _ => ?_)
    unfold F50_k2
    refine HEnt.use (refPieces_ok s (by omega) h1) ?_
    rintro _ h2 ⟨a, l, c, rfl, o⟩
    refine ⟨a, l, c, rfl, a, l, c, rfl, ?_⟩
    rw [parts_good hg (of_decide_eq_false h0)]
    exact ⟨o.own, fun k e => by have := o.new k e; have := x1.size; omega, x1.trans o.ext⟩
  · rw [decide_eq_false hg]; exact no h1 x1 (.inr hg)

theorem lastIndex_ok (s : ByteArray) (hs : s.size < 2 ^ 40) (h : Heap) : HEnt Tryd.prog 43 #[.string s, .int .u8 47] h fun v h' => v = .int .i64 (Lib.lastIndexByte s 47) ∧ h' = h := by
  refine HEnt.of_body Tryd.func43 (by kernel_rfl) (by kernel_rfl) fun w hw => ?_
  refine (Tryd.strings_LastIndexByte s 47 (by omega) w).mono fun e w' ⟨he, hw'⟩ => ?_
  subst hw'
  exact ⟨_, he, Kin.refl _, rfl, hw⟩
theorem bang_lst (s : ByteArray) (i : Nat) (hi : i < s.size) : (s.data[i]!).toNat = (lst s).getD i 0 := by
  have h2 : i < s.data.size := hi
  rw [List.getD_eq_getElem?_getD, lst, List.getElem?_map, getElem!_pos s.data i h2]
  rw [Array.getElem?_toList, Array.getElem?_eq_getElem h2]; rfl
/-- strings of a result with a bool -/
def res2 (r : List Nat × Bool) : Value := .tuple #[.string (str r.1), .bool r.2]
theorem up_ok (s : ByteArray) (hs : s.size < 2 ^ 30) (h : Heap) (hm : MaxAt h) : HEnt Tryd.prog 24 #[.string s] h fun v h' => v = res2 (upL (lst s)) ∧ Ext h h' := by
  refine F24_ent _ _ _ ?_
  have ls := lst_len s
  have no : ∀ h', Ext h h' → (lst s = [] ∨ ¬ good (lst s)) → F24_k1 s true h' fun v h' => v = res2 (upL (lst s)) ∧ Ext h h' := fun h' x hn => by
    unfold F24_k1
    refine br_of (fun _ => ⟨?_, x⟩) (fun hb => by cases hb)
    unfold upL; rw [if_pos hn]; rfl
  unfold F24
  rw [seq_nil]
  refine br_of (fun h0 => no h (Ext.refl _) (.inl (of_decide_eq_true h0))) (fun h0 => ?_)
  refine HEnt.use (is_ok s hs h hm) ?_
  rintro _ h1 ⟨rfl, x1⟩
  refine ⟨_, rfl, ?_⟩
  by_cases hg : good (lst s)
  · rw [decide_eq_true hg]
    have hu : upL (lst s) = (joinT (pieces (lst s)).dropLast, true) := by
      unfold upL; rw [if_neg (fun e => e.elim (of_decide_eq_false h0) fun e => e hg)]
    unfold F24_k1
    refine br_of (fun hb => by cases hb) (fun _ => ?_)
    unfold F24_k2
    refine HEnt.use (lastIndex_ok s (by omega) h1) ?_
    rintro _ _ ⟨rfl, rfl⟩
    refine ⟨_, rfl, ?_⟩
    rcases Lib.lastIdx_spec s 47 s.size with ⟨e, hno⟩ | ⟨i, hi, e, hc, hno⟩
    · have e' : Lib.lastIndexByte s 47 = -1 := e
      rw [e']
      refine br_of (fun hb => by simp at hb) (fun _ => ?_)
      unfold F24_k3
      refine ⟨?_, x1⟩
      rw [hu, no_last]
      · rfl
      · intro c hcm
        obtain ⟨j, hj, rfl⟩ := List.getElem_of_mem hcm
        have hj' : j < s.size := by omega
        have := hno j hj'
        rw [bang_lst s j hj', List.getD_eq_getElem?_getD, List.getElem?_eq_getElem hj] at this
        simp only [Option.getD_some] at this
        omega
    · have e' : Lib.lastIndexByte s 47 = i := e
      rw [e']
      refine br_of (fun _ => ⟨by omega, by omega, by omega, ?_, x1⟩) (fun hb => by simp at hb)
      rw [bang_lst s i hi] at hc
      rw [hu, take_last (lst s) i (by omega) (by omega)]
      · rw [Int.toNat_natCast, str_cut]; rfl
      · intro c hcm
        obtain ⟨j, hj, rfl⟩ := List.getElem_of_mem hcm
        rw [List.length_drop] at hj
        rw [List.getElem_drop]
        have := hno (i + 1 + j) (by omega) (by omega)
        rw [bang_lst s _ (by omega), List.getD_eq_getElem?_getD, List.getElem?_eq_getElem (by omega)] at this
        simp only [Option.getD_some] at this
        omega
  · rw [decide_eq_false hg]; exact no h1 x1 (.inr hg)
theorem OwnAt.nonnil {el : TypeId} {h0 h : Heap} {a : Option Addr} {l c : Nat} {vs : List Value} (o : OwnAt el h0 h a (l + 1) c vs) : l + 1 ≤ c ∧ ∃ b, a = some ⟨b, 0, none⟩ := by
  rcases o.own with ⟨_, e, _, _⟩ | ⟨h1, h2, b, cs, rfl, _⟩
  · cases e
  · exact ⟨h2, b, rfl⟩
theorem refUp_ok (s : ByteArray) (hs : s.size < 2 ^ 30) (h : Heap) : HEnt Tryd.prog 39 #[.string s] h fun v h' => v = res2 (upL (lst s)) ∧ Ext h h' := by
  refine F39_ent _ _ _ ?_
  unfold F39
  refine HEnt.use (refParts_ok s hs h) ?_
  rintro _ h1 ⟨a, l, c, rfl, o⟩
  have hl := o.len
  rw [vals_len] at hl
  have hp := parts_all (lst s)
  refine ⟨a, l, c, rfl, br_of (fun h0 => ⟨?_, o.ext⟩) (fun h0 => ?_)⟩
  · have h0' : l = 0 := by
      have : (l : Int) = 0 := by simpa using h0
      omega
    have he : lst s = [] ∨ ¬ good (lst s) := Decidable.byContradiction fun hn => by
      have : partsL (lst s) = pieces (lst s) := by unfold partsL; rw [if_neg hn]
      obtain ⟨p, ps, hps⟩ := pieces_ne (lst s)
      rw [this, hps] at hl; simp at hl; omega
    unfold upL; rw [if_pos he]; rfl
  · have h0' : l ≠ 0 := by
      have : ¬ (l : Int) = 0 := by simpa using h0
      omega
    have hne : ¬ (lst s = [] ∨ ¬ good (lst s)) := fun hn => by
      unfold partsL at hl; rw [if_pos hn] at hl; simp at hl; omega
    have e1 : partsL (lst s) = pieces (lst s) := by unfold partsL; rw [if_neg hne]
    obtain ⟨n, rfl⟩ : ∃ n, l = n + 1 := ⟨l - 1, by omega⟩
    obtain ⟨hc, b, rfl⟩ := OwnAt.nonnil o
    have ew : IntKind.i64.wrap (((n + 1 : Nat) : Int) - 1) = ((n : Nat) : Int) := by rw [i64_lt _ (by omega) (by omega)]; omega
    unfold F39_k1
    rw [ew]
    refine ⟨by omega, by omega, by omega, ?_⟩
    rw [cut0, Int.toNat_natCast, Nat.sub_zero, Nat.sub_zero]
    have os := OwnAt.shrink o
    rw [vals, ← List.map_dropLast] at os
    refine HEnt.use (text_ok _ n c (partsL (lst s)).dropLast h1 os (fun p hpm => hp.1 p (List.dropLast_subset _ hpm)) (by omega)) ?_
    rintro _ _ ⟨rfl, rfl⟩
    refine ⟨_, rfl, ?_, o.ext⟩
    unfold upL; rw [if_neg hne, e1]; rfl

end Go.Proofs.YtcfegbpoailbdaaDoor
