import Derived.Test.YtpehbcfoddggoaaDoorTrailG

namespace Go.Proofs.YtpehbcfoddggoaaDoor
open Go.Vc Go.Sha Go.Trail Go.RowKit
set_option linter.unusedVariables false

/-- the signs of a part -/
def signsB : ByteArray := ⟨#[97, 98, 99, 100, 101, 102, 103, 104, 105, 106, 107, 108, 109, 110, 111, 112, 113, 114, 115, 116, 117, 118, 119, 120, 121, 122, 48, 49, 50, 51, 52, 53, 54, 55, 56, 57, 95, 45, 46]⟩
theorem signs_len : (lst signsB).length = 39 := rfl
theorem signs_ok : ∀ c, c < 256 → (lst signsB).any (fun x => decide (x = c)) = decide (okP c) := by decide +kernel
theorem any_take_succ (l : List Nat) (p : Nat → Bool) (k : Nat) (hk : k < l.length) : (l.take (k + 1)).any p = ((l.take k).any p || p (l.getD k 0)) := by
  rw [take_succ_getD _ _ hk, List.any_append]; simp
theorem lst_get_lt (s : ByteArray) (k : Nat) (hk : k < s.size) : (lst s).getD k 0 < 256 := by
  rw [List.getD_eq_getElem?_getD, List.getElem?_eq_getElem (by rw [lst_len]; exact hk)]
  exact lst_lt s _ (List.getElem_mem _)

theorem refPart_ok (s : ByteArray) (hs : s.size < 2 ^ 40) (h : Heap) : HEnt Tryd.prog 31 #[.string s] h fun v h' => v = .bool (decide (partP (lst s))) ∧ h' = h := by
  refine F31_ent _ _ _ ?_
  have ls := lst_len s
  unfold F31
  rintro _ rfl
  refine ⟨fun x h' => ∃ k : Nat, x = k ∧ k ≤ s.size ∧ (∀ c ∈ (lst s).take k, okP c) ∧ h' = h, fun x _ => (s.size - x).toNat, ⟨0, rfl, by omega, by simp, rfl⟩, ?_⟩
  rintro h1 _ ⟨k, rfl, hk, hok, rfl⟩
  unfold F31_b1
  refine br_of (fun ht => ?_) (fun hf => ?_)
  · have hk' : k < s.size := by
      have : (k : Int) < (s.size : Int) := by simpa using ht
      omega
    have hc := lst_get_lt s k hk'
    unfold F31_k2
    rintro _ rfl
    refine ⟨fun b x h' => ∃ j : Nat, x = j ∧ j ≤ 39 ∧ b = ((lst signsB).take j).any (fun x => decide (x = (lst s).getD k 0)) ∧ h' = h1, fun _ x _ => (39 - x).toNat, ⟨0, rfl, by omega, rfl, rfl⟩, ?_⟩
    rintro h2 b _ ⟨j, rfl, hj, hb, rfl⟩
    unfold F31_b3
    refine br_of (fun hjt => ?_) (fun hjf => ?_)
    · have hj' : j < 39 := by
        have : (j : Int) < 39 := by simpa using hjt
        omega
      have e1 : IntKind.i64.wrap ((j : Int) + 1) = ((j + 1 : Nat) : Int) := by rw [i64_lt _ (by omega) (by omega)]; omega
      have hn := any_take_succ (lst signsB) (fun x => decide (x = (lst s).getD k 0)) j (by rw [signs_len]; exact hj')
      unfold F31_k4
      refine br_of (fun hbt => ?_) (fun hbf => ?_)
      · intro h3 hcl; obtain rfl := hcl.eq
        unfold F31_k5
        rintro _ rfl
        rw [e1]
        exact ⟨⟨j + 1, rfl, by omega, by rw [hn, ← hb, hbt]; rfl, rfl⟩, by show ((39 : Int) - ((j + 1 : Nat) : Int)).toNat < ((39 : Int) - (j : Int)).toNat; omega⟩
      · refine ⟨by omega, by show (j : Int) < 39; omega, by omega, by omega, ?_⟩
        intro h3 hcl; obtain rfl := hcl.eq
        unfold F31_k5
        rintro _ rfl
        rw [e1]
        refine ⟨⟨j + 1, rfl, by omega, ?_, rfl⟩, by show ((39 : Int) - ((j + 1 : Nat) : Int)).toNat < ((39 : Int) - (j : Int)).toNat; omega⟩
        rw [hn, ← hb, hbf, Bool.false_or]
        show (bt signsB (j : Int) == bt s (k : Int)) = _
        rw [bt_lst, bt_lst, Bool.eq_iff_iff]
        simp only [beq_iff_eq, decide_eq_true_eq]
        omega
    · have hj' : j = 39 := by
        have : ¬ (j : Int) < 39 := by simpa using hjf
        omega
      subst hj'
      rw [List.take_of_length_le (by rw [signs_len]; omega), signs_ok _ hc] at hb
      unfold F31_k6
      refine br_of (fun hbt => ⟨?_, rfl⟩) (fun hbf => ?_)
      · have hno : ¬ okP ((lst s).getD k 0) := by
          intro ho; rw [hb, decide_eq_true ho] at hbt; cases hbt
        have hmem : (lst s).getD k 0 ∈ lst s := by
          rw [List.getD_eq_getElem?_getD, List.getElem?_eq_getElem (by omega)]; exact List.getElem_mem _
        rw [decide_eq_false fun hp => hno (hp.2.2.2.2 _ hmem)]
      · have ho : okP ((lst s).getD k 0) := by
          rw [hb] at hbf
          by_cases ho : okP ((lst s).getD k 0)
          · exact ho
          · rw [decide_eq_false ho] at hbf; cases hbf
        unfold F31_k7
        rintro _ rfl
        have e1 : IntKind.i64.wrap ((k : Int) + 1) = ((k + 1 : Nat) : Int) := by rw [i64_lt _ (by omega) (by omega)]; omega
        rw [e1]
        refine ⟨⟨k + 1, rfl, by omega, ?_, rfl⟩, by show ((s.size : Int) - ((k + 1 : Nat) : Int)).toNat < ((s.size : Int) - (k : Int)).toNat; omega⟩
        rw [take_succ_getD _ _ (by omega)]
        intro c hc
        rcases List.mem_append.1 hc with hc | hc
        · exact hok c hc
        · rw [List.mem_singleton] at hc; rw [hc]; exact ho
  · have hk' : k = s.size := by
      have : ¬ (k : Int) < (s.size : Int) := by simpa using hf
      omega
    rw [List.take_of_length_le (by omega)] at hok
    unfold F31_k8
    rw [seq_lst, seq_lst, lst_dot, lst_dots]
    have no : ¬ partP (lst s) → Value.bool false = Value.bool (decide (partP (lst s))) := fun hn => by rw [decide_eq_false hn]
    refine br_of (fun h0 => ?_) (fun h0 => ⟨no fun hp => ?_, rfl⟩)
    · have h0' : (s.size : Int) ≥ 1 := by simpa using h0
      refine br_of (fun h1' => ?_) (fun h1' => ⟨no fun hp => ?_, rfl⟩)
      · have h2' : (s.size : Int) ≤ 24 := by simpa using h1'
        refine br_of (fun h3 => ⟨?_, rfl⟩) (fun h3 => ⟨no fun hp => ?_, rfl⟩)
        · have h3' : lst s ≠ [46] := by simpa using h3
          congr 1
          rw [Bool.eq_iff_iff]
          simp only [Bool.not_eq_true', decide_eq_false_iff_not, decide_eq_true_eq]
          refine ⟨fun h4 => ⟨fun e => ?_, by omega, h3', h4, hok⟩, fun hp => hp.2.2.2.1⟩
          rw [e] at ls; simp at ls; omega
        · have : lst s = [46] := by simpa using h3
          exact hp.2.2.1 this
      · have : ¬ (s.size : Int) ≤ 24 := by simpa using h1'
        have := hp.2.1; omega
    · have : ¬ (s.size : Int) ≥ 1 := by simpa using h0
      exact hp.1 (List.eq_nil_of_length_eq_zero (by omega))

theorem joinT_snoc : ∀ (xs : List (List Nat)) (y : List Nat), joinT (xs ++ [y]) = if xs = [] then y else joinT xs ++ 47 :: y
  | [], y => rfl
  | [x], y => rfl
  | x :: z :: r, y => by
    have ih := joinT_snoc (z :: r) y
    rw [if_neg (by simp)] at ih ⊢
    show x ++ 47 :: joinT ((z :: r) ++ [y]) = (x ++ 47 :: joinT (z :: r)) ++ 47 :: y
    rw [ih]; simp
theorem str_app (x y : List Nat) : str x ++ str y = str (x ++ y) := by
  apply ByteArray.ext; simp [str]
theorem takeP_succ (ps : List (List Nat)) (k : Nat) (hk : k < ps.length) : ps.take (k + 1) = ps.take k ++ [ps.getD k []] := by
  rw [List.take_succ_eq_append_getElem hk, List.getD_eq_getElem?_getD, List.getElem?_eq_getElem hk]; rfl
theorem str_nil : str [] = (⟨#[]⟩ : ByteArray) := rfl

theorem text_ok {h0 : Heap} (a : Option Addr) (l c : Nat) (ps : List (List Nat)) (h : Heap) (o : OwnAt 9 h0 h a l c (vals ps)) (hp : ∀ p ∈ ps, partP p) (hl : l < 2 ^ 40) :
    HEnt Tryd.prog 32 #[.slice a l c] h fun v h' => v = .string (str (joinT ps)) ∧ h' = h := by
  refine F32_ent _ _ _ _ _ ?_
  have hol := o.len
  rw [vals_len] at hol
  unfold F32
  rintro _ rfl _ rfl
  refine ⟨fun s x h' => ∃ k : Nat, x = k ∧ k ≤ l ∧ s = str (joinT (ps.take k)) ∧ h' = h, fun _ x _ => (l - x).toNat, ⟨0, rfl, by omega, rfl, rfl⟩, ?_⟩
  rintro h1 _ _ ⟨k, rfl, hk, rfl, rfl⟩
  unfold F32_b1
  refine br_of (fun ht => ?_) (fun hf => ?_)
  · have hk' : k < ps.length := by
      have : (k : Int) < (l : Int) := by simpa using ht
      omega
    have hlen := joinT_len (ps.take k) fun p hpm => (hp p (List.mem_of_mem_take hpm)).2.1
    rw [List.length_take] at hlen
    obtain ⟨b, rfl, _, hc⟩ := o.cell (vals_get hk')
    have hx := hp _ (getD_mem hk')
    have e1 : IntKind.i64.wrap ((k : Int) + 1) = ((k + 1 : Nat) : Int) := by rw [i64_lt _ (by omega) (by omega)]; omega
    have step : ∀ t : List Nat, t ++ ps.getD k [] = joinT (ps.take (k + 1)) → t.length ≤ 2 ^ 50 → F32_k3 (fun s x h' => ∃ k : Nat, x = k ∧ k ≤ l ∧ s = str (joinT (ps.take k)) ∧ h' = h1) (fun _ x _ => (l - x).toNat) (((l : Int) - (k : Int)).toNat) (some ⟨b, 0, none⟩) l c (str t) (k : Int) h1 fun v h' => v = .string (str (joinT ps)) ∧ h' = h1 := by
      intro t he htl
      unfold F32_k3
      refine ⟨_, rfl, by omega, by omega, _, by rw [Int.toNat_natCast, Nat.mul_one, add_mk, Nat.zero_add]; exact hc, ?_, ?_⟩
      · rw [str_size, str_size]; have := hx.2.1; omega
      · rintro _ rfl
        unfold F32_k4
        rintro _ rfl
        rw [e1, str_app, he]
        exact ⟨⟨k + 1, rfl, by omega, rfl, rfl⟩, by show ((l : Int) - ((k + 1 : Nat) : Int)).toNat < ((l : Int) - (k : Int)).toNat; omega⟩
    unfold F32_k2
    refine br_of (fun hpos => ?_) (fun hz => ?_)
    · have hpos' : 0 < k := by
        have : (k : Int) > 0 := by simpa using hpos
        omega
      refine ⟨?_, ?_⟩
      · rw [str_size]; show _ + 1 ≤ _; omega
      · rintro _ rfl
        rw [show (⟨#[47]⟩ : ByteArray) = str [47] from rfl, str_app]
        refine step _ ?_ (by rw [List.length_append]; simp; omega)
        rw [takeP_succ ps k hk', joinT_snoc, if_neg (fun e => ?_)]
        · simp
        · have := congrArg List.length e
          rw [List.length_take, List.length_nil] at this; omega
    · have hz' : k = 0 := by
        have : ¬ (k : Int) > 0 := by simpa using hz
        omega
      subst hz'
      refine step _ ?_ (by simp [joinT])
      rw [takeP_succ ps 0 hk', joinT_snoc]; simp [joinT]
  · have hk' : k = l := by
      have : ¬ (k : Int) < (l : Int) := by simpa using hf
      omega
    unfold F32_k5
    rw [List.take_of_length_le (by omega)]
    exact ⟨rfl, rfl⟩
end Go.Proofs.YtpehbcfoddggoaaDoor
