import Derived.Test.YtpnbbgcaaogpdaaDoorManK
import Derived.Test.YtpnbbgcaaogpdaaDoorVmpG

namespace Go.Proofs.YtpnbbgcaaogpdaaDoor
open Go.Vc Go.Sha Go.Trail Go.RowKit Go.Man
set_option linter.unusedVariables false
set_option maxRecDepth 4000
/-- ReadVar from the i-th byte on: the number, how many bytes, what is wrong -/
def rv (bs : List Nat) : Nat → Nat → Nat → Nat × Nat × Nat
  | 0, _, _ => (0, 0, 5)
  | f + 1, i, v => if bs.length ≤ i then (0, 0, 4) else if i = 9 ∧ bs.getD i 0 > 1 then (0, 0, 5)
    else if bs.getD i 0 < 128 then (if bs.getD i 0 = 0 ∧ 0 < i then (0, 0, 5) else (v + bs.getD i 0 % 128 * 128 ^ i, i + 1, 0))
    else rv bs f (i + 1) (v + bs.getD i 0 % 128 * 128 ^ i)
def readVar (bs : List Nat) : Nat × Nat × Nat := rv bs 10 0 0
def rows8 (bs : List Nat) : List (List Value) := bs.map fun n => [u8 n]
theorem rows8_len (bs : List Nat) : (rows8 bs).length = bs.length := by simp [rows8]
theorem tab8_get {h : Heap} {a : Option Addr} {l c : Nat} {bs : List Nat} (w : Tab 1 h a l c (rows8 bs)) {i : Nat} (hi : i < bs.length) :
    ∃ q, a = some q ∧ i < l ∧ Vc.cell h (q.add (i * 1)) = some (.int .u8 (bs.getD i 0 : Nat)) := by
  obtain ⟨q, e, h1, h2⟩ := w.get (i := i) (r := [u8 (bs.getD i 0)]) (by rw [rows8, List.getElem?_map, List.getElem?_eq_getElem hi, List.getD_eq_getElem?_getD, List.getElem?_eq_getElem hi]; rfl)
  refine ⟨q, e, h1, ?_⟩
  have := h2 0 _ rfl
  obtain ⟨b, o, s⟩ := q
  simpa [Addr.add, u8] using this
theorem and127 : ∀ m : Nat, m < 256 → m &&& 127 = m % 128 := by decide +kernel
theorem andI127 (m : Nat) (h : m < 256) : andI .u8 (m : Int) 127 = ((m % 128 : Nat) : Int) := by
  have e : (BitVec.ofInt 8 (m : Int) &&& BitVec.ofInt 8 (127 : Int)).toNat = m &&& 127 := by
    rw [BitVec.ofInt_natCast, BitVec.toNat_and, BitVec.toNat_ofNat, Nat.mod_eq_of_lt (show m < 2 ^ 8 by omega)]
    rfl
  show IntKind.u8.wrap ((BitVec.ofInt 8 (m : Int) &&& BitVec.ofInt 8 (127 : Int)).toNat : Int) = _
  rw [e, and127 m h, u8_wrap, Nat.mod_eq_of_lt (by omega)]
theorem or64 (a b : Nat) (ha : a < 2 ^ 64) (hb : b < 2 ^ 64) : orI .u64 (a : Int) b = ((a ||| b : Nat) : Int) := by
  have : a ||| b < 2 ^ 64 := Nat.or_lt_two_pow ha hb
  have e : (BitVec.ofInt 64 (a : Int) ||| BitVec.ofInt 64 (b : Int)).toNat = a ||| b := by
    rw [BitVec.ofInt_natCast, BitVec.ofInt_natCast, BitVec.toNat_or, BitVec.toNat_ofNat, BitVec.toNat_ofNat, Nat.mod_eq_of_lt ha, Nat.mod_eq_of_lt hb]
  show IntKind.u64.wrap ((BitVec.ofInt 64 (a : Int) ||| BitVec.ofInt 64 (b : Int)).toNat : Int) = _
  rw [e]; exact u64_lt _ (by omega) (by omega)
theorem pow128 (i : Nat) : 128 ^ i = 2 ^ (7 * i) := by rw [Nat.pow_mul]
/-- a round's number -/
theorem round_num (v i c : Nat) (hi : i ≤ 9) (hv : v < 128 ^ i) (hc : c < 256) (h9 : i = 9 → c ≤ 1) :
    orI .u64 (v : Int) (shlI .u64 (IntKind.u64.wrap (andI .u8 (c : Int) 127)) (IntKind.u64.wrap (7 * (IntKind.u64.wrap (i : Int))))) = ((v + c % 128 * 128 ^ i : Nat) : Int) := by
  have hp : c % 128 * 128 ^ i < 2 ^ 64 := by
    by_cases e : i = 9
    · subst e
      have := h9 rfl
      have : c % 128 ≤ 1 := by omega
      calc c % 128 * 128 ^ 9 ≤ 1 * 128 ^ 9 := Nat.mul_le_mul_right _ this
        _ < 2 ^ 64 := by decide
    · have h8 : 128 ^ i ≤ 128 ^ 8 := Nat.pow_le_pow_right (by decide) (by omega)
      have h127 : c % 128 ≤ 127 := by omega
      calc c % 128 * 128 ^ i ≤ 127 * 128 ^ 8 := Nat.mul_le_mul h127 h8
        _ < 2 ^ 64 := by decide
  have hv2 : v < 2 ^ 64 := Nat.lt_of_lt_of_le hv (Nat.le_trans (Nat.pow_le_pow_right (by decide) hi) (by decide))
  rw [andI127 c hc, u64_lt _ (by omega) (by omega), u64_lt (i : Int) (by omega) (by omega), u64_lt (7 * (i : Int)) (by omega) (by omega)]
  have es : shlI .u64 ((c % 128 : Nat) : Int) (7 * (i : Int)) = ((c % 128 * 128 ^ i : Nat) : Int) := by
    unfold shlI
    rw [show min ((7 * (i : Int)).toNat) IntKind.u64.bits = 7 * i from by simp [IntKind.bits]; omega]
    have : ((c % 128 : Nat) : Int) * 2 ^ (7 * i) = ((c % 128 * 128 ^ i : Nat) : Int) := by rw [pow128]; simp
    rw [this]
    exact u64_lt _ (by omega) (by omega)
  rw [es, or64 _ _ hv2 hp]
  congr 1
  rw [pow128] at hv ⊢
  have := Nat.two_pow_add_eq_or_of_lt (i := 7 * i) (b := v) hv (c % 128)
  rw [Nat.mul_comm (c % 128), Nat.or_comm, ← this, Nat.add_comm]
theorem rv_zero : ∀ (f : Nat) (bs : List Nat) (i v : Nat), f + i = 10 → (∀ x ∈ bs, x < 256) → v < 128 ^ i →
    ∀ r, r = rv bs f i v → r.2.2 = 0 → bs.drop i = (varF f (r.1 / 128 ^ i)) ++ bs.drop r.2.1 ∧ r.1 % 128 ^ i = v ∧ r.1 < 2 ^ 64 ∧ r.2.1 ≤ bs.length ∧ i < r.2.1 ∧ (0 < i → r.1 / 128 ^ i ≠ 0)
  | 0, bs, i, v, hf, hb, hv, r, hr, h0 => by subst hr; cases h0
  | f + 1, bs, i, v, hf, hb, hv, r, hr, h0 => by
    have hpos : 0 < 128 ^ i := Nat.pow_pos (by decide)
    unfold rv at hr
    by_cases h1 : bs.length ≤ i
    · rw [if_pos h1] at hr; subst hr; cases h0
    rw [if_neg h1] at hr
    by_cases h2 : i = 9 ∧ bs.getD i 0 > 1
    · rw [if_pos h2] at hr; subst hr; cases h0
    rw [if_neg h2] at hr
    have hd : bs.drop i = bs.getD i 0 :: bs.drop (i + 1) := by
      rw [List.drop_eq_getElem_cons (by omega), List.getD_eq_getElem?_getD, List.getElem?_eq_getElem (by omega)]; rfl
    have hlt : bs.getD i 0 < 256 := by
      rw [List.getD_eq_getElem?_getD, List.getElem?_eq_getElem (by omega)]
      exact hb _ (List.getElem_mem _)
    generalize bs.getD i 0 = c at *
    by_cases h3 : c < 128
    · rw [if_pos h3] at hr
      by_cases h4 : c = 0 ∧ 0 < i
      · rw [if_pos h4] at hr; subst hr; cases h0
      rw [if_neg h4] at hr
      subst hr
      have e1 : c % 128 = c := Nat.mod_eq_of_lt h3
      have e2 : (v + c * 128 ^ i) / 128 ^ i = c := by
        rw [Nat.add_mul_div_right _ _ hpos, Nat.div_eq_of_lt hv, Nat.zero_add]
      simp only [e1, e2]
      refine ⟨?_, ?_, ?_, by omega, by omega, fun hi hc => h4 ⟨hc, hi⟩⟩
      · rw [hd]; unfold varF; rw [if_pos h3]; rfl
      · rw [Nat.add_mul_mod_self_right, Nat.mod_eq_of_lt hv]
      · by_cases e : i = 9
        · subst e
          have hc1 : c ≤ 1 := by omega
          have : c * 128 ^ 9 ≤ 1 * 128 ^ 9 := Nat.mul_le_mul_right _ hc1
          have : (128 : Nat) ^ 9 = 2 ^ 63 := by decide
          omega
        · have h8 : 128 ^ i ≤ 128 ^ 8 := Nat.pow_le_pow_right (by decide) (by omega)
          have : c * 128 ^ i ≤ 127 * 128 ^ 8 := Nat.mul_le_mul (by omega) h8
          have : v < 128 ^ 8 := Nat.lt_of_lt_of_le hv h8
          have : (128 : Nat) ^ 8 = 2 ^ 56 := by decide
          omega
    · rw [if_neg h3] at hr
      have hi9 : i ≠ 9 := fun e => h2 ⟨e, by omega⟩
      have hv' : v + c % 128 * 128 ^ i < 128 ^ (i + 1) := by
        have : c % 128 * 128 ^ i ≤ 127 * 128 ^ i := Nat.mul_le_mul_right _ (by omega)
        rw [Nat.pow_succ]; omega
      obtain ⟨g1, g2, g3, g4, g5, g6⟩ := rv_zero f bs (i + 1) _ (by omega) hb hv' r hr h0
      have g6' := g6 (by omega)
      have hdiv : r.1 / 128 ^ i / 128 = r.1 / 128 ^ (i + 1) := by rw [Nat.div_div_eq_div_mul, Nat.pow_succ]
      have hmod : r.1 / 128 ^ i % 128 = c % 128 := by
        have e1 : r.1 % 128 ^ (i + 1) = v + c % 128 * 128 ^ i := g2
        have e2 : r.1 % (128 ^ i * 128) / 128 ^ i = r.1 / 128 ^ i % 128 := Nat.mod_mul_right_div_self r.1 (128 ^ i) 128
        rw [← e2, ← Nat.pow_succ, e1, Nat.add_mul_div_right _ _ hpos, Nat.div_eq_of_lt hv, Nat.zero_add]
      refine ⟨?_, ?_, g3, g4, by omega, fun _ e => ?_⟩
      · rw [hd, g1]
        conv => rhs; unfold varF
        have hge : ¬ r.1 / 128 ^ i < 128 := by
          intro e
          apply g6'
          rw [← hdiv, Nat.div_eq_of_lt e]
        rw [if_neg hge, hdiv, hmod]
        have : c % 128 + 128 = c := by omega
        rw [this]; rfl
      · have e2 : r.1 % 128 ^ (i + 1) % 128 ^ i = r.1 % 128 ^ i := by rw [Nat.pow_succ]; exact Nat.mod_mul_right_mod r.1 (128 ^ i) 128
        rw [← e2, g2, Nat.add_mul_mod_self_right, Nat.mod_eq_of_lt hv]
      · apply g6'
        rw [← hdiv, e]
theorem rv_back : ∀ (f : Nat) (bs rest : List Nat) (i v m : Nat), f + i = 10 → bs.drop i = varF f m ++ rest → i ≤ bs.length → m * 128 ^ i + v < 2 ^ 64 → (0 < i → m ≠ 0) → v < 128 ^ i →
    rv bs f i v = (m * 128 ^ i + v, i + (varF f m).length, 0)
  | 0, bs, rest, i, v, m, hf, hd, hl, hm, h0, hv => by
    exfalso
    have : i = 10 := by omega
    subst this
    have h1 : 1 ≤ m := Nat.pos_of_ne_zero (h0 (by omega))
    have : 1 * 128 ^ 10 ≤ m * 128 ^ 10 := Nat.mul_le_mul_right _ h1
    have : (2 : Nat) ^ 64 < 128 ^ 10 := by decide
    omega
  | f + 1, bs, rest, i, v, m, hf, hd, hl, hm, h0, hv => by
    have hpos : 0 < 128 ^ i := Nat.pow_pos (by decide)
    have hne : varF (f + 1) m ≠ [] := fun e => by have := varF_pos (f + 1) m; rw [e] at this; simp at this
    have hlt : i < bs.length := by
      refine Nat.lt_of_not_le fun e => hne ?_
      rw [List.drop_eq_nil_of_le e] at hd
      exact (List.append_eq_nil_iff.1 hd.symm).1
    have hdc : bs.drop i = bs.getD i 0 :: bs.drop (i + 1) := by
      rw [List.drop_eq_getElem_cons hlt, List.getD_eq_getElem?_getD, List.getElem?_eq_getElem hlt]; rfl
    rw [hdc] at hd
    unfold rv
    rw [if_neg (by omega)]
    unfold varF at hd ⊢
    by_cases h3 : m < 128
    · rw [if_pos h3] at hd ⊢
      obtain ⟨e1, e2⟩ := List.cons.inj hd
      rw [e1, if_neg, if_pos h3, if_neg, Nat.mod_eq_of_lt h3, Nat.add_comm]
      · rfl
      · rintro ⟨g1, g2⟩; exact h0 g2 g1
      · rintro ⟨g1, g2⟩
        subst g1
        have : 2 * 128 ^ 9 ≤ m * 128 ^ 9 := Nat.mul_le_mul_right _ g2
        have : (2 : Nat) ^ 64 = 2 * 128 ^ 9 := by decide
        omega
    · rw [if_neg h3] at hd ⊢
      obtain ⟨e1, e2⟩ := List.cons.inj hd
      have hi9 : i ≠ 9 := fun e => by
        subst e
        have : 128 * 128 ^ 9 ≤ m * 128 ^ 9 := Nat.mul_le_mul_right _ (by omega)
        have : (2 : Nat) ^ 64 < 128 * 128 ^ 9 := by decide
        omega
      rw [e1, if_neg (fun g => hi9 g.1), if_neg (by omega)]
      have hmm : (m % 128 + 128) % 128 = m % 128 := by omega
      rw [hmm]
      have hv' : v + m % 128 * 128 ^ i < 128 ^ (i + 1) := by
        have : m % 128 * 128 ^ i ≤ 127 * 128 ^ i := Nat.mul_le_mul_right _ (by omega)
        rw [Nat.pow_succ]; omega
      have hsum : m / 128 * 128 ^ (i + 1) + (v + m % 128 * 128 ^ i) = m * 128 ^ i + v := by
        have : m = m / 128 * 128 + m % 128 := by omega
        calc m / 128 * 128 ^ (i + 1) + (v + m % 128 * 128 ^ i) = (m / 128 * 128 + m % 128) * 128 ^ i + v := by
              rw [Nat.pow_succ, Nat.add_mul, Nat.mul_assoc, Nat.mul_comm 128 (128 ^ i)]; omega
          _ = m * 128 ^ i + v := by rw [← this]
      rw [rv_back f bs rest (i + 1) (v + m % 128 * 128 ^ i) (m / 128) (by omega) e2 (by omega) (by rw [hsum]; exact hm) (fun _ => by omega) hv', hsum]
      simp only [List.length_cons]
      rw [Nat.add_right_comm, Nat.add_assoc]
/-- what is read has just these bytes -/
theorem readVar_only {bs : List Nat} (hb : ∀ x ∈ bs, x < 256) (h0 : (readVar bs).2.2 = 0) : bs = varB (readVar bs).1 ++ bs.drop (readVar bs).2.1 ∧ (readVar bs).1 < 2 ^ 64 ∧ (readVar bs).2.1 ≤ bs.length := by
  obtain ⟨g1, _, g3, g4, _, _⟩ := rv_zero 10 bs 0 0 rfl hb (by decide) _ rfl h0
  rw [Nat.pow_zero, Nat.div_one, List.drop_zero] at g1
  exact ⟨g1, g3, g4⟩
theorem readVar_back (m : Nat) (hm : m < 2 ^ 64) (rest : List Nat) : readVar (varB m ++ rest) = (m, (varB m).length, 0) := by
  have := rv_back 10 (varB m ++ rest) rest 0 0 m rfl rfl (Nat.zero_le _) (by omega) (by omega) (by decide)
  simpa [readVar, varB] using this
theorem rv_bound (bs : List Nat) : ∀ f i v, (rv bs f i v).2.1 ≤ bs.length
  | 0, _, _ => Nat.zero_le _
  | f + 1, i, v => by
    unfold rv
    repeat' split
    all_goals first | exact Nat.zero_le _ | exact rv_bound bs f _ _ | skip
    show i + 1 ≤ bs.length
    omega
theorem readVar_ok (a : Option Addr) (l c : Nat) (bs : List Nat) (h : Heap) (w : Tab 1 h a l c (rows8 bs)) (hb : ∀ x ∈ bs, x < 256) (hl : l < 2 ^ 40) :
    HEnt Tryd.prog 51 #[.slice a l c] h fun v h' => v = .tuple #[.int .u64 (readVar bs).1, .int .i64 (readVar bs).2.1, .int .i64 (readVar bs).2.2] ∧ h' = h := by
  have hlen : bs.length = l := by have := w.len; rwa [rows8_len] at this
  refine F51_ent _ _ _ _ _ ?_
  unfold F51
  rintro _ rfl
  refine ⟨fun x j hh => ∃ i v : Nat, x = v ∧ j = i ∧ i ≤ 10 ∧ v < 128 ^ i ∧ hh = h ∧ readVar bs = rv bs (10 - i) i v, fun _ j _ => (10 - j).toNat, ⟨0, 0, rfl, rfl, by omega, by decide, rfl, rfl⟩, ?_⟩
  rintro h1 _ _ ⟨i, v, rfl, rfl, hi, hv, rfl, hr⟩
  unfold F51_b1
  refine br_of (fun g => ?_) (fun g => ?_)
  case refine_2 =>
    have : i = 10 := by simp at g; omega
    subst this
    unfold F51_k9
    exact ⟨by rw [hr]; rfl, rfl⟩
  have hi' : i < 10 := by simp at g; omega
  rw [show 10 - i = (9 - i) + 1 by omega] at hr
  unfold rv at hr
  unfold F51_k2
  refine br_of (fun g2 => ?_) (fun g2 => ?_)
  · have g2' : bs.length ≤ i := by simp at g2; omega
    rw [if_pos g2'] at hr
    exact ⟨by rw [hr]; rfl, rfl⟩
  have g2' : ¬ bs.length ≤ i := by simp at g2; omega
  rw [if_neg g2'] at hr
  obtain ⟨q, eq, _, hc⟩ := tab8_get w (i := i) (by omega)
  have hlt : bs.getD i 0 < 256 := by
    rw [List.getD_eq_getElem?_getD, List.getElem?_eq_getElem (by omega)]
    exact hb _ (List.getElem_mem _)
  unfold F51_k3
  refine ⟨q, eq, by omega, by omega, _, by rw [Int.toNat_natCast]; exact hc, ?_⟩
  have k4 : ∀ bb : Bool, (bb = true ↔ i = 9 ∧ bs.getD i 0 > 1) → F51_k4 (fun x j hh => ∃ i v : Nat, x = v ∧ j = i ∧ i ≤ 10 ∧ v < 128 ^ i ∧ hh = h1 ∧ readVar bs = rv bs (10 - i) i v) (fun _ j _ => (10 - j).toNat) ((10 : Int) - (i : Int)).toNat a l c v i (bs.getD i 0 : Nat) i bb h1 fun v h' => v = .tuple #[.int .u64 (readVar bs).1, .int .i64 (readVar bs).2.1, .int .i64 (readVar bs).2.2] ∧ h' = h1 := by
    intro bb hbb
    unfold F51_k4
    refine br_of (fun g3 => ?_) (fun g3 => ?_)
    · rw [if_pos (hbb.1 g3)] at hr
      exact ⟨by rw [hr]; rfl, rfl⟩
    have g3' : ¬ (i = 9 ∧ bs.getD i 0 > 1) := fun e => by rw [hbb.2 e] at g3; cases g3
    rw [if_neg g3'] at hr
    unfold F51_k5
    refine ⟨?_, ?_⟩
    · rw [u64_lt (i : Int) (by omega) (by omega), u64_lt (7 * (i : Int)) (by omega) (by omega)]; omega
    rw [round_num v i _ (by omega) hv hlt (fun e => by omega)]
    rintro _ rfl
    have hv' : v + bs.getD i 0 % 128 * 128 ^ i < 128 ^ (i + 1) := by
      have : bs.getD i 0 % 128 * 128 ^ i ≤ 127 * 128 ^ i := Nat.mul_le_mul_right _ (by omega)
      rw [Nat.pow_succ]; omega
    generalize bs.getD i 0 = cc at *
    generalize v + cc % 128 * 128 ^ i = y at *
    have k6 : ∀ b6 : Bool, (b6 = true ↔ cc = 0 ∧ 0 < i) → cc < 128 → F51_k6 (fun x j hh => ∃ i v : Nat, x = v ∧ j = i ∧ i ≤ 10 ∧ v < 128 ^ i ∧ hh = h1 ∧ readVar bs = rv bs (10 - i) i v) (fun _ j _ => (10 - j).toNat) ((10 : Int) - (i : Int)).toNat (y : Int) i b6 h1 fun v h' => v = .tuple #[.int .u64 (readVar bs).1, .int .i64 (readVar bs).2.1, .int .i64 (readVar bs).2.2] ∧ h' = h1 := by
      intro b6 hb6 h128
      rw [if_pos h128] at hr
      unfold F51_k6
      refine br_of (fun g5 => ?_) (fun g5 => ?_)
      · rw [if_pos (hb6.1 g5)] at hr
        exact ⟨by rw [hr]; rfl, rfl⟩
      · rw [if_neg (fun e => by rw [hb6.2 e] at g5; cases g5)] at hr
        unfold F51_k7
        rw [i64_lt _ (by omega) (by omega)]
        exact ⟨by rw [hr]; rfl, rfl⟩
    refine br_of (fun g4 => br_of (fun g5 => ?_) (fun g5 => ?_)) (fun g4 => ?_)
    · refine k6 _ ?_ ?_
      · simp at g5; simp; omega
      · simp at g4; omega
    · refine k6 _ ?_ ?_
      · simp at g5; simp; omega
      · simp at g4; omega
    · have g4' : ¬ cc < 128 := by simp at g4; omega
      rw [if_neg g4'] at hr
      unfold F51_k8
      rw [i64_lt _ (by omega) (by omega)]
      exact ⟨⟨i + 1, _, rfl, by omega, by omega, hv', rfl, by rw [hr]; congr 1; omega⟩, by show ((10 : Int) - ((i : Int) + 1)).toNat < ((10 : Int) - i).toNat; omega⟩
  refine br_of (fun g3 => k4 _ ?_) (fun g3 => k4 _ ?_)
  · have g3' : i = 9 := by simp at g3; omega
    simp only [decide_eq_true_eq]; omega
  · have g3' : i ≠ 9 := by simp at g3; omega
    exact ⟨fun e => (by cases e), fun e => absurd e.1 g3'⟩
end Go.Proofs.YtpnbbgcaaogpdaaDoor

namespace Go.Proofs.YtpnbbgcaaogpdaaDoor
open Go.Vc Go.Sha Go.Trail Go.RowKit Go.Man
set_option linter.unusedVariables false
set_option maxRecDepth 4000
theorem tab_drop {n : Nat} {h : Heap} {a : Option Addr} {l c : Nat} {rows : List (List Value)} (w : Tab n h a l c rows) (k : Nat) (hk : k ≤ l) : Tab n h (cutAt c k n a) (l - k) (c - k) (rows.drop k) := by
  have hlen := w.len
  have hcap := w.cap
  refine ⟨by rw [List.length_drop, hlen], by omega, fun r hr => w.row r (List.mem_of_mem_drop hr), fun hne => ?_, fun e => ?_⟩
  · have hlt : k < rows.length := by
      refine Nat.lt_of_not_le fun hle => hne (List.drop_eq_nil_of_le hle)
    obtain ⟨b, o, e, hb, hc⟩ := w.at_ (fun e => by rw [e] at hlt; simp at hlt)
    refine ⟨b, o + k * n, ?_, hb, fun i r hi j v hj => ?_⟩
    · unfold cutAt; rw [if_neg (by omega), e]; simp [add_mk]
    · rw [List.getElem?_drop] at hi
      have := hc (k + i) r hi j v hj
      rw [Nat.add_mul] at this
      rw [← this]; congr 2; omega
  · unfold cutAt at e
    split at e
    · rw [w.nil e]; simp
    · rw [w.nil (by cases a <;> simp_all)]; simp
theorem rows8_flat : ∀ bs : List Nat, (rows8 bs).flatten = bs.map fun n : Nat => Value.int .u8 (n : Int)
  | [] => rfl
  | x :: xs => by
    show [u8 x] ++ (rows8 xs).flatten = _
    rw [rows8_flat xs]; rfl
theorem tab8_cells {h : Heap} {a : Option Addr} {l c : Nat} {bs : List Nat} (w : Tab 1 h a l c (rows8 bs)) (hb : ∀ x ∈ bs, x < 256) : ∀ ad, a = some ad → CellsAt h ad (bytesV (str bs)) := by
  intro ad e
  rw [bytesV_str bs hb]
  have := w.cells ad e
  rw [rows8_flat] at this
  exact this
theorem own_tab8 {h0 h : Heap} {a : Option Addr} {l c : Nat} {bs : List Nat} (o : OwnAt 5 h0 h a l c (bs.map u8)) : Tab 1 h a l c (rows8 bs) := by
  have hl := own_len o
  rcases o.own with ⟨rfl, rfl, rfl, e⟩ | ⟨h1, h2, b, cs, e, _, h4, h5, h6⟩
  · have : bs = [] := by simpa using e
    subst this
    exact Tab.empty _ _ _ _
  · refine ⟨by rw [rows8_len, hl], h2, fun r hr => ?_, fun hne => ⟨b, 0, e, blk_lt h4, fun i r hi j v hj => ?_⟩, fun e2 => by rw [e] at e2; cases e2⟩
    · obtain ⟨n, _, rfl⟩ := List.mem_map.1 hr; rfl
    · rw [rows8, List.getElem?_map] at hi
      obtain ⟨n, hn, rfl⟩ := Option.map_eq_some_iff.1 hi
      have hlt := (List.getElem?_eq_some_iff.1 hn).1
      match j, hj with
      | 0, hj =>
        cases hj
        have : (cs.toList.take l)[i]? = some (u8 n) := by rw [h6, List.getElem?_map, hn]; rfl
        rw [List.getElem?_take, if_pos (by omega)] at this
        rw [cell_blk h4]
        simpa using this
theorem varF_lt : ∀ (f n : Nat), n < 128 ^ (f + 1) → ∀ x ∈ varF f n, x < 256
  | 0, n, h => by intro x hx; simp [varF] at hx; subst hx; simp at h; omega
  | f + 1, n, h => by
    unfold varF
    split
    · intro x hx; simp at hx; omega
    · intro x hx
      rcases List.mem_cons.1 hx with rfl | hx
      · omega
      · exact varF_lt f (n / 128) (by rw [Nat.pow_succ] at h; omega) x hx
theorem varB_lt (n : Nat) (h : n < 2 ^ 60) : ∀ x ∈ varB n, x < 256 := varF_lt 10 n (Nat.lt_of_lt_of_le h (by decide))
theorem getD_lt {bs : List Nat} (hb : ∀ x ∈ bs, x < 256) (i : Nat) : bs.getD i 0 < 256 := by
  rw [List.getD_eq_getElem?_getD]
  by_cases h : i < bs.length
  · rw [List.getElem?_eq_getElem h]; exact hb _ (List.getElem_mem _)
  · rw [List.getElem?_eq_none (by omega)]; exact Nat.zero_lt_succ _
def textB (s : ByteArray) : List Nat := varB s.size ++ lst s
theorem tmodn (m n : Nat) : (m : Int).tmod (n : Int) = ((m % n : Nat) : Int) := rfl
theorem tdivn (m n : Nat) : (m : Int).tdiv (n : Int) = ((m / n : Nat) : Int) := rfl
theorem refVar_ok (n : Nat) (hn : n < 2 ^ 64) (h : Heap) : HEnt Tryd.prog 38 #[.int .u64 n] h fun v h' => ∃ a c, v = .slice a (varB n).length c ∧ OwnAt 5 h h' a (varB n).length c ((varB n).map u8) := by
  refine F38_ent _ _ _ ?_
  unfold F38
  refine ⟨fun x a l c hh => ∃ (f m : Nat) (bs : List Nat), x = m ∧ 1 ≤ f ∧ f ≤ 10 ∧ m < 128 ^ f ∧ m < 2 ^ 64 ∧ bs.length = 10 - f ∧ bs ++ varF f m = varB n ∧ OwnAt 5 h hh a l c (bs.map u8), fun x _ _ _ _ => x.toNat, ⟨10, n, [], rfl, by omega, by omega, Nat.lt_of_lt_of_le hn (by decide), hn, rfl, rfl, OwnAt.nil 5 (Ext.refl h)⟩, ?_⟩
  rintro h1 _ a l c ⟨f, m, bs, rfl, hf, hf2, hm, hm64, hbl, hb, o⟩
  have hol := o.len
  rw [List.length_map] at hol
  obtain ⟨f, rfl⟩ : ∃ g, f = g + 1 := ⟨f - 1, by omega⟩
  unfold F38_b1
  refine br_of (fun g => ?_) (fun g => ?_)
  · have hm' : 128 ≤ m := by simp at g; omega
    have hf' : 1 ≤ f := by
      refine Nat.pos_of_ne_zero fun e => ?_
      subst e; simp at hm; omega
    unfold F38_k2
    have e1 : (IntKind.u8.wrap (IntKind.u64.wrap ((m : Int).tmod 128 + 128)) : Int) = ((m % 128 + 128 : Nat) : Int) := by
      have : (m : Int).tmod 128 = ((m % 128 : Nat) : Int) := tmodn m 128
      rw [this, u64_lt _ (by omega) (by omega)]
      have : (((m % 128 : Nat) : Int) + 128) = ((m % 128 + 128 : Nat) : Int) := by omega
      rw [this, u8_wrap, Nat.mod_eq_of_lt (by omega)]
    have e2 : (IntKind.u64.wrap ((m : Int).tdiv 128) : Int) = ((m / 128 : Nat) : Int) := by
      have : (m : Int).tdiv 128 = ((m / 128 : Nat) : Int) := tdivn m 128
      rw [this, u64_lt _ (by omega) (by omega)]
    rw [e1, e2]
    refine ⟨by decide, by decide, newK_intro fun h2 n2 x2 _ => ?_⟩
    refine app5 (m := 1) (new := [m % 128 + 128]) (o.grow x2) (srcK_slice rfl (fun ad e => by cases e; exact cells_blk0 n2) (by rintro ⟨⟩)) rfl (by omega) fun a' c' h3 o3 _ _ => ⟨by decide, ?_⟩
    rintro _ rfl
    refine ⟨⟨f, m / 128, bs ++ [m % 128 + 128], rfl, hf', by omega, ?_, by omega, by simp; omega, ?_, o3⟩, by show ((m / 128 : Nat) : Int).toNat < (m : Int).toNat; omega⟩
    · rw [Nat.pow_succ] at hm; omega
    · rw [← hb]
      conv => rhs; unfold varF
      rw [if_neg (by omega)]
      simp
  · have hm' : m < 128 := by simp at g; omega
    unfold F38_k3
    refine ⟨by decide, newK_intro fun h2 n2 x2 _ => ?_⟩
    rw [u8_wrap, Nat.mod_eq_of_lt (by omega)] at n2
    refine app5 (m := 1) (new := [m]) (o.grow x2) (srcK_slice rfl (fun ad e => by cases e; exact cells_blk0 n2) (by rintro ⟨⟩)) rfl (by omega) fun a' c' h3 o3 _ _ => ?_
    have e : varB n = bs ++ [m] := by
      rw [← hb]
      conv => lhs; unfold varF
      rw [if_pos hm']
    have e2 : (varB n).length = l + 1 := by rw [e]; simp; omega
    exact ⟨a', c', by rw [e2], by rw [e2, e]; exact o3⟩
theorem str_app' (x y : List Nat) (s : ByteArray) : str x ++ s = str (x ++ lst s) := by
  conv => lhs; rw [← str_lst s]
  exact str_app x (lst s)
/-- a slice of one's own as a text -/
theorem own_str {h0 h : Heap} {a : Option Addr} {l c : Nat} {bs : List Nat} (o : OwnAt 5 h0 h a l c (bs.map u8)) (hb : ∀ x ∈ bs, x < 256) : (str bs).size = l ∧ (∀ ad, a = some ad → CellsAt h ad (bytesV (str bs))) ∧ (a = none → l = 0) := by
  have w := own_tab8 o
  refine ⟨by rw [str_size, own_len o], fun ad e => tab8_cells w hb ad e, fun e => ?_⟩
  have := w.nil e
  have h0 : (rows8 bs).length = 0 := by rw [this]; rfl
  rw [rows8_len] at h0
  have := own_len o; omega
theorem refText_ok (s : ByteArray) (hs : s.size < 2 ^ 40) (h : Heap) : HEnt Tryd.prog 37 #[.string s] h fun v h' => v = .string (str (textB s)) ∧ Ext h h' := by
  refine F37_ent _ _ _ ?_
  unfold F37
  rw [u64_lt _ (by omega) (by omega)]
  refine HEnt.use (refVar_ok s.size (by omega) h) ?_
  rintro _ h1 ⟨a1, c1, rfl, o1⟩
  obtain ⟨g1, g2, g3⟩ := own_str o1 (varB_lt _ (by omega))
  have := varF_len 10 s.size
  refine ⟨_, _, _, rfl, str (varB s.size), g1, g2, g3, by rw [str_size]; unfold varB; omega, ?_, o1.ext⟩
  rw [str_app' _ [] s]; rfl
theorem str_tab {h h1 : Heap} {s : ByteArray} {b c : Nat} (n : New h b (.cells ((bytesV s).toArray ++ Array.replicate (c - s.size) (.int .u8 0)) 5 (c, c + 1)) h1) (hc : s.size ≤ c) : Tab 1 h1 (some (at0 b)) s.size c (rows8 (lst s)) := by
  obtain ⟨rfl, rfl⟩ := n
  have hb : (h.push (.cells ((bytesV s).toArray ++ Array.replicate (c - s.size) (.int .u8 0)) 5 (c, c + 1)))[h.size]? = some (.cells ((bytesV s).toArray ++ Array.replicate (c - s.size) (.int .u8 0)) 5 (c, c + 1)) := Array.getElem?_push_size
  refine ⟨by rw [rows8_len, lst_len], hc, fun r hr => ?_, fun hne => ⟨h.size, 0, rfl, blk_lt hb, fun i r hi j v hj => ?_⟩, fun e => by cases e⟩
  · obtain ⟨n, _, rfl⟩ := List.mem_map.1 hr; rfl
  · rw [rows8, List.getElem?_map] at hi
    obtain ⟨n, hn, rfl⟩ := Option.map_eq_some_iff.1 hi
    have hlt := (List.getElem?_eq_some_iff.1 hn).1
    match j, hj with
    | 0, hj =>
      cases hj
      rw [cell_blk hb, bytesV_lst, Nat.zero_add, Nat.mul_one, Nat.add_zero, Array.getElem?_append_left (by simpa using hlt)]
      rw [List.getElem?_toArray, List.getElem?_map, hn]; rfl
theorem refReadVar_ok (a : Option Addr) (l c : Nat) (bs : List Nat) (h : Heap) (w : Tab 1 h a l c (rows8 bs)) (hb : ∀ x ∈ bs, x < 256) (hl : l < 2 ^ 40) :
    HEnt Tryd.prog 39 #[.slice a l c] h fun v h' => v = .tuple #[.int .u64 (readVar bs).1, .int .i64 (readVar bs).2.1, .int .i64 (readVar bs).2.2] ∧ h' = h := by
  have hlen : bs.length = l := by have := w.len; rwa [rows8_len] at this
  refine F39_ent _ _ _ _ _ ?_
  unfold F39
  rintro _ rfl _ rfl _ rfl
  refine ⟨fun x y j hh => ∃ i v : Nat, x = v ∧ y = (128 ^ i : Nat) ∧ j = i ∧ i ≤ 9 ∧ v < 128 ^ i ∧ hh = h ∧ readVar bs = rv bs (10 - i) i v, fun _ _ j _ => (10 - j).toNat, ⟨0, 0, rfl, rfl, rfl, by omega, by decide, rfl, rfl⟩, ?_⟩
  rintro h1 _ _ _ ⟨i, v, rfl, rfl, rfl, hi, hv, rfl, hr⟩
  have hp9 : 128 ^ i ≤ 128 ^ 9 := Nat.pow_le_pow_right (by decide) hi
  have h9 : (128 : Nat) ^ 9 = 2 ^ 63 := by decide
  unfold F39_b1
  refine br_of (fun _ => ?_) (fun g => by simp at g; omega)
  rw [show 10 - i = (9 - i) + 1 by omega] at hr
  unfold rv at hr
  unfold F39_k2
  refine br_of (fun g2 => ?_) (fun g2 => ?_)
  · have g2' : bs.length ≤ i := by simp at g2; omega
    rw [if_pos g2'] at hr
    exact ⟨by rw [hr]; rfl, rfl⟩
  have g2' : ¬ bs.length ≤ i := by simp at g2; omega
  rw [if_neg g2'] at hr
  obtain ⟨q, eq, _, hc⟩ := tab8_get w (i := i) (by omega)
  have hlt : bs.getD i 0 < 256 := getD_lt hb i
  have hc' : Vc.cell h1 (q.add ((i : Int).toNat * 1)) = some (.int .u8 (bs.getD i 0 : Nat)) := by rw [Int.toNat_natCast]; exact hc
  generalize bs.getD i 0 = cc at *
  have k4 : ∀ bb : Bool, (bb = true ↔ i = 9 ∧ cc > 1) → F39_k4 (fun x y j hh => ∃ i v : Nat, x = v ∧ y = (128 ^ i : Nat) ∧ j = i ∧ i ≤ 9 ∧ v < 128 ^ i ∧ hh = h1 ∧ readVar bs = rv bs (10 - i) i v) (fun _ _ j _ => (10 - j).toNat) ((10 : Int) - (i : Int)).toNat a l c v (128 ^ i : Nat) i bb h1 fun v h' => v = .tuple #[.int .u64 (readVar bs).1, .int .i64 (readVar bs).2.1, .int .i64 (readVar bs).2.2] ∧ h' = h1 := by
    intro bb hbb
    unfold F39_k4
    refine br_of (fun g3 => ?_) (fun g3 => ?_)
    · rw [if_pos (hbb.1 g3)] at hr
      exact ⟨by rw [hr]; rfl, rfl⟩
    have g3' : ¬ (i = 9 ∧ cc > 1) := fun e => by rw [hbb.2 e] at g3; cases g3
    rw [if_neg g3'] at hr
    have hp : cc % 128 * 128 ^ i < 2 ^ 64 ∧ v + cc % 128 * 128 ^ i < 2 ^ 64 := by
      by_cases e : i = 9
      · subst e
        have hc1 : cc % 128 ≤ 1 := by omega
        have : cc % 128 * 128 ^ 9 ≤ 1 * 128 ^ 9 := Nat.mul_le_mul_right _ hc1
        omega
      · have h8 : 128 ^ i ≤ 128 ^ 8 := Nat.pow_le_pow_right (by decide) (by omega)
        have : cc % 128 * 128 ^ i ≤ 127 * 128 ^ 8 := Nat.mul_le_mul (by omega) h8
        have : v < 128 ^ 8 := Nat.lt_of_lt_of_le hv h8
        have : (128 : Nat) ^ 8 = 2 ^ 56 := by decide
        omega
    unfold F39_k5
    refine ⟨q, eq, by omega, by omega, _, hc', by decide, ?_⟩
    have es : IntKind.u64.wrap ((v : Int) + IntKind.u64.wrap (IntKind.u64.wrap ((cc : Int).tmod 128) * ((128 ^ i : Nat) : Int))) = ((v + cc % 128 * 128 ^ i : Nat) : Int) := by
      have e0 : (cc : Int).tmod 128 = ((cc % 128 : Nat) : Int) := tmodn cc 128
      rw [e0, u64_lt ((cc % 128 : Nat) : Int) (by omega) (by omega), ← Int.natCast_mul, u64_lt ((cc % 128 * 128 ^ i : Nat) : Int) (by omega) (by omega), ← Int.natCast_add, u64_lt _ (by omega) (by omega)]
    rw [es]
    rintro _ rfl _ rfl
    have hv' : v + cc % 128 * 128 ^ i < 128 ^ (i + 1) := by
      have : cc % 128 * 128 ^ i ≤ 127 * 128 ^ i := Nat.mul_le_mul_right _ (by omega)
      rw [Nat.pow_succ]; omega
    generalize v + cc % 128 * 128 ^ i = y at *
    have k6 : ∀ b6 : Bool, (b6 = true ↔ cc = 0 ∧ 0 < i) → cc < 128 → F39_k6 (fun x y j hh => ∃ i v : Nat, x = v ∧ y = (128 ^ i : Nat) ∧ j = i ∧ i ≤ 9 ∧ v < 128 ^ i ∧ hh = h1 ∧ readVar bs = rv bs (10 - i) i v) (fun _ _ j _ => (10 - j).toNat) ((10 : Int) - (i : Int)).toNat y i b6 h1 fun v h' => v = .tuple #[.int .u64 (readVar bs).1, .int .i64 (readVar bs).2.1, .int .i64 (readVar bs).2.2] ∧ h' = h1 := by
      intro b6 hb6 h128
      rw [if_pos h128] at hr
      unfold F39_k6
      refine br_of (fun g5 => ?_) (fun g5 => ?_)
      · rw [if_pos (hb6.1 g5)] at hr
        exact ⟨by rw [hr]; rfl, rfl⟩
      · rw [if_neg (fun e => by rw [hb6.2 e] at g5; cases g5)] at hr
        unfold F39_k7
        rw [i64_lt _ (by omega) (by omega)]
        exact ⟨by rw [hr]; rfl, rfl⟩
    refine ⟨q, eq, by omega, by omega, _, hc', br_of (fun g4 => ⟨q, eq, by omega, by omega, _, hc', br_of (fun g5 => ?_) (fun g5 => ?_)⟩) (fun g4 => ?_)⟩
    · refine k6 _ ?_ ?_
      · simp at g5; simp; omega
      · simp at g4; omega
    · refine k6 _ ?_ ?_
      · simp at g5; simp; omega
      · simp at g4; omega
    · have g4' : ¬ cc < 128 := by simp at g4; omega
      rw [if_neg g4'] at hr
      have hi9 : i ≠ 9 := fun e => g3' ⟨e, by omega⟩
      unfold F39_k8
      rintro _ rfl
      rw [i64_lt _ (by omega) (by omega)]
      have h8 : 128 ^ (i + 1) ≤ 128 ^ 9 := Nat.pow_le_pow_right (by decide) (by omega)
      refine ⟨⟨i + 1, y, rfl, ?_, by omega, by omega, hv', rfl, by rw [hr]; congr 1; omega⟩, by show ((10 : Int) - ((i : Int) + 1)).toNat < ((10 : Int) - i).toNat; omega⟩
      have e1 : (((128 ^ i : Nat) : Int) * 128) = ((128 ^ (i + 1) : Nat) : Int) := by rw [Nat.pow_succ]; push_cast; rfl
      rw [e1, u64_lt _ (by omega) (by omega)]
  unfold F39_k3
  refine br_of (fun g3 => ⟨q, eq, by omega, by omega, _, hc', k4 _ ?_⟩) (fun g3 => k4 _ ?_)
  · have g3' : i = 9 := by simp at g3; omega
    simp only [decide_eq_true_eq]; omega
  · have g3' : i ≠ 9 := by simp at g3; omega
    exact ⟨fun e => (by cases e), fun e => absurd e.1 g3'⟩
end Go.Proofs.YtpnbbgcaaogpdaaDoor

namespace Go.Proofs.YtpnbbgcaaogpdaaDoor
open Go.Vc Go.Sha Go.Trail Go.RowKit Go.Man
set_option linter.unusedVariables false
set_option linter.unusedSimpArgs false
set_option maxRecDepth 8000
def strP : List Nat → Option (List Nat × List Nat)
  | [] => none
  | n :: r => if n ≤ r.length then some (r.take n, r.drop n) else none
def refsP : Nat → List Nat → Option (List RefV × List Nat)
  | 0, bs => some ([], bs)
  | k + 1, bs => if 32 ≤ bs.length ∧ (readVar (bs.drop 32)).2.2 = 0 ∧ (readVar (bs.drop 32)).1 ≤ 2147483647 then
      (refsP k ((bs.drop 32).drop (readVar (bs.drop 32)).2.1)).map fun p => ((bs.take 32, ((readVar (bs.drop 32)).1 : Int)) :: p.1, p.2)
    else none
def tailP (s t : List Nat) : List Nat → Option (ManV × List Nat)
  | [] => none
  | n :: r => (refsP n r).map fun p => (⟨str s, str t, p.1⟩, p.2)
def parseM (bs : List Nat) : Option (ManV × List Nat) :=
  if 3 ≤ bs.length ∧ bs.take 3 = [86, 77, 1] then
    (strP (bs.drop 3)).bind fun p => (strP p.2).bind fun q => tailP p.1 q.1 q.2
  else none
def decP (bs : List Nat) : Option ManV := match parseM bs with
  | some (m, []) => some m
  | _ => none
theorem strP_only {bs s r : List Nat} (h : strP bs = some (s, r)) (hb : ∀ x ∈ bs, x < 256) : bs = nt (str s) ++ r ∧ s.length < 256 ∧ (∀ x ∈ s, x < 256) ∧ ∀ x ∈ r, x < 256 := by
  cases bs with
  | nil => cases h
  | cons n q =>
    rw [strP] at h
    split at h
    · rename_i hle
      simp only [Option.some.injEq, Prod.mk.injEq] at h
      obtain ⟨rfl, rfl⟩ := h
      have hs : ∀ x ∈ q.take n, x < 256 := fun x hx => hb x (List.mem_cons_of_mem _ (List.mem_of_mem_take hx))
      have hn := hb n (List.mem_cons_self ..)
      refine ⟨?_, by rw [List.length_take]; omega, hs, fun x hx => hb x (List.mem_cons_of_mem _ (List.mem_of_mem_drop hx))⟩
      unfold nt
      rw [str_size, lst_str _ hs, List.length_take, Nat.min_eq_left hle, List.cons_append, List.take_append_drop]
    · cases h
theorem strP_back (s : ByteArray) (r : List Nat) : strP (nt s ++ r) = some (lst s, r) := by
  unfold nt
  rw [List.cons_append, strP, if_pos (by rw [List.length_append, lst_len]; omega)]
  rw [List.take_append_of_le_length (by rw [lst_len]; omega), List.take_of_length_le (by rw [lst_len]; omega), List.drop_append_of_le_length (by rw [lst_len]; omega), List.drop_of_length_le (by rw [lst_len]; omega)]; rfl
def okR (r : RefV) : Prop := r.1.length = 32 ∧ (∀ x ∈ r.1, x < 256) ∧ 0 ≤ r.2 ∧ r.2 ≤ 2147483647
theorem refsP_only : ∀ (k : Nat) (bs : List Nat) {rs : List RefV} {r : List Nat}, refsP k bs = some (rs, r) → (∀ x ∈ bs, x < 256) → bs = refsB rs ++ r ∧ rs.length = k ∧ (∀ q ∈ rs, okR q) ∧ ∀ x ∈ r, x < 256
  | 0, bs, rs, r, h, hb => by
    simp only [refsP, Option.some.injEq, Prod.mk.injEq] at h
    obtain ⟨rfl, rfl⟩ := h
    exact ⟨rfl, rfl, by simp, hb⟩
  | k + 1, bs, rs, r, h, hb => by
    unfold refsP at h
    split at h
    · rename_i hc
      obtain ⟨h32, he, hv⟩ := hc
      have hbd : ∀ x ∈ bs.drop 32, x < 256 := fun x hx => hb x (List.mem_of_mem_drop hx)
      obtain ⟨e1, e2, e3⟩ := readVar_only hbd he
      obtain ⟨p, hp, e⟩ := Option.map_eq_some_iff.1 h
      obtain ⟨rs', r'⟩ := p
      simp only [Prod.mk.injEq] at e
      obtain ⟨rfl, rfl⟩ := e
      obtain ⟨g1, g2, g3, g4⟩ := refsP_only k _ hp fun x hx => hbd x (List.mem_of_mem_drop hx)
      refine ⟨?_, by simp [g2], fun q hq => ?_, g4⟩
      · show bs = ((bs.take 32 ++ varB (((readVar (bs.drop 32)).1 : Int)).toNat) ++ refsB rs') ++ r'
        rw [Int.toNat_natCast]
        conv => lhs; rw [← List.take_append_drop 32 bs, e1, g1]
        simp
      · rcases List.mem_cons.1 hq with rfl | hq
        · exact ⟨by simp; omega, fun x hx => hb x (List.mem_of_mem_take hx), by show (0 : Int) ≤ ((readVar (bs.drop 32)).1 : Int); omega, by show ((readVar (bs.drop 32)).1 : Int) ≤ _; omega⟩
        · exact g3 q hq
    · cases h
theorem refsP_back : ∀ (rs : List RefV) (x : List Nat), (∀ q ∈ rs, okR q) → refsP rs.length (refsB rs ++ x) = some (rs, x)
  | [], x, _ => rfl
  | r :: rs, x, h => by
    obtain ⟨h32, h256, h0, hm⟩ := h r (List.mem_cons_self ..)
    have ih := refsP_back rs x fun q hq => h q (List.mem_cons_of_mem _ hq)
    have e : refsB (r :: rs) ++ x = r.1 ++ (varB r.2.toNat ++ (refsB rs ++ x)) := by
      unfold refsB refB; simp
    rw [e, List.length_cons, refsP]
    have d : (r.1 ++ (varB r.2.toNat ++ (refsB rs ++ x))).drop 32 = varB r.2.toNat ++ (refsB rs ++ x) := by
      rw [List.drop_append_of_le_length (by omega), List.drop_of_length_le (by omega)]; rfl
    have t : (r.1 ++ (varB r.2.toNat ++ (refsB rs ++ x))).take 32 = r.1 := by
      rw [List.take_append_of_le_length (by omega), List.take_of_length_le (by omega)]
    rw [d, t, readVar_back r.2.toNat (by omega)]
    rw [if_pos ⟨by rw [List.length_append]; omega, rfl, by show r.2.toNat ≤ _; omega⟩]
    simp only
    rw [List.drop_append_of_le_length (Nat.le_refl _), List.drop_of_length_le (Nat.le_refl _), List.nil_append, ih]
    simp only [Option.map_some, Option.some.injEq, Prod.mk.injEq, and_true, List.cons.injEq]
    exact Prod.ext rfl (by show ((r.2.toNat : Nat) : Int) = r.2; omega)
def okM (m : ManV) : Prop := m.name.size < 256 ∧ m.ver.size < 256 ∧ m.refs.length < 256 ∧ ∀ q ∈ m.refs, okR q
theorem parse_only {bs : List Nat} {m : ManV} {x : List Nat} (h : parseM bs = some (m, x)) (hb : ∀ y ∈ bs, y < 256) : bs = encodeM m ++ x ∧ okM m := by
  unfold parseM at h
  split at h
  · rename_i hc
    obtain ⟨h3, ht⟩ := hc
    obtain ⟨⟨s, r⟩, hp, h⟩ := Option.bind_eq_some_iff.1 h
    obtain ⟨⟨t, r2⟩, hq, h⟩ := Option.bind_eq_some_iff.1 h
    have hbd : ∀ y ∈ bs.drop 3, y < 256 := fun y hy => hb y (List.mem_of_mem_drop hy)
    obtain ⟨e1, l1, s256, r256⟩ := strP_only hp hbd
    obtain ⟨e2, l2, t256, r2256⟩ := strP_only hq r256
    simp only at h e2 e1
    cases r2 with
    | nil => cases h
    | cons n q =>
      unfold tailP at h
      obtain ⟨⟨rs, x'⟩, hr, e⟩ := Option.map_eq_some_iff.1 h
      simp only [Prod.mk.injEq] at e
      obtain ⟨rfl, rfl⟩ := e
      obtain ⟨g1, g2, g3, g4⟩ := refsP_only n q hr fun y hy => r2256 y (List.mem_cons_of_mem _ hy)
      have hn := r2256 n (List.mem_cons_self ..)
      refine ⟨?_, by show (str s).size < _; rw [str_size]; exact l1, by show (str t).size < _; rw [str_size]; exact l2, by show rs.length < _; omega, g3⟩
      unfold encodeM
      simp only
      conv => lhs; rw [← List.take_append_drop 3 bs, ht, e1, e2, g1, ← g2]
      simp
  · cases h
theorem parse_back {m : ManV} (hm : okM m) (x : List Nat) : parseM (encodeM m ++ x) = some (m, x) := by
  obtain ⟨h1, h2, h3, h4⟩ := hm
  have e : encodeM m ++ x = [86, 77, 1] ++ (nt m.name ++ (nt m.ver ++ (m.refs.length :: (refsB m.refs ++ x)))) := by
    unfold encodeM; simp
  rw [e]
  unfold parseM
  rw [if_pos ⟨by simp, by simp⟩]
  have d : ([86, 77, 1] ++ (nt m.name ++ (nt m.ver ++ (m.refs.length :: (refsB m.refs ++ x))))).drop 3 = nt m.name ++ (nt m.ver ++ (m.refs.length :: (refsB m.refs ++ x))) := rfl
  rw [d, strP_back]
  simp only [Option.bind_some]
  rw [strP_back]
  simp only [Option.bind_some, tailP]
  rw [refsP_back _ _ h4]
  simp [str_lst]
theorem dec_only {bs : List Nat} {m : ManV} (h : decP bs = some m) (hb : ∀ y ∈ bs, y < 256) : bs = encodeM m ∧ okM m := by
  unfold decP at h
  split at h
  · rename_i m' hp
    cases h
    have := parse_only hp hb
    rw [List.append_nil] at this; exact this
  · cases h
theorem dec_back {m : ManV} (hm : okM m) : decP (encodeM m) = some m := by
  have := parse_back hm []
  rw [List.append_nil] at this
  unfold decP; rw [this]
theorem okM_check {m : ManV} (h : checkM m = 0) (hb : Big m) : okM m := by
  obtain ⟨n1, n2, l0, l8, hr, _⟩ := check_zero h
  have := nameB_len n1
  have := nameB_len n2
  exact ⟨by omega, by omega, by omega, fun q hq => ⟨(hb.2.2 q hq).1, (hb.2.2 q hq).2.1, hr q hq⟩⟩
theorem okM_big {m : ManV} (h : okM m) : Big m := ⟨by have := h.1; omega, by have := h.2.1; omega, fun q hq => by obtain ⟨a, b, c, d⟩ := h.2.2.2 q hq; exact ⟨a, b, by omega, by omega⟩⟩
/-- what Decode tells -/
def decC (bs : List Nat) : Option ManV := match decP bs with
  | some m => if checkM m = 0 then some m else none
  | none => none
theorem decC_only {bs : List Nat} {m : ManV} (h : decC bs = some m) (hb : ∀ y ∈ bs, y < 256) : bs = encodeM m ∧ okM m ∧ checkM m = 0 := by
  unfold decC at h
  split at h
  · rename_i m' hp
    split at h
    · cases h; exact ⟨(dec_only hp hb).1, (dec_only hp hb).2, ‹_›⟩
    · cases h
  · cases h
theorem decC_back {m : ManV} (h : checkM m = 0) (hb : Big m) : decC (encodeM m) = some m := by
  unfold decC; rw [dec_back (okM_check h hb)]; simp [h]
theorem decC_cut {bs : List Nat} {m : ManV} (h : decC bs = some m) (hb : ∀ y ∈ bs, y < 256) (n : Nat) (hn : n < bs.length) : decC (bs.take n) = none := by
  obtain ⟨e, ok, _⟩ := decC_only h hb
  cases hd : decC (bs.take n) with
  | none => rfl
  | some m2 =>
    exfalso
    obtain ⟨e2, ok2, _⟩ := decC_only hd fun y hy => hb y (List.mem_of_mem_take hy)
    have p1 := parse_back ok []
    have p2 := parse_back ok2 (bs.drop n)
    rw [← e2, List.take_append_drop] at p2
    rw [List.append_nil, ← e, p2] at p1
    have := congrArg List.length (Prod.ext_iff.1 (Option.some.inj p1)).2
    simp at this; omega
theorem decC_more {bs : List Nat} {m : ManV} (h : decC bs = some m) (hb : ∀ y ∈ bs, y < 256) (x : Nat) : decC (bs ++ [x]) = none := by
  obtain ⟨e, ok, _⟩ := decC_only h hb
  unfold decC decP
  rw [e, parse_back ok [x]]
end Go.Proofs.YtpnbbgcaaogpdaaDoor
