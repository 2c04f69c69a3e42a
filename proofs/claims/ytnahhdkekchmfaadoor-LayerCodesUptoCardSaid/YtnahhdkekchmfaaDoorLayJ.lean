import Derived.Test.YtnahhdkekchmfaaDoorLayG
import Derived.Test.YtnahhdkekchmfaaDoorVlpC
import Derived.Test.YtnahhdkekchmfaaDoorVcV

namespace Go.Proofs.YtnahhdkekchmfaaDoor
open Go.Vc Go.Sha Go.Trail Go.Lay
set_option linter.unusedVariables false
set_option maxRecDepth 4000
/-- ReadVar from the i-th byte on: the number, how many bytes, what is wrong -/
def rv (bs : List Nat) : Nat → Nat → Nat → Nat × Nat × Nat
  | 0, _, _ => (0, 0, 5)
  | f + 1, i, v => if bs.length ≤ i then (0, 0, 4) else if i = 9 ∧ bs.getD i 0 > 1 then (0, 0, 5)
    else if bs.getD i 0 < 128 then (if bs.getD i 0 = 0 ∧ 0 < i then (0, 0, 5) else (v + bs.getD i 0 % 128 * 128 ^ i, i + 1, 0))
    else rv bs f (i + 1) (v + bs.getD i 0 % 128 * 128 ^ i)
def readVar (bs : List Nat) : Nat × Nat × Nat := rv bs 10 0 0
def rows8 (bs : List Nat) : List (List Value) := bs.map fun n => [u8 n]
theorem rows8_len (bs : List Nat) : (rows8 bs).length = bs.length := by simp [rows8]
theorem tab8_get {h : Heap} {a : Option Addr} {l c : Nat} {bs : List Nat} (w : Tab 1 h a l c (rows8 bs)) {i : Nat} (hi : i < bs.length) :
    ∃ q, a = some q ∧ i < l ∧ Vc.cell h (q.add (i * 1)) = some (.int .u8 (bs.getD i 0 : Nat)) := by
  obtain ⟨q, e, h1, h2⟩ := w.get (i := i) (r := [u8 (bs.getD i 0)]) (by rw [rows8, List.getElem?_map, List.getElem?_eq_getElem hi, List.getD_eq_getElem?_getD, List.getElem?_eq_getElem hi]; rfl)
  refine ⟨q, e, h1, ?_⟩
  have := h2 0 _ rfl
  obtain ⟨b, o, s⟩ := q
  simpa [Addr.add, u8] using this
theorem and127 : ∀ m : Nat, m < 256 → m &&& 127 = m % 128 := by decide +kernel
theorem andI127 (m : Nat) (h : m < 256) : andI .u8 (m : Int) 127 = ((m % 128 : Nat) : Int) := by
  have e : (BitVec.ofInt 8 (m : Int) &&& BitVec.ofInt 8 (127 : Int)).toNat = m &&& 127 := by
    rw [BitVec.ofInt_natCast, BitVec.toNat_and, BitVec.toNat_ofNat, Nat.mod_eq_of_lt (show m < 2 ^ 8 by omega)]
    rfl
  show IntKind.u8.wrap ((BitVec.ofInt 8 (m : Int) &&& BitVec.ofInt 8 (127 : Int)).toNat : Int) = _
  rw [e, and127 m h, u8_wrap, Nat.mod_eq_of_lt (by omega)]
theorem or64 (a b : Nat) (ha : a < 2 ^ 64) (hb : b < 2 ^ 64) : orI .u64 (a : Int) b = ((a ||| b : Nat) : Int) := by
  have : a ||| b < 2 ^ 64 := Nat.or_lt_two_pow ha hb
  have e : (BitVec.ofInt 64 (a : Int) ||| BitVec.ofInt 64 (b : Int)).toNat = a ||| b := by
    rw [BitVec.ofInt_natCast, BitVec.ofInt_natCast, BitVec.toNat_or, BitVec.toNat_ofNat, BitVec.toNat_ofNat, Nat.mod_eq_of_lt ha, Nat.mod_eq_of_lt hb]
  show IntKind.u64.wrap ((BitVec.ofInt 64 (a : Int) ||| BitVec.ofInt 64 (b : Int)).toNat : Int) = _
  rw [e]; exact u64_lt _ (by omega) (by omega)
theorem pow128 (i : Nat) : 128 ^ i = 2 ^ (7 * i) := by rw [Nat.pow_mul]
/-- a round's number -/
theorem round_num (v i c : Nat) (hi : i ≤ 9) (hv : v < 128 ^ i) (hc : c < 256) (h9 : i = 9 → c ≤ 1) :
    orI .u64 (v : Int) (shlI .u64 (IntKind.u64.wrap (andI .u8 (c : Int) 127)) (IntKind.u64.wrap (7 * (IntKind.u64.wrap (i : Int))))) = ((v + c % 128 * 128 ^ i : Nat) : Int) := by
  have hp : c % 128 * 128 ^ i < 2 ^ 64 := by
    by_cases e : i = 9
    · subst e
      have := h9 rfl
      have : c % 128 ≤ 1 := by omega
      calc c % 128 * 128 ^ 9 ≤ 1 * 128 ^ 9 := Nat.mul_le_mul_right _ this
        _ < 2 ^ 64 := by decide
    · have h8 : 128 ^ i ≤ 128 ^ 8 := Nat.pow_le_pow_right (by decide) (by omega)
      have h127 : c % 128 ≤ 127 := by omega
      calc c % 128 * 128 ^ i ≤ 127 * 128 ^ 8 := Nat.mul_le_mul h127 h8
        _ < 2 ^ 64 := by decide
  have hv2 : v < 2 ^ 64 := Nat.lt_of_lt_of_le hv (Nat.le_trans (Nat.pow_le_pow_right (by decide) hi) (by decide))
  rw [andI127 c hc, u64_lt _ (by omega) (by omega), u64_lt (i : Int) (by omega) (by omega), u64_lt (7 * (i : Int)) (by omega) (by omega)]
  have es : shlI .u64 ((c % 128 : Nat) : Int) (7 * (i : Int)) = ((c % 128 * 128 ^ i : Nat) : Int) := by
    unfold shlI
    rw [show min ((7 * (i : Int)).toNat) IntKind.u64.bits = 7 * i from by simp [IntKind.bits]; omega]
    have : ((c % 128 : Nat) : Int) * 2 ^ (7 * i) = ((c % 128 * 128 ^ i : Nat) : Int) := by rw [pow128]; simp
    rw [this]
    exact u64_lt _ (by omega) (by omega)
  rw [es, or64 _ _ hv2 hp]
  congr 1
  rw [pow128] at hv ⊢
  have := Nat.two_pow_add_eq_or_of_lt (i := 7 * i) (b := v) hv (c % 128)
  rw [Nat.mul_comm (c % 128), Nat.or_comm, ← this, Nat.add_comm]
theorem rv_zero : ∀ (f : Nat) (bs : List Nat) (i v : Nat), f + i = 10 → (∀ x ∈ bs, x < 256) → v < 128 ^ i →
    ∀ r, r = rv bs f i v → r.2.2 = 0 → bs.drop i = (varF f (r.1 / 128 ^ i)) ++ bs.drop r.2.1 ∧ r.1 % 128 ^ i = v ∧ r.1 < 2 ^ 64 ∧ r.2.1 ≤ bs.length ∧ i < r.2.1 ∧ (0 < i → r.1 / 128 ^ i ≠ 0)
  | 0, bs, i, v, hf, hb, hv, r, hr, h0 => by subst hr; cases h0
  | f + 1, bs, i, v, hf, hb, hv, r, hr, h0 => by
    have hpos : 0 < 128 ^ i := Nat.pow_pos (by decide)
    unfold rv at hr
    by_cases h1 : bs.length ≤ i
    · rw [if_pos h1] at hr; subst hr; cases h0
    rw [if_neg h1] at hr
    by_cases h2 : i = 9 ∧ bs.getD i 0 > 1
    · rw [if_pos h2] at hr; subst hr; cases h0
    rw [if_neg h2] at hr
    have hd : bs.drop i = bs.getD i 0 :: bs.drop (i + 1) := by
      rw [List.drop_eq_getElem_cons (by omega), List.getD_eq_getElem?_getD, List.getElem?_eq_getElem (by omega)]; rfl
    have hlt : bs.getD i 0 < 256 := by
      rw [List.getD_eq_getElem?_getD, List.getElem?_eq_getElem (by omega)]
      exact hb _ (List.getElem_mem _)
    generalize bs.getD i 0 = c at *
    by_cases h3 : c < 128
    · rw [if_pos h3] at hr
      by_cases h4 : c = 0 ∧ 0 < i
      · rw [if_pos h4] at hr; subst hr; cases h0
      rw [if_neg h4] at hr
      subst hr
      have e1 : c % 128 = c := Nat.mod_eq_of_lt h3
      have e2 : (v + c * 128 ^ i) / 128 ^ i = c := by
        rw [Nat.add_mul_div_right _ _ hpos, Nat.div_eq_of_lt hv, Nat.zero_add]
      simp only [e1, e2]
      refine ⟨?_, ?_, ?_, by omega, by omega, fun hi hc => h4 ⟨hc, hi⟩⟩
      · rw [hd]; unfold varF; rw [if_pos h3]; rfl
      · rw [Nat.add_mul_mod_self_right, Nat.mod_eq_of_lt hv]
      · by_cases e : i = 9
        · subst e
          have hc1 : c ≤ 1 := by omega
          have : c * 128 ^ 9 ≤ 1 * 128 ^ 9 := Nat.mul_le_mul_right _ hc1
          have : (128 : Nat) ^ 9 = 2 ^ 63 := by decide
          omega
        · have h8 : 128 ^ i ≤ 128 ^ 8 := Nat.pow_le_pow_right (by decide) (by omega)
          have : c * 128 ^ i ≤ 127 * 128 ^ 8 := Nat.mul_le_mul (by omega) h8
          have : v < 128 ^ 8 := Nat.lt_of_lt_of_le hv h8
          have : (128 : Nat) ^ 8 = 2 ^ 56 := by decide
          omega
    · rw [if_neg h3] at hr
      have hi9 : i ≠ 9 := fun e => h2 ⟨e, by omega⟩
      have hv' : v + c % 128 * 128 ^ i < 128 ^ (i + 1) := by
        have : c % 128 * 128 ^ i ≤ 127 * 128 ^ i := Nat.mul_le_mul_right _ (by omega)
        rw [Nat.pow_succ]; omega
      obtain ⟨g1, g2, g3, g4, g5, g6⟩ := rv_zero f bs (i + 1) _ (by omega) hb hv' r hr h0
      have g6' := g6 (by omega)
      have hdiv : r.1 / 128 ^ i / 128 = r.1 / 128 ^ (i + 1) := by rw [Nat.div_div_eq_div_mul, Nat.pow_succ]
      have hmod : r.1 / 128 ^ i % 128 = c % 128 := by
        have e1 : r.1 % 128 ^ (i + 1) = v + c % 128 * 128 ^ i := g2
        have e2 : r.1 % (128 ^ i * 128) / 128 ^ i = r.1 / 128 ^ i % 128 := Nat.mod_mul_right_div_self r.1 (128 ^ i) 128
        rw [← e2, ← Nat.pow_succ, e1, Nat.add_mul_div_right _ _ hpos, Nat.div_eq_of_lt hv, Nat.zero_add]
      refine ⟨?_, ?_, g3, g4, by omega, fun _ e => ?_⟩
      · rw [hd, g1]
        conv => rhs; unfold varF
        have hge : ¬ r.1 / 128 ^ i < 128 := by
          intro e
          apply g6'
          rw [← hdiv, Nat.div_eq_of_lt e]
        rw [if_neg hge, hdiv, hmod]
        have : c % 128 + 128 = c := by omega
        rw [this]; rfl
      · have e2 : r.1 % 128 ^ (i + 1) % 128 ^ i = r.1 % 128 ^ i := by rw [Nat.pow_succ]; exact Nat.mod_mul_right_mod r.1 (128 ^ i) 128
        rw [← e2, g2, Nat.add_mul_mod_self_right, Nat.mod_eq_of_lt hv]
      · apply g6'
        rw [← hdiv, e]
theorem rv_back : ∀ (f : Nat) (bs rest : List Nat) (i v m : Nat), f + i = 10 → bs.drop i = varF f m ++ rest → i ≤ bs.length → m * 128 ^ i + v < 2 ^ 64 → (0 < i → m ≠ 0) → v < 128 ^ i →
    rv bs f i v = (m * 128 ^ i + v, i + (varF f m).length, 0)
  | 0, bs, rest, i, v, m, hf, hd, hl, hm, h0, hv => by
    exfalso
    have : i = 10 := by omega
    subst this
    have h1 : 1 ≤ m := Nat.pos_of_ne_zero (h0 (by omega))
    have : 1 * 128 ^ 10 ≤ m * 128 ^ 10 := Nat.mul_le_mul_right _ h1
    have : (2 : Nat) ^ 64 < 128 ^ 10 := by decide
    omega
  | f + 1, bs, rest, i, v, m, hf, hd, hl, hm, h0, hv => by
    have hpos : 0 < 128 ^ i := Nat.pow_pos (by decide)
    have hne : varF (f + 1) m ≠ [] := fun e => by have := varF_pos (f + 1) m; rw [e] at this; simp at this
    have hlt : i < bs.length := by
      refine Nat.lt_of_not_le fun e => hne ?_
      rw [List.drop_eq_nil_of_le e] at hd
      exact (List.append_eq_nil_iff.1 hd.symm).1
    have hdc : bs.drop i = bs.getD i 0 :: bs.drop (i + 1) := by
      rw [List.drop_eq_getElem_cons hlt, List.getD_eq_getElem?_getD, List.getElem?_eq_getElem hlt]; rfl
    rw [hdc] at hd
    unfold rv
    rw [if_neg (by omega)]
    unfold varF at hd ⊢
    by_cases h3 : m < 128
    · rw [if_pos h3] at hd ⊢
      obtain ⟨e1, e2⟩ := List.cons.inj hd
      rw [e1, if_neg, if_pos h3, if_neg, Nat.mod_eq_of_lt h3, Nat.add_comm]
      · rfl
      · rintro ⟨g1, g2⟩; exact h0 g2 g1
      · rintro ⟨g1, g2⟩
        subst g1
        have : 2 * 128 ^ 9 ≤ m * 128 ^ 9 := Nat.mul_le_mul_right _ g2
        have : (2 : Nat) ^ 64 = 2 * 128 ^ 9 := by decide
        omega
    · rw [if_neg h3] at hd ⊢
      obtain ⟨e1, e2⟩ := List.cons.inj hd
      have hi9 : i ≠ 9 := fun e => by
        subst e
        have : 128 * 128 ^ 9 ≤ m * 128 ^ 9 := Nat.mul_le_mul_right _ (by omega)
        have : (2 : Nat) ^ 64 < 128 * 128 ^ 9 := by decide
        omega
      rw [e1, if_neg (fun g => hi9 g.1), if_neg (by omega)]
      have hmm : (m % 128 + 128) % 128 = m % 128 := by omega
      rw [hmm]
      have hv' : v + m % 128 * 128 ^ i < 128 ^ (i + 1) := by
        have : m % 128 * 128 ^ i ≤ 127 * 128 ^ i := Nat.mul_le_mul_right _ (by omega)
        rw [Nat.pow_succ]; omega
      have hsum : m / 128 * 128 ^ (i + 1) + (v + m % 128 * 128 ^ i) = m * 128 ^ i + v := by
        have : m = m / 128 * 128 + m % 128 := by omega
        calc m / 128 * 128 ^ (i + 1) + (v + m % 128 * 128 ^ i) = (m / 128 * 128 + m % 128) * 128 ^ i + v := by
              rw [Nat.pow_succ, Nat.add_mul, Nat.mul_assoc, Nat.mul_comm 128 (128 ^ i)]; omega
          _ = m * 128 ^ i + v := by rw [← this]
      rw [rv_back f bs rest (i + 1) (v + m % 128 * 128 ^ i) (m / 128) (by omega) e2 (by omega) (by rw [hsum]; exact hm) (fun _ => by omega) hv', hsum]
      simp only [List.length_cons]
      rw [Nat.add_right_comm, Nat.add_assoc]
/-- what is read has just these bytes -/
theorem readVar_only {bs : List Nat} (hb : ∀ x ∈ bs, x < 256) (h0 : (readVar bs).2.2 = 0) : bs = varB (readVar bs).1 ++ bs.drop (readVar bs).2.1 ∧ (readVar bs).1 < 2 ^ 64 ∧ (readVar bs).2.1 ≤ bs.length := by
  obtain ⟨g1, _, g3, g4, _, _⟩ := rv_zero 10 bs 0 0 rfl hb (by decide) _ rfl h0
  rw [Nat.pow_zero, Nat.div_one, List.drop_zero] at g1
  exact ⟨g1, g3, g4⟩
theorem readVar_back (m : Nat) (hm : m < 2 ^ 64) (rest : List Nat) : readVar (varB m ++ rest) = (m, (varB m).length, 0) := by
  have := rv_back 10 (varB m ++ rest) rest 0 0 m rfl rfl (Nat.zero_le _) (by omega) (by omega) (by decide)
  simpa [readVar, varB] using this
theorem rv_bound (bs : List Nat) : ∀ f i v, (rv bs f i v).2.1 ≤ bs.length
  | 0, _, _ => Nat.zero_le _
  | f + 1, i, v => by
    unfold rv
    repeat' split
    all_goals first | exact Nat.zero_le _ | exact rv_bound bs f _ _ | skip
    show i + 1 ≤ bs.length
    omega
theorem readVar_ok (a : Option Addr) (l c : Nat) (bs : List Nat) (h : Heap) (w : Tab 1 h a l c (rows8 bs)) (hb : ∀ x ∈ bs, x < 256) (hl : l < 2 ^ 40) :
    HEnt Tryd.prog 50 #[.slice a l c] h fun v h' => v = .tuple #[.int .u64 (readVar bs).1, .int .i64 (readVar bs).2.1, .int .i64 (readVar bs).2.2] ∧ h' = h := by
  have hlen : bs.length = l := by have := w.len; rwa [rows8_len] at this
  refine F50_ent _ _ _ _ _ ?_
  unfold F50
  rintro _ rfl
  refine ⟨fun x j hh => ∃ i v : Nat, x = v ∧ j = i ∧ i ≤ 10 ∧ v < 128 ^ i ∧ hh = h ∧ readVar bs = rv bs (10 - i) i v, fun _ j _ => (10 - j).toNat, ⟨0, 0, rfl, rfl, by omega, by decide, rfl, rfl⟩, ?_⟩
  rintro h1 _ _ ⟨i, v, rfl, rfl, hi, hv, rfl, hr⟩
  unfold F50_b1
  refine br_of (fun g => ?_) (fun g => ?_)
  case refine_2 =>
    have : i = 10 := by simp at g; omega
    subst this
    unfold F50_k9
    exact ⟨by rw [hr]; rfl, rfl⟩
  have hi' : i < 10 := by simp at g; omega
  rw [show 10 - i = (9 - i) + 1 by omega] at hr
  unfold rv at hr
  unfold F50_k2
  refine br_of (fun g2 => ?_) (fun g2 => ?_)
  · have g2' : bs.length ≤ i := by simp at g2; omega
    rw [if_pos g2'] at hr
    exact ⟨by rw [hr]; rfl, rfl⟩
  have g2' : ¬ bs.length ≤ i := by simp at g2; omega
  rw [if_neg g2'] at hr
  obtain ⟨q, eq, _, hc⟩ := tab8_get w (i := i) (by omega)
  have hlt : bs.getD i 0 < 256 := by
    rw [List.getD_eq_getElem?_getD, List.getElem?_eq_getElem (by omega)]
    exact hb _ (List.getElem_mem _)
  unfold F50_k3
  refine ⟨q, eq, by omega, by omega, _, by rw [Int.toNat_natCast]; exact hc, ?_⟩
  have k4 : ∀ bb : Bool, (bb = true ↔ i = 9 ∧ bs.getD i 0 > 1) → F50_k4 (fun x j hh => ∃ i v : Nat, x = v ∧ j = i ∧ i ≤ 10 ∧ v < 128 ^ i ∧ hh = h1 ∧ readVar bs = rv bs (10 - i) i v) (fun _ j _ => (10 - j).toNat) ((10 : Int) - (i : Int)).toNat a l c v i (bs.getD i 0 : Nat) i bb h1 fun v h' => v = .tuple #[.int .u64 (readVar bs).1, .int .i64 (readVar bs).2.1, .int .i64 (readVar bs).2.2] ∧ h' = h1 := by
    intro bb hbb
    unfold F50_k4
    refine br_of (fun g3 => ?_) (fun g3 => ?_)
    · rw [if_pos (hbb.1 g3)] at hr
      exact ⟨by rw [hr]; rfl, rfl⟩
    have g3' : ¬ (i = 9 ∧ bs.getD i 0 > 1) := fun e => by rw [hbb.2 e] at g3; cases g3
    rw [if_neg g3'] at hr
    unfold F50_k5
    refine ⟨?_, ?_⟩
    · rw [u64_lt (i : Int) (by omega) (by omega), u64_lt (7 * (i : Int)) (by omega) (by omega)]; omega
    rw [round_num v i _ (by omega) hv hlt (fun e => by omega)]
    rintro _ rfl
    have hv' : v + bs.getD i 0 % 128 * 128 ^ i < 128 ^ (i + 1) := by
      have : bs.getD i 0 % 128 * 128 ^ i ≤ 127 * 128 ^ i := Nat.mul_le_mul_right _ (by omega)
      rw [Nat.pow_succ]; omega
    generalize bs.getD i 0 = cc at *
    generalize v + cc % 128 * 128 ^ i = y at *
    have k6 : ∀ b6 : Bool, (b6 = true ↔ cc = 0 ∧ 0 < i) → cc < 128 → F50_k6 (fun x j hh => ∃ i v : Nat, x = v ∧ j = i ∧ i ≤ 10 ∧ v < 128 ^ i ∧ hh = h1 ∧ readVar bs = rv bs (10 - i) i v) (fun _ j _ => (10 - j).toNat) ((10 : Int) - (i : Int)).toNat (y : Int) i b6 h1 fun v h' => v = .tuple #[.int .u64 (readVar bs).1, .int .i64 (readVar bs).2.1, .int .i64 (readVar bs).2.2] ∧ h' = h1 := by
      intro b6 hb6 h128
      rw [if_pos h128] at hr
      unfold F50_k6
      refine br_of (fun g5 => ?_) (fun g5 => ?_)
      · rw [if_pos (hb6.1 g5)] at hr
        exact ⟨by rw [hr]; rfl, rfl⟩
      · rw [if_neg (fun e => by rw [hb6.2 e] at g5; cases g5)] at hr
        unfold F50_k7
        rw [i64_lt _ (by omega) (by omega)]
        exact ⟨by rw [hr]; rfl, rfl⟩
    refine br_of (fun g4 => br_of (fun g5 => ?_) (fun g5 => ?_)) (fun g4 => ?_)
    · refine k6 _ ?_ ?_
      · simp at g5; simp; omega
      · simp at g4; omega
    · refine k6 _ ?_ ?_
      · simp at g5; simp; omega
      · simp at g4; omega
    · have g4' : ¬ cc < 128 := by simp at g4; omega
      rw [if_neg g4'] at hr
      unfold F50_k8
      rw [i64_lt _ (by omega) (by omega)]
      exact ⟨⟨i + 1, _, rfl, by omega, by omega, hv', rfl, by rw [hr]; congr 1; omega⟩, by show ((10 : Int) - ((i : Int) + 1)).toNat < ((10 : Int) - i).toNat; omega⟩
  refine br_of (fun g3 => k4 _ ?_) (fun g3 => k4 _ ?_)
  · have g3' : i = 9 := by simp at g3; omega
    simp only [decide_eq_true_eq]; omega
  · have g3' : i ≠ 9 := by simp at g3; omega
    exact ⟨fun e => (by cases e), fun e => absurd e.1 g3'⟩
end Go.Proofs.YtnahhdkekchmfaaDoor

namespace Go.Proofs.YtnahhdkekchmfaaDoor
open Go.Vc Go.Sha Go.Trail Go.Lay
set_option linter.unusedVariables false
set_option maxRecDepth 4000
def takeP (n : Nat) (bs : List Nat) : Option (List Nat × List Nat) := if n ≤ bs.length then some (bs.take n, bs.drop n) else none
def numP (most : Nat) (bs : List Nat) : Option (Nat × List Nat) := if (readVar bs).2.2 = 0 ∧ (readVar bs).1 ≤ most then some ((readVar bs).1, bs.drop (readVar bs).2.1) else none
def textP (bs : List Nat) : Option (List Nat × List Nat) := (numP bs.length bs).bind fun x => takeP x.1 x.2
def entP (bs : List Nat) : Option (EntV × List Nat) := (takeP 3 bs).bind fun x => (textP x.2).bind fun y =>
  if x.1.getD 0 0 = 1 then (textP y.2).bind fun z => some (⟨str y.1, 1, (x.1.getD 1 0 * 256 + x.1.getD 2 0 : Nat), str z.1⟩, z.2)
  else some (⟨str y.1, (x.1.getD 0 0 : Nat), (x.1.getD 1 0 * 256 + x.1.getD 2 0 : Nat), ByteArray.empty⟩, y.2)
def entsP : Nat → List Nat → Option (List EntV × List Nat)
  | 0, bs => some ([], bs)
  | k + 1, bs => (entsP k bs).bind fun x => (entP x.2).bind fun y => some (x.1 ++ [y.1], y.2)
def headP (bs : List Nat) : Option (Nat × List Nat) := (takeP 3 bs).bind fun x => if x.1 = [86, 76, 1] then numP 64 x.2 else none
def parseP (bs : List Nat) : Option (List EntV × List Nat) := (headP bs).bind fun x => entsP x.1 x.2
/-- what Decode tells -/
def DecIs (bs : List Nat) (es : List EntV) : Prop := parseP bs = some (es, []) ∧ (checkC es).2 = 0
theorem mem_drop {bs : List Nat} {n : Nat} (h : ∀ x ∈ bs, x < 256) : ∀ x ∈ bs.drop n, x < 256 := fun x hx => h x (List.mem_of_mem_drop hx)
theorem mem_take {bs : List Nat} {n : Nat} (h : ∀ x ∈ bs, x < 256) : ∀ x ∈ bs.take n, x < 256 := fun x hx => h x (List.mem_of_mem_take hx)
theorem take_only {n : Nat} {bs : List Nat} {x : List Nat × List Nat} (h : takeP n bs = some x) : bs = x.1 ++ x.2 ∧ x.1.length = n := by
  unfold takeP at h
  split at h
  · cases h; exact ⟨(List.take_append_drop n bs).symm, by simp; omega⟩
  · cases h
theorem take_back (x y : List Nat) : takeP x.length (x ++ y) = some (x, y) := by
  unfold takeP; rw [if_pos (by simp)]; simp
theorem take3 (a b c : Nat) (y : List Nat) : takeP 3 ([a, b, c] ++ y) = some ([a, b, c], y) := take_back [a, b, c] y
theorem num_only {most : Nat} {bs : List Nat} {x : Nat × List Nat} (hb : ∀ y ∈ bs, y < 256) (h : numP most bs = some x) : bs = varB x.1 ++ x.2 ∧ x.1 ≤ most ∧ x.1 < 2 ^ 64 := by
  unfold numP at h
  split at h
  · rename_i hc
    cases h
    have := readVar_only hb hc.1
    exact ⟨this.1, hc.2, this.2.1⟩
  · cases h
theorem num_back {most n : Nat} (hn : n ≤ most) (h64 : n < 2 ^ 64) (rest : List Nat) : numP most (varB n ++ rest) = some (n, rest) := by
  unfold numP
  rw [readVar_back n h64 rest, if_pos ⟨rfl, hn⟩]
  simp
theorem varB_len_pos (n : Nat) : 0 < (varB n).length := varF_pos 10 n
theorem text_only {bs : List Nat} {x : List Nat × List Nat} (hb : ∀ y ∈ bs, y < 256) (h : textP bs = some x) : bs = textB (str x.1) ++ x.2 ∧ (∀ y ∈ x.1, y < 256) ∧ ∀ y ∈ x.2, y < 256 := by
  unfold textP at h
  obtain ⟨y, h1, h2⟩ := Option.bind_eq_some_iff.1 h
  obtain ⟨g1, _, _⟩ := num_only hb h1
  obtain ⟨g2, g3⟩ := take_only h2
  have hy : ∀ z ∈ y.2, z < 256 := fun z hz => hb z (by rw [g1]; exact List.mem_append_right _ hz)
  have hx : ∀ z ∈ x.1, z < 256 := fun z hz => hy z (by rw [g2]; exact List.mem_append_left _ hz)
  refine ⟨?_, hx, fun z hz => hy z (by rw [g2]; exact List.mem_append_right _ hz)⟩
  unfold textB
  rw [str_size, lst_str _ hx, g3, List.append_assoc, ← g2, ← g1]
theorem text_back (s : ByteArray) (hs : s.size < 2 ^ 60) (rest : List Nat) : textP (textB s ++ rest) = some (lst s, rest) := by
  unfold textP textB
  have hl := lst_len s
  have hv := varB_len_pos s.size
  rw [List.append_assoc, num_back (n := s.size) (by simp only [List.length_append]; omega) (by omega)]
  show takeP s.size (lst s ++ rest) = _
  rw [← hl]; exact take_back _ _
/-- what an entry's bytes can hold -/
def Fits (e : EntV) : Prop := 0 ≤ e.kind ∧ e.kind < 256 ∧ 0 ≤ e.mode ∧ e.mode < 65536 ∧ (e.kind ≠ 1 → e.body = ByteArray.empty) ∧ e.path.size < 2 ^ 60 ∧ e.body.size < 2 ^ 60
theorem head3 {l : List Nat} (h : l.length = 3) : l = [l.getD 0 0, l.getD 1 0, l.getD 2 0] := by
  match l, h with
  | [a, b, c], _ => rfl
theorem ent_only {bs : List Nat} {x : EntV × List Nat} (hb : ∀ y ∈ bs, y < 256) (h : entP bs = some x) : bs = entB x.1 ++ x.2 ∧ ∀ y ∈ x.2, y < 256 := by
  unfold entP at h
  obtain ⟨u, h1, h2⟩ := Option.bind_eq_some_iff.1 h
  obtain ⟨y, h3, h4⟩ := Option.bind_eq_some_iff.1 h2
  obtain ⟨g1, g2⟩ := take_only h1
  have hu : ∀ z ∈ u.2, z < 256 := fun z hz => hb z (by rw [g1]; exact List.mem_append_right _ hz)
  obtain ⟨g3, g4, g5⟩ := text_only hu h3
  have h3' := head3 g2
  have hm : ∀ i, i < 3 → u.1.getD i 0 < 256 := fun i hi => by
    rw [List.getD_eq_getElem?_getD, List.getElem?_eq_getElem (by omega)]
    exact hb _ (by rw [g1]; exact List.mem_append_left _ (List.getElem_mem _))
  have b0 := hm 0 (by omega)
  have b1 := hm 1 (by omega)
  have b2 := hm 2 (by omega)
  generalize u.1.getD 0 0 = k at *
  generalize u.1.getD 1 0 = p at *
  generalize u.1.getD 2 0 = q at *
  have e1 : (((p * 256 + q : Nat) : Int).toNat) / 256 = p := by rw [Int.toNat_natCast]; omega
  have e2 : (((p * 256 + q : Nat) : Int).toNat) % 256 = q := by rw [Int.toNat_natCast]; omega
  split at h4
  · rename_i hk
    obtain ⟨z, h5, h6⟩ := Option.bind_eq_some_iff.1 h4
    obtain ⟨g6, g7, g8⟩ := text_only g5 h5
    cases h6
    refine ⟨?_, g8⟩
    unfold entB
    simp only [e1, e2, if_true]
    rw [g1, h3', g3, g6, hk]
    simp
  · rename_i hk
    cases h4
    refine ⟨?_, g5⟩
    unfold entB
    simp only [e1, e2]
    rw [if_neg (by omega), g1, h3', g3]
    simp
theorem ent_back (e : EntV) (hf : Fits e) (rest : List Nat) : entP (entB e ++ rest) = some (e, rest) := by
  obtain ⟨h1, h2, h3, h4, h5, h6, h7⟩ := hf
  have hm : ((e.mode.toNat / 256 * 256 + e.mode.toNat % 256 : Nat) : Int) = e.mode := by omega
  unfold entP entB
  simp only [List.append_assoc]
  rw [take3]
  simp only [Option.bind_some, List.getD_cons_zero, List.getD_cons_succ]
  by_cases hk : e.kind = 1
  · rw [if_pos hk, text_back _ h6]
    simp only [Option.bind_some, hk]
    rw [if_pos (by decide), text_back _ h7]
    simp only [Option.bind_some, str_lst]
    obtain ⟨p, k, m, b⟩ := e
    simp only at hk hm
    rw [hm, hk]
  · rw [if_neg hk, text_back _ h6]
    simp only [Option.bind_some]
    rw [if_neg (by omega)]
    obtain ⟨p, k, m, b⟩ := e
    simp only at hk hm h5 h1
    rw [hm, h5 hk, str_lst, Int.toNat_of_nonneg h1]
    rfl
theorem ents_only {bs : List Nat} (hb : ∀ y ∈ bs, y < 256) : ∀ (k : Nat) {x : List EntV × List Nat}, entsP k bs = some x → bs = entsB x.1 ++ x.2 ∧ x.1.length = k ∧ ∀ y ∈ x.2, y < 256
  | 0, x, h => by cases h; exact ⟨rfl, rfl, hb⟩
  | k + 1, x, h => by
    unfold entsP at h
    obtain ⟨u, h1, h2⟩ := Option.bind_eq_some_iff.1 h
    obtain ⟨y, h3, h4⟩ := Option.bind_eq_some_iff.1 h2
    cases h4
    obtain ⟨g1, g2, g3⟩ := ents_only hb k h1
    obtain ⟨g4, g5⟩ := ent_only g3 h3
    refine ⟨?_, by simp [g2], g5⟩
    rw [entsB_snoc, List.append_assoc, ← g4, ← g1]
theorem ents_back (rest : List Nat) (es : List EntV) (hf : ∀ e ∈ es, Fits e) : ∀ k, k ≤ es.length → entsP k (entsB es ++ rest) = some (es.take k, entsB (es.drop k) ++ rest)
  | 0, _ => rfl
  | k + 1, h => by
    unfold entsP
    rw [ents_back rest es hf k (by omega)]
    have hd : es.drop k = en es k :: es.drop (k + 1) := by rw [List.drop_eq_getElem_cons (by omega), en_eq (by omega)]
    have he : entsB (es.drop k) ++ rest = entB (en es k) ++ (entsB (es.drop (k + 1)) ++ rest) := by
      rw [hd]
      show entB (en es k) ++ entsB (es.drop (k + 1)) ++ rest = _
      rw [List.append_assoc]
    simp only [Option.bind_some]
    rw [he, ent_back _ (hf _ (en_mem (by omega))), take_en (by omega)]
    rfl
theorem parse_only {bs : List Nat} (hb : ∀ y ∈ bs, y < 256) {x : List EntV × List Nat} (h : parseP bs = some x) : bs = encodeC x.1 ++ x.2 ∧ x.1.length ≤ 64 := by
  unfold parseP headP at h
  obtain ⟨u, h1, h2⟩ := Option.bind_eq_some_iff.1 h
  obtain ⟨y, h3, h4⟩ := Option.bind_eq_some_iff.1 h1
  obtain ⟨g1, g2⟩ := take_only h3
  split at h4
  · rename_i hv
    have hy : ∀ z ∈ y.2, z < 256 := fun z hz => hb z (by rw [g1]; exact List.mem_append_right _ hz)
    obtain ⟨g3, g4, _⟩ := num_only hy h4
    have hu : ∀ z ∈ u.2, z < 256 := fun z hz => hy z (by rw [g3]; exact List.mem_append_right _ hz)
    obtain ⟨g5, g6, _⟩ := ents_only hu u.1 h2
    refine ⟨?_, by omega⟩
    unfold encodeC
    rw [g1, hv, g3, g5, g6]
    simp
  · cases h4
theorem parse_back (es : List EntV) (hf : ∀ e ∈ es, Fits e) (hl : es.length ≤ 64) (rest : List Nat) : parseP (encodeC es ++ rest) = some (es, rest) := by
  unfold parseP headP encodeC
  simp only [List.append_assoc]
  rw [take3]
  simp only [Option.bind_some]
  rw [if_pos trivial, num_back hl (by omega)]
  simp only [Option.bind_some]
  have := ents_back rest es hf es.length (Nat.le_refl _)
  rw [this]
  simp [entsB]
theorem good_fits {es : List EntV} (h : (checkC es).2 = 0) (hs : Small es) : ∀ e ∈ es, Fits e := by
  intro e he
  obtain ⟨_, h1, h2, h3, h4, _, h5, h6⟩ := stA_zero (((good_check es).1 h).2.1 e he)
  have := hs e he
  refine ⟨by omega, by omega, by omega, by omega, fun hk => ?_, by omega, by omega⟩
  have h0 := h5 hk
  have : lst e.body = [] := List.eq_nil_of_length_eq_zero (by rw [lst_len]; exact h0)
  rw [← str_lst e.body, this]; rfl
/-- what is decoded has just those bytes as its own -/
theorem dec_only {bs : List Nat} {es : List EntV} (hb : ∀ y ∈ bs, y < 256) (h : DecIs bs es) : bs = encodeC es := by
  have := (parse_only hb h.1).1
  rwa [List.append_nil] at this
theorem dec_back {es : List EntV} (h : (checkC es).2 = 0) (hs : Small es) : DecIs (encodeC es) es := by
  refine ⟨?_, h⟩
  have := parse_back es (good_fits h hs) ((good_check es).1 h).1 []
  rwa [List.append_nil] at this
/-- neither a beginning, nor what has a byte more -/
theorem dec_cut {es fs : List EntV} {bs rest : List Nat} (h : (checkC es).2 = 0) (hs : Small es) (hb : ∀ y ∈ bs, y < 256) (hd : DecIs bs fs) (hp : (encodeC es = bs ++ rest ∧ Small fs) ∨ bs = encodeC es ++ rest) : rest = [] := by
  have hbs := dec_only hb hd
  rcases hp with ⟨hp, hsf⟩ | hp
  · have e1 := parse_back es (good_fits h hs) ((good_check es).1 h).1 []
    have e2 := parse_back fs (good_fits hd.2 hsf) ((good_check fs).1 hd.2).1 rest
    rw [List.append_nil, hp, hbs, e2] at e1
    exact (Prod.mk.inj (Option.some.inj e1)).2
  · have e1 := parse_back es (good_fits h hs) ((good_check es).1 h).1 rest
    rw [← hp, hd.1] at e1
    exact (Prod.mk.inj (Option.some.inj e1)).2.symm
end Go.Proofs.YtnahhdkekchmfaaDoor

namespace Go.Proofs.YtnahhdkekchmfaaDoor
open Go.Vc Go.Sha Go.Trail Go.Lay
set_option linter.unusedVariables false
set_option maxRecDepth 4000
theorem enter31 (args : Array Value) (w : World) : (callFunc 31 args).run Tryd.prog w = .ok (.enter 31 args) w := by
  unfold callFunc
  have hf := Tryd.func31
  have hn : (Tryd.f31.name == "runtime.NumGoroutine") = false := by kernel_rfl
  have hb : Tryd.f31.body.isNone = false := by kernel_rfl
  simp only [Sem.run_bind, run_program, Result.andThen_ok, hf, hn, Bool.false_eq_true, if_false, hb, Sem.run_pure]
theorem catch_idle (p q : Addr) : DefR Tryd.prog 31 #[.pointer (some p), .pointer (some q)] := by
  intro w
  refine ⟨enter31 _ w, ?_⟩
  refine callsD_of_wpS Tryd.func31 rfl fun c₀ cs hu => ?_
  apply wpS_seq
  apply wpS_region
  simp [wpOpsS, go_sem, recoverD, hu, Tryd.ntmps31, Exit.thenS]
  refine wpS_cond (t := false) (by simp [Act.eval, Array.replicate]) ?_
  simp only [Bool.false_eq_true, if_false]
  refine wpS_of_wp (wp_skip ?_)
  cases c₀
  simp_all [bodyPostS, results, Tryd.results31]
theorem catch_ok (b2 b3 : Nat) (h : Heap) (v2 v3 : Value) (h2 : h[b2]? = some (.cells #[v2] 22 (0, 0))) (h3 : h[b3]? = some (.cells #[v3] 23 (0, 0))) (hne : b2 ≠ b3) {R : Heap → Prop}
    (hR : ∀ h', h'[b2]? = some (.cells #[.slice none 0 0] 22 (0, 0)) → h'[b3]? = some (.cells #[.int .i64 5] 23 (0, 0)) → Keep (fun k => k = b2 ∨ k = b3) h h' → R h') :
    DefP Tryd.prog 31 #[.pointer (some (at0 b2)), .pointer (some (at0 b3))] h R := by
  intro w hw
  refine ⟨enter31 _ w, fun t v => ?_⟩
  refine callsD_of_wpS Tryd.func31 rfl fun c₀ cs hu => ?_
  apply wpS_seq
  apply wpS_region
  simp [wpOpsS, go_sem, recoverD, hu, Tryd.ntmps31, Exit.thenS]
  refine wpS_cond (t := true) (by simp [Act.eval, Array.replicate]) ?_
  simp only [if_true]
  refine wpS_of_wp ?_
  have hA : Agree (⟨4, [(0, some (.pointer (some (at0 b2)))), (1, some (.pointer (some (at0 b3)))), (2, none), (3, none)]⟩ : Env) (#[Value.pointer (some (at0 b2)), Value.pointer (some (at0 b3))] ++ ((Array.replicate 2 undef).setIfInBounds 0 (Value.iface t v)).setIfInBounds 1 (Value.bool true)) := by
    refine ⟨by simp, fun n u hn => ?_⟩
    have hlt := Env.get_lt hn
    match n, hlt with
    | 0, _ => cases hn; rfl
    | 1, _ => cases hn; rfl
    | 2, _ => cases hn
    | 3, _ => cases hn
  refine wp_region_list (vcOps_sound (A := ({} : Ann)) (D := []) (W := []) (K := fun _ h' => R h') _ (by simp) hA hw rfl (fun e a w' _ hK hk hd _ => ?_) (fun _ _ _ _ hp => hp.elim) ?_)
  · refine ⟨hd, _, rfl, .tuple #[], ?_, rfl, rfl, hk, hK⟩
    simp [results, Tryd.results31]
  · refine Eq.mp (by kernel_rfl) (?_ : storeK 1 h (at0 b2) (.slice none 0 0) fun h1 => storeK 1 h1 (at0 b3) (.int .i64 5) fun h2 => R h2)
    refine storeK_one (cs := #[v2]) h2 (by simp) (.inr (Nat.zero_le _)) rfl fun h4 n4 o4 => ?_
    refine storeK_one (cs := #[v3]) (o4.blk h3 (Ne.symm hne)) (by simp) (.inr (Nat.zero_le _)) rfl fun h5 n5 o5 => ?_
    exact hR _ (o5.blk n4 hne) n5 ((o4.keep (.inl rfl)).trans (o5.keep (.inr rfl)))

/-! ### the reader -/
theorem tab_drop {n : Nat} {h : Heap} {a : Option Addr} {l c : Nat} {rows : List (List Value)} (w : Tab n h a l c rows) (k : Nat) (hk : k ≤ l) : Tab n h (cutAt c k n a) (l - k) (c - k) (rows.drop k) := by
  have hlen := w.len
  have hcap := w.cap
  refine ⟨by rw [List.length_drop, hlen], by omega, fun r hr => w.row r (List.mem_of_mem_drop hr), fun hne => ?_, fun e => ?_⟩
  · have hlt : k < rows.length := by
      refine Nat.lt_of_not_le fun hle => hne (List.drop_eq_nil_of_le hle)
    obtain ⟨b, o, e, hb, hc⟩ := w.at_ (fun e => by rw [e] at hlt; simp at hlt)
    refine ⟨b, o + k * n, ?_, hb, fun i r hi j v hj => ?_⟩
    · unfold cutAt; rw [if_neg (by omega), e]; simp [add_mk]
    · rw [List.getElem?_drop] at hi
      have := hc (k + i) r hi j v hj
      rw [Nat.add_mul] at this
      rw [← this]; congr 2; omega
  · unfold cutAt at e
    split at e
    · rw [w.nil e]; simp
    · rw [w.nil (by cases a <;> simp_all)]; simp
theorem rows8_flat : ∀ bs : List Nat, (rows8 bs).flatten = bs.map fun n : Nat => Value.int .u8 (n : Int)
  | [] => rfl
  | x :: xs => by
    show [u8 x] ++ (rows8 xs).flatten = _
    rw [rows8_flat xs]; rfl
theorem tab8_cells {h : Heap} {a : Option Addr} {l c : Nat} {bs : List Nat} (w : Tab 1 h a l c (rows8 bs)) (hb : ∀ x ∈ bs, x < 256) : ∀ ad, a = some ad → CellsAt h ad (bytesV (str bs)) := by
  intro ad e
  rw [bytesV_str bs hb]
  have := w.cells ad e
  rw [rows8_flat] at this
  exact this
theorem need_ok (p : Option Addr) (b : Bool) (h : Heap) {R : Value → Heap → Prop} {Rp : Heap → Prop} (h1 : b = true → R (.tuple #[]) h) (h2 : b = false → Rp h) : HCallsP Tryd.prog 32 #[.pointer p, .bool b] h R Rp := by
  refine F32_ent _ _ _ _ _ ?_
  unfold F32
  refine br_of (fun g => h2 (by simpa using g)) (fun g => h1 (by simpa using g))
theorem take_ok {h0 : Heap} (B n : Nat) (bs : List Nat) (hb : ∀ x ∈ bs, x < 256) (a : Option Addr) (l c : Nat) (h : Heap) (hB : h[B]? = some (.cells #[.slice a l c] 65 (0, 0))) (x : Ext h0 h) (hB0 : h0.size ≤ B) (w : Tab 1 h0 a l c (rows8 bs)) {R : Value → Heap → Prop} {Rp : Heap → Prop}
    (hok : ∀ a' l' c' h', n ≤ bs.length → Tab 1 h0 a' l' c' (rows8 (bs.drop n)) → h'[B]? = some (.cells #[.slice a' l' c'] 65 (0, 0)) → Only B h h' → R (.string (str (bs.take n))) h') (hno : bs.length < n → Rp h) :
    HCallsP Tryd.prog 33 #[.pointer (some (at0 B)), .int .i64 n] h R Rp := by
  have hlen : bs.length = l := by have := w.len; rwa [rows8_len] at this
  have hcap := w.cap
  have hc : Vc.cell h ((at0 B).add 0) = some (.slice a l c) := by rw [add_at0, cell_blk hB]; rfl
  refine F33_ent _ _ _ _ _ ?_
  unfold F33
  refine ⟨_, rfl, a, l, c, hc, need_ok _ _ _ (fun g => ⟨rfl, _, rfl, a, l, c, hc, ?_⟩) (fun g => hno (by simp at g; omega))⟩
  have hn : n ≤ l := by simp at g; omega
  refine ⟨by omega, by omega, by omega, str (bs.take n), by rw [str_size, List.length_take, Int.toNat_natCast]; omega, fun ad e => ?_, fun e => ?_, _, rfl, a, l, c, hc, by omega, by omega, _, rfl, ?_⟩
  · rw [cutAt0] at e
    have wt := (w.grow x).take n hn
    rw [show (rows8 bs).take n = rows8 (bs.take n) from (List.map_take ..).symm] at wt
    exact tab8_cells wt (mem_take hb) ad e
  · rw [cutAt0] at e
    have := w.nil e
    have : bs.length = 0 := by rw [← rows8_len, this]; rfl
    rw [Int.toNat_natCast]; omega
  · rw [Int.toNat_natCast, add_at0]
    refine storeK_one hB (by simp) (.inr (Nat.zero_le _)) rfl fun h' n' o' => hok _ _ _ h' (by omega) ?_ n' o'
    have wd := tab_drop w n hn
    rwa [show (rows8 bs).drop n = rows8 (bs.drop n) from (List.map_drop ..).symm] at wd
theorem number_ok {h0 : Heap} (B most : Nat) (bs : List Nat) (hb : ∀ x ∈ bs, x < 256) (a : Option Addr) (l c : Nat) (h : Heap) (hB : h[B]? = some (.cells #[.slice a l c] 65 (0, 0))) (x : Ext h0 h) (hB0 : h0.size ≤ B) (w : Tab 1 h0 a l c (rows8 bs)) (hl : l < 2 ^ 40) (hm : most < 2 ^ 40) {R : Value → Heap → Prop} {Rp : Heap → Prop}
    (hok : ∀ v r a' l' c' h', numP most bs = some (v, r) → Tab 1 h0 a' l' c' (rows8 r) → h'[B]? = some (.cells #[.slice a' l' c'] 65 (0, 0)) → Only B h h' → R (.int .i64 (v : Nat)) h') (hno : numP most bs = none → Rp h) :
    HCallsP Tryd.prog 34 #[.pointer (some (at0 B)), .int .i64 most] h R Rp := by
  have hlen : bs.length = l := by have := w.len; rwa [rows8_len] at this
  have hc : Vc.cell h ((at0 B).add 0) = some (.slice a l c) := by rw [add_at0, cell_blk hB]; rfl
  refine F34_ent _ _ _ _ _ ?_
  unfold F34
  refine ⟨_, rfl, a, l, c, hc, HEnt.use (readVar_ok a l c bs h (w.grow x) hb hl) ?_⟩
  rintro _ h1 ⟨rfl, e1⟩
  replace e1 := e1.symm
  subst e1
  have hbd := rv_bound bs 10 0 0
  refine ⟨_, _, _, rfl, br_of (fun g => ?_) (fun g => need_ok _ _ _ (fun g => by cases g) (fun _ => hno ?_))⟩
  · have g' : (readVar bs).2.2 = 0 := by simp at g; omega
    refine need_ok _ _ _ (fun g2 => ⟨rfl, ?_⟩) (fun g2 => hno ?_)
    · rw [u64_lt _ (by omega) (by omega)] at g2
      have g2' : (readVar bs).1 ≤ most := by simp at g2; omega
      have hnum : numP most bs = some ((readVar bs).1, bs.drop (readVar bs).2.1) := if_pos ⟨g', g2'⟩
      unfold F34_k1
      have hbd' : (readVar bs).2.1 ≤ l := by rw [← hlen]; exact hbd
      refine ⟨_, rfl, a, l, c, hc, by omega, by omega, _, rfl, ?_⟩
      rw [Int.toNat_natCast, add_at0, i64_lt _ (by omega) (by omega)]
      refine storeK_one hB (by simp) (.inr (Nat.zero_le _)) rfl fun h' n' o' => hok _ _ _ _ _ h' hnum ?_ n' o'
      have wd := tab_drop w (readVar bs).2.1 hbd'
      rwa [show (rows8 bs).drop (readVar bs).2.1 = rows8 (bs.drop (readVar bs).2.1) from (List.map_drop ..).symm] at wd
    · rw [u64_lt _ (by omega) (by omega)] at g2
      refine if_neg fun hh => ?_
      have := hh.2
      simp at g2; omega
  · refine if_neg fun hh => ?_
    have := hh.1
    simp at g; omega
end Go.Proofs.YtnahhdkekchmfaaDoor
