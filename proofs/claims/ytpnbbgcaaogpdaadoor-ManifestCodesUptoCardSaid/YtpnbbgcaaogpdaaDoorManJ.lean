import Derived.Test.YtpnbbgcaaogpdaaDoorManI

namespace Go.Proofs.YtpnbbgcaaogpdaaDoor
open Go.Vc Go.Sha Go.Trail Go.RowKit Go.Man
set_option linter.unusedVariables false
set_option linter.unusedSimpArgs false
set_option maxRecDepth 8000
def r0 : RefV := (List.replicate 32 0, 300)
def m0 : ManV := ⟨⟨#[97]⟩, ⟨#[49]⟩, [r0]⟩
theorem m0_check : checkM m0 = 0 := by decide +kernel
theorem m0_size : sizeM m0 = 300 := by decide +kernel
theorem m0_enc : encodeM m0 = [86, 77, 1, 1, 97, 1, 49, 1] ++ (List.replicate 32 0 ++ [172, 2]) := by decide +kernel
theorem m0_big : Big m0 := by
  refine ⟨by decide, by decide, fun r hr => ?_⟩
  simp only [m0, List.mem_cons, List.not_mem_nil, or_false] at hr
  subst hr
  refine ⟨rfl, ?_, by decide, by decide⟩
  intro x hx
  have := (List.mem_replicate.1 hx).2
  omega
theorem order_ex : orderC (lst ⟨#[49, 46, 57]⟩) (lst ⟨#[49, 46, 49, 48]⟩) = -1 := by decide +kernel
theorem works_ok (h : Heap) (hm : MaxAt h) : HEnt Tryd.prog 16 #[] h fun v h' => v = .bool true ∧ Ext h h' := by
  refine F16_ent _ _ ?_
  unfold F16
  refine ⟨rfl, by decide, newK_intro fun h1 hb1 x1 _ => newK_intro fun h2 hb2 x2 _ => ?_⟩
  refine storeK_whole hb2 rfl zsize24 (by
    intro u hu
    simp only [List.mem_cons, List.not_mem_nil, or_false] at hu
    rcases hu with rfl | rfl | rfl <;> rfl) fun h3 hb3 o3 => ?_
  have z1 := x1.size
  have z2 := x2.size
  have x3 : Ext h1 h3 := Keep.since x2 (o3.keep rfl : Keep (fun j => j = h1.size) h2 h3) fun j hj e => by omega
  have x13 := x1.trans x3
  have hbr := x3.blk hb1
  have tab : Tab 33 h3 (some (at0 h.size)) 1 1 (rowsR m0.refs) := by
    have : OwnR 54 33 h h3 (some ⟨h.size, 0, none⟩) 1 1 [refC r0] := OwnR.new_ (rows := [refC r0]) hbr x13 (Nat.le_refl _) (by simp [refC, r0]) rfl
    exact this.rows
  refine ⟨⟨#[97]⟩, ⟨#[49]⟩, some (at0 h.size), 1, 1, by rw [at_cell hb3]; rfl, by rw [at_cell hb3]; rfl, by rw [at_cell hb3]; rfl, rfl, HEnt.use (encode_ok m0 (some (at0 h.size)) 1 1 h3 tab m0_big (by omega)) ?_⟩
  rintro _ h4 ⟨a', l', c', rfl, x4, hown, _⟩
  have o := hown m0_check
  have hl := own_len o
  have hc := own_cells o
  rw [m0_enc] at hl hc
  have hl' : l' = 42 := by rw [← hl]; rfl
  have hcap : l' ≤ c' := by
    rcases o.own with ⟨_, _, _, e⟩ | o
    · rw [m0_enc] at e; simp at e
    · exact o.cap
  refine ⟨a', l', c', _, rfl, br_of (fun _ => ?_) (fun e => ?_)⟩
  rotate_left
  · have : ¬ (l' : Int) = 42 := by simpa using e
    omega
  refine ⟨by omega, by omega, by omega, str [86, 77, 1, 1, 97, 1, 49, 1], rfl, ?_, ?_, ?_⟩
  · intro ad e
    rw [cutAt0] at e
    rw [bytesV_str _ (by decide)]
    intro i v hv
    refine hc.1 ad e i v ?_
    have hv' : (List.map u8 [86, 77, 1, 1, 97, 1, 49, 1])[i]? = some v := hv
    rw [List.map_append, List.getElem?_append_left (List.getElem?_eq_some_iff.1 hv').1]
    exact hv'
  · intro e
    rw [cutAt0] at e
    have := hc.2 e
    simp at this
  refine br_of (fun _ => ?_) (fun e => ?_)
  rotate_left
  · rw [seq_lst, lst_str _ (by decide)] at e
    exact absurd e (by decide)
  rw [m0_check]
  refine br_of (fun _ => ?_) (fun e => by cases e)
  have hb4 := x4.blk hb3
  have x14 := x13.trans x4
  refine ⟨⟨#[97]⟩, ⟨#[49]⟩, some (at0 h.size), 1, 1, by rw [at_cell hb4]; rfl, by rw [at_cell hb4]; rfl, by rw [at_cell hb4]; rfl, rfl, HEnt.use (size_ok m0 (some (at0 h.size)) 1 1 h4 (tab.grow x4) m0_big (by omega)) ?_⟩
  rintro _ h5 ⟨rfl, x5⟩
  rw [m0_size]
  refine ⟨_, rfl, br_of (fun _ => ?_) (fun e => by cases e)⟩
  refine HEnt.use (order_ok _ _ (by decide) (by decide) h5 (hm.ext (x14.trans x5))) ?_
  rintro _ h6 ⟨rfl, x6⟩
  rw [order_ex]
  exact ⟨_, rfl, rfl, (x14.trans x5).trans x6⟩
def yes (h : Heap) : Value → Heap → Prop := fun v h' => v = .bool true ∧ Ext h h'
theorem works_yes {h h1 : Heap} (x : Ext h h1) (hm : MaxAt h) : HCalls Tryd.prog 16 #[] h1 fun r h2 => ∃ b, r = .bool b ∧ yes h (.bool b) h2 := by
  refine HEnt.use (works_ok h1 (hm.ext x)) ?_
  rintro _ h2 ⟨rfl, x2⟩
  exact ⟨true, rfl, rfl, x.trans x2⟩
theorem orders_ok (s t : ByteArray) (hs : s.size < 2 ^ 31) (ht : t.size < 2 ^ 31) (h : Heap) (hm : MaxAt h) : HEnt Tryd.prog 4 #[.string s, .string t] h (yes h) := by
  refine F4_ent _ _ _ _ ?_
  have two : F4_k2 s t h (yes h) := by
    unfold F4_k2
    refine HEnt.use (order_ok s t hs ht h hm) ?_
    rintro _ h1 ⟨rfl, x1⟩
    refine ⟨_, rfl, HEnt.use (refOrder_ok s t hs ht h1) ?_⟩
    rintro _ h2 ⟨rfl, x2⟩
    exact ⟨_, rfl, br_of (fun _ => works_yes (x1.trans x2) hm) (fun e => by simp at e)⟩
  have one : ∀ b, F4_k1 s t b h (yes h) := fun b => by
    unfold F4_k1
    exact br_of (fun _ => works_yes (Ext.refl _) hm) (fun _ => two)
  unfold F4
  exact br_of (fun _ => one _) (fun _ => one _)
theorem cmp_bounds (a b : List Nat) : orderC a b = -1 ∨ orderC a b = 0 ∨ orderC a b = 1 := orderC_cmp.sgn a b
theorem one_ok (s t u : ByteArray) (hs : s.size < 2 ^ 31) (ht : t.size < 2 ^ 31) (hu : u.size < 2 ^ 31) (h : Heap) (hm : MaxAt h) : HEnt Tryd.prog 5 #[.string s, .string t, .string u] h (yes h) := by
  refine F5_ent _ _ _ _ _ ?_
  have g1 := cmp_bounds (lst s) (lst t)
  have g2 := cmp_bounds (lst t) (lst u)
  have g3 := cmp_bounds (lst s) (lst u)
  have four : ∀ h1, Ext h h1 → F5_k4 s t (orderC (lst s) (lst t)) h1 (yes h) := fun h1 x1 => by
    unfold F5_k4
    refine HEnt.use (order_ok t s ht hs h1 (hm.ext x1)) ?_
    rintro _ h2 ⟨rfl, x2⟩
    have e1 := orderC_cmp.anti (lst s) (lst t)
    refine ⟨_, rfl, br_of (fun _ => br_of (fun _ => ?_) (fun e => ?_)) (fun e => ?_)⟩
    · refine HEnt.use (order_ok s s hs hs h2 (hm.ext (x1.trans x2))) ?_
      rintro _ h3 ⟨rfl, x3⟩
      have := orderC_cmp.self (lst s)
      rw [this]
      exact ⟨_, rfl, br_of (fun _ => works_yes ((x1.trans x2).trans x3) hm) (fun e => by cases e)⟩
    · exfalso
      rw [seq_lst] at e
      have hz := orderC_cmp.zero (lst s) (lst t)
      by_cases h0 : lst s = lst t
      · rw [hz.2 h0] at e; simp [h0] at e
      · have : orderC (lst s) (lst t) ≠ 0 := fun h => h0 (hz.1 h)
        simp [h0, this] at e
    · exfalso
      rw [e1, i64_lt _ (by omega) (by omega)] at e
      simp at e
  have three : ∀ h1 b, Ext h h1 → b = false → F5_k3 s t (orderC (lst s) (lst t)) b h1 (yes h) := fun h1 b x1 hb => by
    subst hb
    unfold F5_k3
    exact br_of (fun e => by cases e) (fun _ => four h1 x1)
  have two : F5_k2 s t u h (yes h) := by
    unfold F5_k2
    refine HEnt.use (order_ok s t hs ht h hm) ?_
    rintro _ h1 ⟨rfl, x1⟩
    refine ⟨_, rfl, HEnt.use (order_ok t u ht hu h1 (hm.ext x1)) ?_⟩
    rintro _ h2 ⟨rfl, x2⟩
    have x12 := x1.trans x2
    refine ⟨_, rfl, HEnt.use (order_ok s u hs hu h2 (hm.ext x12)) ?_⟩
    rintro _ h3 ⟨rfl, x3⟩
    have x13 := x12.trans x3
    refine ⟨_, rfl, br_of (fun q1 => br_of (fun q2 => br_of (fun q3 => ?_) (fun q3 => br_of (fun q4 => three _ _ x13 ?_) (fun _ => three _ _ x13 rfl))) (fun _ => three _ _ x13 rfl)) (fun _ => three _ _ x13 rfl)⟩
    · exfalso
      have q1 : orderC (lst s) (lst t) ≤ 0 := by simpa using q1
      have q2 : orderC (lst t) (lst u) ≤ 0 := by simpa using q2
      have q3 : orderC (lst s) (lst u) > 0 := by simpa using q3
      rcases g1 with g1 | g1 | g1
      · rcases g2 with g2 | g2 | g2
        · have := orderC_cmp.trans _ _ _ g1 g2; omega
        · rw [(orderC_cmp.zero _ _).1 g2] at g1; omega
        · omega
      · rw [(orderC_cmp.zero _ _).1 g1] at q3; omega
      · omega
    · have q1 : orderC (lst s) (lst t) ≤ 0 := by simpa using q1
      have q2 : orderC (lst t) (lst u) ≤ 0 := by simpa using q2
      have q4 : orderC (lst s) (lst u) = 0 := by simpa using q4
      have e := (orderC_cmp.zero _ _).1 q4
      rw [← e] at q2 ⊢
      have ea := orderC_cmp.anti (lst s) (lst t)
      rw [i64_lt _ (by omega) (by omega)]
      exact decide_eq_false (by omega)
  have one : ∀ b, F5_k1 s t u b h (yes h) := fun b => by
    unfold F5_k1
    exact br_of (fun _ => works_yes (Ext.refl _) hm) (fun _ => two)
  unfold F5
  exact br_of (fun _ => one _) (fun _ => br_of (fun _ => one _) (fun _ => one _))
theorem lst_dotb : lst ⟨#[46]⟩ = [46] := rfl
theorem size_dotb : (⟨#[46]⟩ : ByteArray).size = 1 := rfl
theorem dig_len (f n : Nat) : (dig f n).length ≤ f + 1 := by
  induction f generalizing n with
  | zero => simp [dig]
  | succ f ih =>
    unfold dig; split
    · simp
    · have := ih (n / 10); simp; omega
theorem tens : ∀ k, k < 10 → (⟨#[48, 49, 50, 51, 52, 53, 54, 55, 56, 57]⟩ : ByteArray).extract k (k + 1) = str [48 + k] := by decide +kernel
theorem dig_one (f n : Nat) (h : n < 10) : dig f n = [48 + n] := by
  cases f with
  | zero => simp [dig, Nat.mod_eq_of_lt h]
  | succ f => simp [dig, h]
theorem str_app (x y : List Nat) : str x ++ str y = str (x ++ y) := by
  refine lst_inj ?_
  rw [lst_append]; simp [lst, str]
theorem dig_ok (f n : Nat) (hn : n < 10 ^ (f + 1)) (hf : f ≤ 3) (h : Heap) : HEnt Tryd.prog 19 #[.int .i64 n] h fun v h' => v = .string (str (dig f n)) ∧ h' = h := by
  induction f generalizing n h with
  | zero =>
    refine F19_ent _ _ _ ?_
    unfold F19
    have hn' : n < 10 := by simpa using hn
    refine br_of (fun _ => ?_) (fun e => ?_)
    · rw [i64_lt _ (by omega) (by omega)]
      refine ⟨by omega, by omega, by show ((n : Int) + 1) ≤ 10; omega, ?_, rfl⟩
      rw [Int.toNat_natCast, show ((n : Int) + 1).toNat = n + 1 by omega, tens n hn']
      unfold dig; rw [Nat.mod_eq_of_lt hn']
    · have : ¬ (n : Int) < 10 := by simpa using e
      omega
  | succ f ih =>
    have hn2 : n < 10000 := Nat.lt_of_lt_of_le hn (by
      have : f + 1 + 1 ≤ 4 := by omega
      exact Nat.pow_le_pow_right (by decide) this)
    refine F19_ent _ _ _ ?_
    unfold F19
    refine br_of (fun e => ?_) (fun e => ?_)
    · have hn' : n < 10 := by
        have : (n : Int) < 10 := by simpa using e
        omega
      rw [i64_lt _ (by omega) (by omega)]
      refine ⟨by omega, by omega, by show ((n : Int) + 1) ≤ 10; omega, ?_, rfl⟩
      rw [Int.toNat_natCast, show ((n : Int) + 1).toNat = n + 1 by omega, tens n hn']
      unfold dig; rw [if_pos hn']
    · have hn' : ¬ n < 10 := by
        have : ¬ (n : Int) < 10 := by simpa using e
        omega
      unfold F19_k1
      have e1 : (n : Int).tdiv 10 = ((n / 10 : Nat) : Int) := rfl
      have e2 : (n : Int).tmod 10 = ((n % 10 : Nat) : Int) := rfl
      rw [e1, e2, i64_lt _ (by omega) (by omega)]
      refine ⟨by decide, HEnt.use (ih (n / 10) (by rw [Nat.pow_succ] at hn; omega) (by omega) h) ?_⟩
      rintro _ h1 ⟨rfl, e3⟩
      subst e3
      refine ⟨_, rfl, by decide, HEnt.use (ih (n % 10) (Nat.lt_of_lt_of_le (Nat.mod_lt _ (by decide)) (by rw [Nat.pow_succ]; have := Nat.pow_pos (n := f) (show 0 < 10 by decide); omega)) (by omega) h1) ?_⟩
      rintro _ h2 ⟨rfl, e4⟩
      subst e4
      have hd := dig_len f (n / 10)
      refine ⟨_, rfl, by rw [str_size, str_size, dig_one f _ (Nat.mod_lt _ (by decide))]; simp; omega, ?_, rfl⟩
      rw [dig_one f _ (Nat.mod_lt _ (by decide)), str_app]
      conv => rhs; unfold dig
      rw [if_neg hn']
theorem dig_1000 (n : Nat) (h : n ≤ 1000) : n < 10 ^ (3 + 1) := by omega
theorem dig_lt (f n : Nat) : ∀ c ∈ dig f n, c < 256 := by
  induction f generalizing n with
  | zero => intro c hc; simp [dig] at hc; omega
  | succ f ih =>
    intro c hc
    unfold dig at hc
    split at hc
    · simp at hc; omega
    · rcases List.mem_append.1 hc with hc | hc
      · exact ih _ c hc
      · simp at hc; omega
theorem grows_ok (s : ByteArray) (x : Int) (t : ByteArray) (hs : s.size < 2 ^ 29) (ht : t.size < 2 ^ 29) (h : Heap) (hm : MaxAt h) : HEnt Tryd.prog 6 #[.string s, .int .i64 x, .string t] h (yes h) := by
  refine F6_ent _ _ _ _ _ ?_
  have two : F6_k2 s x t h (yes h) := by
    unfold F6_k2
    refine ⟨by decide, by decide, ?_⟩
    rintro y rfl
    have hr := Int.tmod_lt_of_pos x (show (0 : Int) < 1000 by decide)
    have hr2 : -1000 < x.tmod 1000 := by have := Int.lt_tmod_of_pos x (show (0 : Int) < 1000 by decide); omega
    rw [i64_lt (x.tmod 1000 + 1000) (by omega) (by omega)]
    obtain ⟨n, hn, hn1⟩ : ∃ n : Nat, (x.tmod 1000 + 1000).tmod 1000 = (n : Int) ∧ n < 1000 := by
      have h1 := Int.tmod_nonneg (a := x.tmod 1000 + 1000) 1000 (by omega)
      have h2 := Int.tmod_lt_of_pos (x.tmod 1000 + 1000) (show (0 : Int) < 1000 by decide)
      exact ⟨((x.tmod 1000 + 1000).tmod 1000).toNat, by omega, by omega⟩
    rw [hn]
    have d1 := dig_len 3 n
    have d2 := dig_len 3 (n + 1)
    have ps := size_dotb
    refine ⟨by omega, HEnt.use (dig_ok 3 n (by omega) (Nat.le_refl _) h) ?_⟩
    rintro _ h1 ⟨rfl, e1⟩
    subst e1
    have en : IntKind.i64.wrap ((n : Int) + 1) = ((n + 1 : Nat) : Int) := by rw [i64_lt _ (by omega) (by omega)]; omega
    rw [en]
    refine ⟨_, rfl, by rw [ByteArray.size_append, str_size]; omega, by omega, HEnt.use (dig_ok 3 (n + 1) (by omega) (Nat.le_refl _) h1) ?_⟩
    rintro _ h2 ⟨rfl, e2⟩
    subst e2
    refine ⟨_, rfl, by rw [ByteArray.size_append, str_size]; omega, ?_⟩
    rintro s7 e7 s8 e8
    have l7 : lst s7 = lst s ++ 46 :: dig 3 n := by rw [e7, lst_append, lst_append, lst_str _ (dig_lt 3 n), lst_dotb]; simp
    have l8 : lst s8 = lst s ++ 46 :: dig 3 (n + 1) := by rw [e8, lst_append, lst_append, lst_str _ (dig_lt 3 (n + 1)), lst_dotb]; simp
    have z7 : s7.size < 2 ^ 29 + 10 := by rw [← lst_len, l7]; simp [lst_len]; omega
    have z8 : s8.size < 2 ^ 29 + 10 := by rw [← lst_len, l8]; simp [lst_len]; omega
    have l9 : lst ((s7 ++ (⟨#[46]⟩ : ByteArray)) ++ t) = (lst s ++ 46 :: dig 3 n) ++ 46 :: lst t := by rw [lst_append, lst_append, l7, lst_dotb]; simp
    have z9 : ((s7 ++ (⟨#[46]⟩ : ByteArray)) ++ t).size < 2 ^ 30 + 20 := by rw [ByteArray.size_append, ByteArray.size_append]; omega
    obtain ⟨q1, q2, q3⟩ := grows (lst s) n hn1 (lst t)
    have sz : s7.size + (⟨#[46]⟩ : ByteArray).size ≤ 9223372036854775807 := by omega
    have sz2 : (s7 ++ (⟨#[46]⟩ : ByteArray)).size + t.size ≤ 9223372036854775807 := by rw [ByteArray.size_append]; omega
    refine HEnt.use (order_ok s7 s8 (by omega) (by omega) h2 hm) ?_
    rintro _ h3 ⟨rfl, x3⟩
    rw [l7, l8, q1]
    refine ⟨_, rfl, br_of (fun _ => ⟨sz, sz2, ?_⟩) (fun e => by cases e)⟩
    refine HEnt.use (order_ok _ s8 (by omega) (by omega) h3 (hm.ext x3)) ?_
    rintro _ h4 ⟨rfl, x4⟩
    rw [l9, l8, q2]
    refine ⟨_, rfl, br_of (fun _ => ⟨sz, sz2, ?_⟩) (fun e => by cases e)⟩
    refine HEnt.use (order_ok s7 _ (by omega) (by omega) h4 (hm.ext (x3.trans x4))) ?_
    rintro _ h5 ⟨rfl, x5⟩
    rw [l7, l9, q3]
    exact ⟨_, rfl, br_of (fun _ => works_yes ((x3.trans x4).trans x5) hm) (fun e => by cases e)⟩
  have one : ∀ b, F6_k1 s x t b h (yes h) := fun b => by
    unfold F6_k1
    exact br_of (fun _ => works_yes (Ext.refl _) hm) (fun _ => two)
  unfold F6
  exact br_of (fun _ => one _) (fun _ => one _)
end Go.Proofs.YtpnbbgcaaogpdaaDoor
