import Derived.Test.YtpnbbgcaaogpdaaDoorManF

namespace Go.Proofs.YtpnbbgcaaogpdaaDoor
open Go.Vc Go.Sha Go.Trail Go.RowKit Go.Man
set_option linter.unusedVariables false
set_option linter.unusedSimpArgs false
set_option maxRecDepth 8000
theorem at_cell2 {h : Heap} {ad : Addr} {i j : Nat} {v : Value} (hc : Vc.cell h ((ad.add i).add j) = some v) : Vc.cell h ((ad.add i).add j) = some v := hc
theorem row_eq (x y : List Nat) (hx : x.length = 32) (hy : y.length = 32) (w : World) : (Op.equal 48 (.agg (x.map fun n : Nat => Value.int .u8 (n : Int)).toArray) (.agg (y.map fun n : Nat => Value.int .u8 (n : Int)).toArray)).run Tryd.prog w = .ok (decide (x = y)) w :=
  keyed48.eq x y hx hy w
theorem refCheck_ok (m : ManV) (a : Option Addr) (l c : Nat) (h : Heap) (w : Tab 33 h a l c (rowsR m.refs)) (hb : Big m) (hl : l < 2 ^ 40) :
    HEnt Tryd.prog 12 #[.agg (manA m a l c)] h fun v h' => v = .int .i64 (checkM m) ∧ Ext h h' := by
  obtain ⟨hn1, hn2, hrefs⟩ := hb
  have hlen : m.refs.length = l := by have := w.len; rwa [rowsR_len] at this
  refine F12_ent _ _ _ _ _ _ _ ?_
  unfold F12
  refine newK_intro fun h1 hb1 x1 _ => ?_
  have sl : Vc.cell h1 ((at0 h.size).add 2) = some (.slice a l c) := by rw [at_cell hb1]; rfl
  have fin : ∀ (b6 : Bool), (b6 = true → nameB (lst m.name) = false ∨ nameB (lst m.ver) = false) → (b6 = false → nameB (lst m.name) = true ∧ nameB (lst m.ver) = true) → F12_k1 (at0 h.size) b6 h1 fun v h' => v = .int .i64 (checkM m) ∧ Ext h h' := by
    intro b6 hbad hgood
    unfold F12_k1
    refine br_of (fun hb => ⟨by unfold checkM; rw [if_pos (hbad hb)]; rfl, x1⟩) (fun hb => ?_)
    have hg := hgood hb
    have hn : ¬ (nameB (lst m.name) = false ∨ nameB (lst m.ver) = false) := by rw [hg.1, hg.2]; simp
    unfold F12_k2
    refine ⟨a, l, c, sl, br_of (fun h0 => ⟨?_, x1⟩) (fun h0 => ?_)⟩
    · have h0' : (l : Int) = 0 := by simpa using h0
      unfold checkM; rw [if_neg hn, if_pos (by omega)]; rfl
    have h0' : ¬ (l : Int) = 0 := by simpa using h0
    unfold F12_k3
    refine ⟨a, l, c, sl, br_of (fun h8 => ⟨?_, x1⟩) (fun h8 => ?_)⟩
    · have h8' : (l : Int) > 8 := by simpa using h8
      unfold checkM; rw [if_neg hn, if_neg (by omega), if_pos (by omega)]; rfl
    have h8' : ¬ (l : Int) > 8 := by simpa using h8
    have hM : checkM m = goC [] m.refs := by unfold checkM; rw [if_neg hn, if_neg (by omega), if_neg (by omega)]
    unfold F12_k4
    rintro _ rfl
    refine ⟨fun x h' => ∃ k : Nat, x = k ∧ k ≤ l ∧ checkM m = goC (seenK m.refs k) (m.refs.drop k) ∧ h' = h1, fun x _ => (l - x).toNat, ⟨0, rfl, by omega, by rw [hM]; rfl, rfl⟩, ?_⟩
    rintro h4 _ ⟨k, rfl, hk, hgo, rfl⟩
    unfold F12_b5
    refine ⟨a, l, c, sl, br_of (fun ht => ?_) (fun hf => ?_)⟩
    rotate_left
    · have hk' : k = l := by
        have : ¬ (k : Int) < (l : Int) := by simpa using hf
        omega
      unfold F12_k13
      refine ⟨?_, x1⟩
      rw [hgo, List.drop_of_length_le (by omega)]; rfl
    have hk' : k < l := by
      have : (k : Int) < (l : Int) := by simpa using ht
      omega
    obtain ⟨r, hr⟩ : ∃ r, m.refs[k]? = some r := ⟨m.refs[k]'(by omega), List.getElem?_eq_getElem (by omega)⟩
    obtain ⟨hr32, hr256, hrlo, hrhi⟩ := hrefs r (List.mem_of_getElem? hr)
    obtain ⟨q, rfl, _, hcell⟩ := (w.grow x1).get (i := k) (r := refC r) (by simp [rowsR, hr])
    have e1 : IntKind.i64.wrap ((k : Int) + 1) = ((k + 1 : Nat) : Int) := by rw [i64_lt _ (by omega) (by omega)]; omega
    have c32 := hcell 32 _ (refC_get_last r hr32)
    have five : ∀ b : Bool, (b = true ↔ (r.2 < 0 ∨ r.2 > 2147483647)) → F12_k7 (fun x h' => ∃ k : Nat, x = k ∧ k ≤ l ∧ checkM m = goC (seenK m.refs k) (m.refs.drop k) ∧ h' = h4) (fun x _ => (l - x).toNat) (((l : Int) - (k : Int)).toNat) (at0 h.size) (k : Int) b h4 fun v h' => v = .int .i64 (checkM m) ∧ Ext h h' := by
      intro b hbi
      unfold F12_k7
      refine br_of (fun hbt => ⟨?_, x1⟩) (fun hbf => ?_)
      · rw [hgo, goC_at hr, if_pos (hbi.1 hbt)]; rfl
      have hsz : ¬ (r.2 < 0 ∨ r.2 > 2147483647) := fun e => by rw [hbi.2 e] at hbf; cases hbf
      unfold F12_k8
      rintro _ rfl
      refine ⟨fun x h' => ∃ j : Nat, x = j ∧ j ≤ k ∧ (∀ i s, i < j → m.refs[i]? = some s → s.1 ≠ r.1) ∧ h' = h4, fun x _ => (k - x).toNat, ⟨0, rfl, by omega, fun i s hi => by omega, rfl⟩, ?_⟩
      rintro h5 _ ⟨j, rfl, hj, hne, rfl⟩
      unfold F12_b9
      refine br_of (fun ht2 => ?_) (fun hf2 => ?_)
      · have hj' : j < k := by
          have : (j : Int) < (k : Int) := by simpa using ht2
          omega
        obtain ⟨s, hs⟩ : ∃ s, m.refs[j]? = some s := ⟨m.refs[j]'(by omega), List.getElem?_eq_getElem (by omega)⟩
        obtain ⟨hs32, _⟩ := hrefs s (List.mem_of_getElem? hs)
        obtain ⟨q', e', _, hcell'⟩ := (w.grow x1).get (i := j) (r := refC s) (by simp [rowsR, hs])
        cases e'
        have e1j : IntKind.i64.wrap ((j : Int) + 1) = ((j + 1 : Nat) : Int) := by rw [i64_lt _ (by omega) (by omega)]; omega
        unfold F12_k10
        refine ⟨_, l, c, sl, q, rfl, by omega, by omega, (s.1.map fun n : Nat => Value.int .u8 (n : Int)).toArray, by simp [hs32], by rw [Int.toNat_natCast]; simpa using row_cells (r := s) hcell', _, l, c, sl, q, rfl, by omega, by omega,
          (r.1.map fun n : Nat => Value.int .u8 (n : Int)).toArray, by simp [hr32], by rw [Int.toNat_natCast]; simpa using row_cells (r := r) hcell, decide (s.1 = r.1), fun w => row_eq _ _ hs32 hr32 w, eqg48, ?_⟩
        intro h6 hcl; obtain rfl := hcl.eq
        refine br_of (fun heq => ⟨?_, x1⟩) (fun hneq => ?_)
        · have heq' : s.1 = r.1 := by simpa using heq
          have hin : r.1 ∈ seenK m.refs k := by
            unfold seenK
            rw [← heq']
            refine List.mem_map.2 ⟨s, ?_, rfl⟩
            refine List.mem_of_getElem? (i := j) ?_
            rw [List.getElem?_take_of_lt hj']; exact hs
          rw [hgo, goC_at hr, if_neg hsz, if_pos hin]; rfl
        · have hneq' : s.1 ≠ r.1 := by simpa using hneq
          unfold F12_k11
          rintro _ rfl
          rw [e1j]
          refine ⟨⟨j + 1, rfl, by omega, fun i s' hi hs' => ?_, rfl⟩, by show ((k : Int) - ((j + 1 : Nat) : Int)).toNat < ((k : Int) - (j : Int)).toNat; omega⟩
          by_cases hij : i = j
          · subst hij; rw [hs] at hs'; cases hs'; exact hneq'
          · exact hne i s' (by omega) hs'
      · have hj' : j = k := by
          have : ¬ (j : Int) < (k : Int) := by simpa using hf2
          omega
        subst hj'
        have hnot : r.1 ∉ seenK m.refs j := fun hn => by
          unfold seenK at hn
          obtain ⟨s, hs, e⟩ := List.mem_map.1 hn
          obtain ⟨i, hi⟩ := List.getElem?_of_mem hs
          have hil : i < j := by
            have := (List.getElem?_eq_some_iff.1 hi).1
            rw [List.length_take] at this; omega
          rw [List.getElem?_take_of_lt hil] at hi
          exact hne i s hil hi e
        unfold F12_k12
        rintro _ rfl
        rw [e1]
        exact ⟨⟨j + 1, rfl, by omega, by rw [hgo, goC_step hr hsz hnot], rfl⟩, by show ((l : Int) - ((j + 1 : Nat) : Int)).toNat < ((l : Int) - (j : Int)).toNat; omega⟩
    unfold F12_k6
    refine ⟨_, l, c, sl, q, rfl, by omega, by omega, r.2, by rw [Int.toNat_natCast]; exact c32, br_of (fun hneg => five true ?_) (fun hneg => ⟨_, l, c, sl, q, rfl, by omega, by omega, r.2, by rw [Int.toNat_natCast]; exact c32, five _ ?_⟩)⟩
    · have : r.2 < 0 := by simpa using hneg
      simp [this]
    · have : ¬ r.2 < 0 := by simpa using hneg
      rw [decide_eq_true_eq]; omega
  refine ⟨m.name, by rw [at_cell hb1]; rfl, HEnt.use (refName_ok _ (by omega) h1) ?_⟩
  rintro _ h2 ⟨rfl, e2⟩
  subst e2
  refine ⟨_, rfl, br_of (fun hb => fin true (fun _ => .inl (by simpa using hb)) (fun e => by cases e)) (fun hb => ?_)⟩
  refine ⟨m.ver, by rw [at_cell hb1]; rfl, HEnt.use (refName_ok _ (by omega) h2) ?_⟩
  rintro _ h3 ⟨rfl, e3⟩
  subst e3
  exact ⟨_, rfl, fin _ (fun e => .inr (by simpa using e)) (fun e => ⟨by simpa using hb, by simpa using e⟩)⟩
/-! ### sizes -/
def sumR (rs : List RefV) : Int := (rs.map Prod.snd).sum
def sizeM (m : ManV) : Int := if checkM m = 0 then sumR m.refs else 0
theorem goC_zero : ∀ (rs : List RefV) (seen : List (List Nat)), goC seen rs = 0 → (∀ r ∈ rs, 0 ≤ r.2 ∧ r.2 ≤ 2147483647) ∧ (rs.map Prod.fst).Nodup ∧ ∀ r ∈ rs, r.1 ∉ seen
  | [], seen, _ => by simp
  | r :: rs, seen, h => by
    unfold goC at h
    split at h
    · cases h
    · split at h
      · cases h
      · rename_i h1 h2
        obtain ⟨g1, g2, g3⟩ := goC_zero rs _ h
        refine ⟨fun x hx => ?_, ?_, fun x hx => ?_⟩
        · rcases List.mem_cons.1 hx with rfl | hx
          · omega
          · exact g1 x hx
        · rw [List.map_cons, List.nodup_cons]
          refine ⟨fun hm => ?_, g2⟩
          obtain ⟨x, hx, e⟩ := List.mem_map.1 hm
          have := g3 x hx
          apply this; rw [e]; simp
        · rcases List.mem_cons.1 hx with rfl | hx
          · exact h2
          · exact fun hs => g3 x hx (List.mem_append_left _ hs)
theorem check_zero {m : ManV} (h : checkM m = 0) : nameB (lst m.name) = true ∧ nameB (lst m.ver) = true ∧ 0 < m.refs.length ∧ m.refs.length ≤ 8 ∧ (∀ r ∈ m.refs, 0 ≤ r.2 ∧ r.2 ≤ 2147483647) ∧ (m.refs.map Prod.fst).Nodup := by
  unfold checkM at h
  split at h
  · cases h
  · rename_i hn
    split at h
    · cases h
    · split at h
      · cases h
      · obtain ⟨g1, g2, _⟩ := goC_zero _ _ h
        simp only [not_or, Bool.not_eq_false] at hn
        exact ⟨hn.1, hn.2, by omega, by omega, g1, g2⟩
theorem sumR_take {rs : List RefV} {k : Nat} {r : RefV} (h : rs[k]? = some r) : sumR (rs.take (k + 1)) = sumR (rs.take k) + r.2 := by
  unfold sumR; rw [List.take_add_one, h]; simp
theorem sumR_bound : ∀ (rs : List RefV), (∀ r ∈ rs, 0 ≤ r.2 ∧ r.2 ≤ 2147483647) → 0 ≤ sumR rs ∧ sumR rs ≤ rs.length * 2147483647
  | [], _ => by simp [sumR]
  | r :: rs, h => by
    have h1 := h r (List.mem_cons_self ..)
    obtain ⟨h2, h3⟩ := sumR_bound rs fun x hx => h x (List.mem_cons_of_mem _ hx)
    unfold sumR at *
    simp only [List.map_cons, List.sum_cons, List.length_cons]
    omega
theorem size_ok (m : ManV) (a : Option Addr) (l c : Nat) (h : Heap) (w : Tab 33 h a l c (rowsR m.refs)) (hb : Big m) (hl : l < 2 ^ 40) :
    HEnt Tryd.prog 13 #[.agg (manA m a l c)] h fun v h' => v = .int .i64 (sizeM m) ∧ Ext h h' := by
  have hlen : m.refs.length = l := by have := w.len; rwa [rowsR_len] at this
  refine F13_ent _ _ _ _ _ _ _ ?_
  unfold F13
  refine newK_intro fun h1 hb1 x1 _ => ⟨m.name, m.ver, a, l, c, by rw [at_cell hb1]; rfl, by rw [at_cell hb1]; rfl, by rw [at_cell hb1]; rfl, rfl, HEnt.use (check_ok m a l c h1 (w.grow x1) hb hl) ?_⟩
  rintro _ h2 ⟨rfl, x2⟩
  refine ⟨_, rfl, br_of (fun hne => ⟨?_, x1.trans x2⟩) (fun heq => ?_)⟩
  · have : (checkM m : Int) ≠ 0 := by simpa using hne
    unfold sizeM; rw [if_neg (by omega)]
  have h0 : checkM m = 0 := by
    have : (checkM m : Int) = 0 := by simpa using heq
    omega
  obtain ⟨_, _, _, h8, hrng, _⟩ := check_zero h0
  unfold F13_k1
  rintro _ rfl
  refine ⟨a, l, c, by rw [at_cell (x2.blk hb1)]; rfl, fun s x h' => ∃ k : Nat, x = k ∧ k ≤ l ∧ s = sumR (m.refs.take k) ∧ Ext h h', fun _ x _ => (l - x).toNat, ⟨0, rfl, by omega, rfl, x1.trans x2⟩, ?_⟩
  rintro h4 _ _ ⟨k, rfl, hk, rfl, x4⟩
  unfold F13_b2
  refine br_of (fun ht => ?_) (fun hf => ?_)
  rotate_left
  · have hk' : k = l := by
      have : ¬ (k : Int) < (l : Int) := by simpa using hf
      omega
    unfold F13_k4
    refine ⟨?_, x4⟩
    unfold sizeM; rw [if_pos h0, List.take_of_length_le (by omega)]
  have hk' : k < l := by
    have : (k : Int) < (l : Int) := by simpa using ht
    omega
  obtain ⟨r, hr⟩ : ∃ r, m.refs[k]? = some r := ⟨m.refs[k]'(by omega), List.getElem?_eq_getElem (by omega)⟩
  obtain ⟨hr32, hr256, hrlo, hrhi⟩ := hb.2.2 r (List.mem_of_getElem? hr)
  obtain ⟨q, rfl, _, hcell⟩ := (w.grow x4).get (i := k) (r := refC r) (by simp [rowsR, hr])
  have e1 : IntKind.i64.wrap ((k : Int) + 1) = ((k + 1 : Nat) : Int) := by rw [i64_lt _ (by omega) (by omega)]; omega
  have hrl : (refC r).length = 33 := by rw [refC_len, hr32]
  have hbd := sumR_bound (m.refs.take (k + 1)) fun x hx => hrng x (List.mem_of_mem_take hx)
  rw [List.length_take] at hbd
  unfold F13_k3
  refine ⟨q, rfl, by omega, by omega, (refC r).toArray, by simp [hrl], by rw [Int.toNat_natCast]; exact hcell, newK_intro fun h5 hb5 x5 _ => ?_⟩
  refine storeK_whole hb5 (by simp [hrl]) zsize54 (fun u hu => refC_one r u (by simpa using hu)) fun h6 hb6 o6 => ?_
  have x6 : Ext h4 h6 := Keep.since x5 (o6.keep rfl : Keep (fun j => j = h4.size) h5 h6) fun j hj e => by omega
  refine ⟨r.2, by rw [at_cell hb6, List.getElem?_toArray]; exact refC_get_last r hr32, ?_⟩
  rintro _ rfl
  rw [e1, ← sumR_take hr, i64_lt _ (by omega) (by omega)]
  exact ⟨⟨k + 1, rfl, by omega, rfl, x4.trans x6⟩, by show ((l : Int) - ((k + 1 : Nat) : Int)).toNat < ((l : Int) - (k : Int)).toNat; omega⟩
theorem refSize_ok (m : ManV) (a : Option Addr) (l c : Nat) (h : Heap) (w : Tab 33 h a l c (rowsR m.refs)) (hb : Big m) (hl : l < 2 ^ 40) :
    HEnt Tryd.prog 14 #[.agg (manA m a l c)] h fun v h' => v = .int .i64 (sizeM m) ∧ Ext h h' := by
  have hlen : m.refs.length = l := by have := w.len; rwa [rowsR_len] at this
  refine F14_ent _ _ _ _ _ _ _ ?_
  unfold F14
  refine newK_intro fun h1 hb1 x1 _ => ?_
  rintro _ rfl _ rfl
  refine ⟨fun s x h' => ∃ k : Nat, x = k ∧ k ≤ l ∧ s = sumR (m.refs.take k) ∧ (0 < k → checkM m = 0) ∧ Ext h1 h', fun _ x _ => (l - x).toNat, ⟨0, rfl, by omega, rfl, by omega, Ext.refl _⟩, ?_⟩
  rintro h4 _ _ ⟨k, rfl, hk, rfl, hpos, x4⟩
  have hb4 := x4.blk hb1
  have sl : Vc.cell h4 ((at0 h.size).add 2) = some (.slice a l c) := by rw [at_cell hb4]; rfl
  unfold F14_b1
  refine ⟨a, l, c, sl, br_of (fun ht => ?_) (fun hf => ?_)⟩
  rotate_left
  · have hk' : k = l := by
      have : ¬ (k : Int) < (l : Int) := by simpa using hf
      omega
    unfold F14_k2
    refine br_of (fun e => by cases e) (fun _ => ?_)
    unfold F14_k4
    refine ⟨?_, x1.trans x4⟩
    unfold sizeM
    by_cases h0 : checkM m = 0
    · rw [if_pos h0, List.take_of_length_le (by omega)]
    · have hk0 : k = 0 := Nat.eq_zero_of_not_pos fun hp => h0 (hpos hp)
      rw [if_neg h0, hk0]; rfl
  have hk' : k < l := by
    have : (k : Int) < (l : Int) := by simpa using ht
    omega
  refine ⟨m.name, m.ver, a, l, c, by rw [at_cell hb4]; rfl, by rw [at_cell hb4]; rfl, sl, rfl, HEnt.use (refCheck_ok m a l c h4 (w.grow (x1.trans x4)) hb hl) ?_⟩
  rintro _ h5 ⟨rfl, x5⟩
  refine ⟨_, rfl, ?_⟩
  unfold F14_k2
  refine br_of (fun hz => ?_) (fun hnz => ?_)
  · have h0 : checkM m = 0 := by
      have : (checkM m : Int) = 0 := by simpa using hz
      omega
    obtain ⟨_, _, _, h8, hrng, _⟩ := check_zero h0
    obtain ⟨r, hr⟩ : ∃ r, m.refs[k]? = some r := ⟨m.refs[k]'(by omega), List.getElem?_eq_getElem (by omega)⟩
    obtain ⟨hr32, hr256, hrlo, hrhi⟩ := hb.2.2 r (List.mem_of_getElem? hr)
    obtain ⟨q, rfl, _, hcell⟩ := (w.grow (x1.trans (x4.trans x5))).get (i := k) (r := refC r) (by simp [rowsR, hr])
    have e1 : IntKind.i64.wrap ((k : Int) + 1) = ((k + 1 : Nat) : Int) := by rw [i64_lt _ (by omega) (by omega)]; omega
    have hbd := sumR_bound (m.refs.take (k + 1)) fun x hx => hrng x (List.mem_of_mem_take hx)
    rw [List.length_take] at hbd
    unfold F14_k3
    refine ⟨_, l, c, x5.some sl, q, rfl, by omega, by omega, r.2, by rw [Int.toNat_natCast]; exact hcell 32 _ (refC_get_last r hr32), ?_⟩
    rintro _ rfl _ rfl
    rw [e1, ← sumR_take hr, i64_lt _ (by omega) (by omega)]
    exact ⟨⟨k + 1, rfl, by omega, rfl, fun _ => h0, x4.trans x5⟩, by show ((l : Int) - ((k + 1 : Nat) : Int)).toNat < ((l : Int) - (k : Int)).toNat; omega⟩
  · have h0 : checkM m ≠ 0 := by
      have : (checkM m : Int) ≠ 0 := by simpa using hnz
      omega
    unfold F14_k4
    refine ⟨?_, x1.trans (x4.trans x5)⟩
    have hk0 : k = 0 := Nat.eq_zero_of_not_pos fun hp => h0 (hpos hp)
    unfold sizeM; rw [if_neg h0, hk0]; rfl
end Go.Proofs.YtpnbbgcaaogpdaaDoor
