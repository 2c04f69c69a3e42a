/- Chapter 3: what Read and the document's Read and Hex compute; the laws ShaHexes, ShaBack, ShaNested. -/
import Derived.Test.YtoheacfggalcbaaDoorShaF
import Derived.Test.YtoheacfggalcbaaDoorShaText
namespace Go.Proofs.YtoheacfggalcbaaDoor
open Go.Vc Go.Sha
set_option linter.unusedVariables false

theorem or8 : ∀ a < 16, ∀ b < 16, orI .u8 (shlI .u8 ((a : Nat) : Int) 4) ((b : Nat) : Int) = ((a * 16 + b : Nat) : Int) := by
  have : ∀ a : Fin 16, ∀ b : Fin 16, orI .u8 (shlI .u8 ((a.1 : Nat) : Int) 4) ((b.1 : Nat) : Int) = ((a.1 * 16 + b.1 : Nat) : Int) := by decide +kernel
  exact fun a ha b hb => this ⟨a, ha⟩ ⟨b, hb⟩
theorem wrap8 (n : Nat) (h : n < 256) : IntKind.u8.wrap (n : Int) = (n : Int) := by rw [u8_wrap, Nat.mod_eq_of_lt h]
theorem half (k : Nat) (hk : k < 64) : IntKind.i64.wrap ((k : Int).tdiv 2) = ((k / 2 : Nat) : Int) := by
  rw [Int.tdiv_eq_ediv_of_nonneg (by omega), i64_lt _ (by omega) (by omega)]; omega

theorem read_ok (s : ByteArray) (h : Heap) : HEnt Tryd.prog 22 #[.string s] h fun v h' => v = .tuple #[.agg ((Sha.read (lst s)).1.map u8).toArray, .int .i64 (Sha.read (lst s)).2] ∧ Ext h h' := by
  refine F22_ent _ _ _ ?_
  unfold F22
  refine newK_intro fun h1 n1 x1 s1 => newK_intro fun h2 n2 x2 s2 => ?_
  have x02 := x1.trans x2
  rw [z24] at n1 n2
  have n1' := x2.blk n1
  have ll := lst_len s
  have bad : ∀ h3, h3[h.size]? = some (.cells ((List.replicate 32 0).map u8).toArray 24 (0, 0)) → Ext h h3 → ∀ D : List Nat, D.length = 32 → Sha.read (lst s) = (D, 5) → ∀ cs : Array Value, cs = (D.map u8).toArray →
      storeK 32 h3 (at0 h.size) (Value.agg cs) fun h4 => ∃ csr0 : Array Value, csr0.size = 32 ∧ CellsAt h4 (at0 h.size) csr0.toList ∧ (Value.tuple #[Value.agg csr0, Value.int .i64 5] = .tuple #[.agg ((Sha.read (lst s)).1.map u8).toArray, .int .i64 (Sha.read (lst s)).2] ∧ Ext h h4) := by
    rintro h3 n3 x3 D hD hr cs rfl
    refine storeK_whole n3 (by simp [hD]) (by simp) (by simp [u8, one]) fun h4 b4 o4 => ⟨_, by simp [hD], cells_blk0 b4, by rw [hr]; rfl, ?_⟩
    exact ⟨by rw [o4.size]; exact x3.size, fun i hi => (o4.block i (by omega)).trans (x3.block i hi)⟩
  refine br_of (fun ht => ?_) (fun hf => ?_)
  · refine ⟨_, by simp, cells_blk0 n2, bad h2 n1' x02 _ (by simp) (read_short ?_) _ rfl⟩
    intro e; rw [ll] at e; rw [e] at ht; simp at ht
  have hlen : s.size = 64 := by
    have : ¬ (s.size : Int) ≠ 64 := by simpa using hf
    omega
  unfold F22_k1
  refine ⟨fun x h' => ∃ k : Nat, x = k ∧ k ≤ 64 ∧ (∀ j < k, (val ((lst s).getD j 0)).isSome = true) ∧ h'[h1.size]? = some (.cells ((rd (lst s) k).map u8).toArray 24 (0, 0)) ∧ h'[h.size]? = some (.cells ((List.replicate 32 0).map u8).toArray 24 (0, 0)) ∧ Ext h h',
    fun x _ => (64 - x).toNat, ⟨0, rfl, by omega, (fun j hj => by omega), by rw [rd_zero]; exact n2, n1', x02⟩, ?_⟩
  rintro h3 _ ⟨k, rfl, hk, hok, hr, hz, hx⟩
  unfold F22_b2
  refine br_of (fun ht => ?_) (fun hf => ?_)
  · have hk64 : k < 64 := by
      have : (k : Int) < 64 := by simpa using ht
      omega
    unfold F22_k3
    refine ⟨by omega, by omega, ?_⟩
    rintro _ rfl
    rw [bt_lst]
    have hc := lst_lt s
    generalize hce : (lst s).getD k 0 = c at *
    have step : ∀ n : Nat, val c = some n → ∀ x : Int, x = (n : Int) → F22_k5 (fun x h' => ∃ k : Nat, x = k ∧ k ≤ 64 ∧ (∀ j < k, (val ((lst s).getD j 0)).isSome = true) ∧ h'[h1.size]? = some (.cells ((rd (lst s) k).map u8).toArray 24 (0, 0)) ∧ h'[h.size]? = some (.cells ((List.replicate 32 0).map u8).toArray 24 (0, 0)) ∧ Ext h h')
        (fun x _ => (64 - x).toNat) ((64 - (k : Int)).toNat) s (at0 h.size) (at0 h1.size) (k : Int) x (k : Int) h3 (fun v h' => v = .tuple #[.agg ((Sha.read (lst s)).1.map u8).toArray, .int .i64 (Sha.read (lst s)).2] ∧ Ext h h') := by
      rintro n hv _ rfl
      unfold F22_k5
      obtain ⟨g1, g2⟩ := rd_set (lst s) k hk64
      have hvd : vd (lst s) k = n := by unfold vd; rw [hce, hv]; rfl
      have hn := val_lt hv
      rw [half k hk64, Int.toNat_natCast, Nat.mul_one, at0_mk, add_mk, Nat.zero_add]
      refine ⟨by decide, by decide, by omega, by omega, ((rd (lst s) k).getD (k / 2) 0 : Nat), ?_, by omega, by omega, by omega, ?_⟩
      · rw [cell_blk hr, List.getElem?_toArray]; exact get_map u8 (by rw [rd_len]; omega)
      rw [or8 _ g1 _ hn]
      refine storeK_one hr (by simp [rd_len]; omega) (.inr (Nat.zero_le _)) rfl fun h4 b4 o4 => ?_
      unfold F22_k6
      have e1 : IntKind.i64.wrap ((k : Int) + 1) = ((k + 1 : Nat) : Int) := by rw [i64_lt _ (by omega) (by omega)]; omega
      rw [e1]
      refine ⟨⟨k + 1, rfl, by omega, ?_, ?_, o4.blk hz (by omega), ?_⟩, by show (64 - ((k + 1 : Nat) : Int)).toNat < (64 - (k : Int)).toNat; omega⟩
      · intro j hj
        by_cases e : j = k
        · subst e; rw [hce, hv]; rfl
        · exact hok j (by omega)
      · rw [b4, List.setIfInBounds_toArray, ← g2, hvd, List.map_set]; rfl
      · exact ⟨by rw [o4.size]; exact hx.size, fun i hi => (o4.block i (by omega)).trans (hx.block i hi)⟩
    have isbad : val c = none → storeK 32 h3 (at0 h.size) (Value.agg (zeroC Tryd.prog 24)) fun h4 => ∃ csr0 : Array Value, csr0.size = 32 ∧ CellsAt h4 (at0 h.size) csr0.toList ∧ (Value.tuple #[Value.agg csr0, Value.int .i64 5] = .tuple #[.agg ((Sha.read (lst s)).1.map u8).toArray, .int .i64 (Sha.read (lst s)).2] ∧ Ext h h4) := fun hn =>
      bad h3 hz hx _ (by simp) (read_bad hk64 (by rw [hce]; exact hn)) _ z24
    have k7 : ∀ b : Bool, ¬ (48 ≤ c ∧ c ≤ 57) → b = decide (97 ≤ c ∧ c ≤ 102) → F22_k7 (fun x h' => ∃ k : Nat, x = k ∧ k ≤ 64 ∧ (∀ j < k, (val ((lst s).getD j 0)).isSome = true) ∧ h'[h1.size]? = some (.cells ((rd (lst s) k).map u8).toArray 24 (0, 0)) ∧ h'[h.size]? = some (.cells ((List.replicate 32 0).map u8).toArray 24 (0, 0)) ∧ Ext h h')
        (fun x _ => (64 - x).toNat) ((64 - (k : Int)).toNat) s (at0 h.size) (at0 h1.size) (k : Int) (c : Int) (k : Int) b h3 (fun v h' => v = .tuple #[.agg ((Sha.read (lst s)).1.map u8).toArray, .int .i64 (Sha.read (lst s)).2] ∧ Ext h h') := by
      intro b hno hb
      unfold F22_k7
      refine br_of (fun hbt => ?_) (fun hbf => ?_)
      · rw [hbt] at hb
        have hr := of_decide_eq_true hb.symm
        rintro _ rfl
        refine step (c - 87) (by unfold val; rw [if_neg hno, if_pos hr]) _ ?_
        rw [show ((c : Int) - 87) = ((c - 87 : Nat) : Int) by omega, wrap8 _ (by omega)]
      · rw [hbf] at hb
        have hr := of_decide_eq_false hb.symm
        exact isbad (by unfold val; rw [if_neg hno, if_neg hr])
    refine br_of (fun h48 => ?_) (fun h48 => ?_)
    · have h48' : 48 ≤ c := by
        have : (c : Int) ≥ 48 := by simpa using h48
        omega
      unfold F22_k4
      refine br_of (fun h57 => ?_) (fun h57 => ?_)
      · have h57' : c ≤ 57 := by
          have : (c : Int) ≤ 57 := by simpa using h57
          omega
        rintro _ rfl
        refine step (c - 48) (by unfold val; rw [if_pos ⟨h48', h57'⟩]) _ ?_
        rw [show ((c : Int) - 48) = ((c - 48 : Nat) : Int) by omega, wrap8 _ (by omega)]
      · have h57' : ¬ c ≤ 57 := by
          have : ¬ (c : Int) ≤ 57 := by simpa using h57
          omega
        refine br_of (fun h97 => k7 _ (by omega) ?_) (fun h97 => k7 _ (by omega) ?_)
        · have : (c : Int) ≥ 97 := by simpa using h97
          rw [decide_eq_decide]; omega
        · have : ¬ (c : Int) ≥ 97 := by simpa using h97
          exact (decide_eq_false (by omega)).symm
    · have h48' : ¬ 48 ≤ c := by
        have : ¬ (c : Int) ≥ 48 := by simpa using h48
        omega
      unfold F22_k4
      refine br_of (fun h57 => by simp at h57) (fun h57 => ?_)
      refine br_of (fun h97 => k7 _ (by omega) ?_) (fun h97 => k7 _ (by omega) ?_)
      · have : (c : Int) ≥ 97 := by simpa using h97
        omega
      · have : ¬ (c : Int) ≥ 97 := by simpa using h97
        exact (decide_eq_false (by omega)).symm
  · have hk64 : k = 64 := by
      have : ¬ (k : Int) < 64 := by simpa using hf
      omega
    subst hk64
    unfold F22_k8
    refine ⟨_, by simp [rd_len], cells_blk0 hr, storeK_whole hz (by simp [rd_len]) (by simp) (by simp [u8, one]) fun h4 b4 o4 => ⟨_, by simp [rd_len], cells_blk0 b4, by rw [read_good (by omega) hok]; rfl, ?_⟩⟩
    exact ⟨by rw [o4.size]; exact hx.size, fun i hi => (o4.block i (by omega)).trans (hx.block i hi)⟩
end Go.Proofs.YtoheacfggalcbaaDoor
