/- Chapter 16: what the document's Check of a stack, and the two Checks of a message, compute. -/
import Derived.Test.YtnhnioodlciajaaWireC
namespace Go.Proofs.Ytnhnioodlciajaa
open Go.Vc Go.Sha Go.Trail Go.Packs
set_option linter.unusedVariables false

theorem refPacks_ok (a : Option Addr) (l c : Nat) (ps : List PackV) (ds : List Hdr) (h : Heap) (hp : PacksAt h a l c ps ds) (hl : l < 9223372036854775808) :
    HEnt Try.prog 45 #[.slice a l c] h fun v h' => v = .int .i64 (packsC [] 0 ps) ∧ Ext h h' := by
  refine F45_ent _ _ _ _ _ ?_
  have hlen := hp.length
  have hcap := hp.rows.cap
  unfold F45
  obtain ⟨I, hI⟩ : ∃ I : Int → Int → Heap → Prop, I = fun (x y : Int) h' => ∃ n k : Nat, x = n ∧ y = k ∧ k ≤ l ∧ n ≤ 16 ∧ Ext h h' ∧ packsC [] 0 ps = packsC ((ps.take k).map fun p => lst p.name) n (ps.drop k) := ⟨_, rfl⟩
  refine ⟨I, fun _ y _ => (l - y).toNat, by rw [hI]; exact ⟨0, 0, rfl, rfl, by omega, by omega, Ext.refl h, by simp⟩, ?_⟩
  intro h1 x3 x4 hinv
  rw [hI] at hinv
  obtain ⟨n, k, rfl, rfl, hk, hn, x1, he⟩ := hinv
  unfold F45_b1
  refine br_of (fun ht => ?_) (fun hf => ?_)
  · have hk' : k < l := by
      have : (k : Int) < (l : Int) := by simpa using ht
      omega
    obtain ⟨b, o, p, d, hpi, hdi, rfl, pok, hrefs, hc⟩ := (hp.grow x1).at_ hk'
    rw [dropR_cons hpi] at he
    have c0 : Vc.cell h1 (((⟨b, o, none⟩ : Addr).add ((k : Int).toNat * 4)).add 0) = some (.int .i64 p.owner) := by rw [Int.toNat_natCast, add_mk, add_mk]; exact hc 0 _ rfl
    have c1 : Vc.cell h1 ((((⟨b, o, none⟩ : Addr).add ((k : Int).toNat * 4)).add 1).add 0) = some (.string p.name) := by rw [Int.toNat_natCast, add_mk, add_mk, add_mk]; exact hc 1 _ rfl
    have c2 : Vc.cell h1 ((((⟨b, o, none⟩ : Addr).add ((k : Int).toNat * 4)).add 1).add 1) = some (.string p.ver) := by rw [Int.toNat_natCast, add_mk, add_mk, add_mk]; exact hc 2 _ rfl
    have c3 : Vc.cell h1 ((((⟨b, o, none⟩ : Addr).add ((k : Int).toNat * 4)).add 1).add 2) = some (.slice d.a d.l d.c) := by rw [Int.toNat_natCast, add_mk, add_mk, add_mk]; exact hc 3 _ rfl
    have bad : (p.owner < 1 ∨ p.owner > 8) → F45_k3 I (fun _ y _ => (l - y).toNat) (((l : Int) - (k : Int)).toNat) (some ⟨b, o, none⟩) l c (n : Int) (k : Int) true h1 fun v h' => v = .int .i64 (packsC [] 0 ps) ∧ Ext h h' := fun hb => by
      unfold F45_k3
      refine br_of (fun _ => ⟨?_, x1⟩) (fun e => by cases e)
      rw [he]; unfold packsC; rw [if_pos hb]; rfl
    unfold F45_k2
    refine ⟨_, rfl, by omega, by omega, p.owner, c0, br_of (fun e => bad (.inl (of_decide_eq_true e))) (fun e1 => ⟨_, rfl, by omega, by omega, p.owner, c0, ?_⟩)⟩
    have g1 := of_decide_eq_false e1
    by_cases g2 : p.owner > 8
    case pos => rw [decide_eq_true g2]; exact bad (.inr g2)
    rw [decide_eq_false g2]
    have hown : ¬ (p.owner < 1 ∨ p.owner > 8) := fun e => e.elim g1 g2
    unfold F45_k3
    refine br_of (fun e => by cases e) (fun _ => ?_)
    unfold F45_k4
    refine ⟨_, rfl, by omega, by omega, p.name, p.ver, d.a, d.l, d.c, c1, c2, c3, rfl, ?_⟩
    refine HEnt.use (refMan_ok p.name p.ver d.a d.l d.c p.refs h1 hrefs pok.1 pok.2) ?_
    rintro _ h4 ⟨rfl, x4⟩
    have x14 := x1.trans x4
    refine ⟨_, rfl, br_of (fun e => ⟨?_, x14⟩) (fun e => ?_)⟩
    · have hne : manC p.name p.ver p.refs ≠ 0 := by
        intro e0; rw [e0] at e; simp at e
      rw [he]
      unfold packsC
      rw [if_neg hown, if_pos hne]
    have hman : manC p.name p.ver p.refs = 0 := by
      have : ((manC p.name p.ver p.refs : Nat) : Int) = 0 := by simpa using e
      omega
    unfold F45_k5
    refine ⟨fun x h' => ∃ j : Nat, x = j ∧ j ≤ k ∧ h' = h4 ∧ lst p.name ∉ ((ps.take j).map fun p => lst p.name), fun x _ => (k - x).toNat, ⟨0, rfl, by omega, rfl, by simp⟩, ?_⟩
    rintro h5 _ ⟨j, rfl, hj, rfl, hno⟩
    unfold F45_b6
    refine br_of (fun htj => ?_) (fun hfj => ?_)
    · have hj' : j < k := by
        have : (j : Int) < (k : Int) := by simpa using htj
        omega
      obtain ⟨b', o', p', d', hpi', hdi', e', pok', hrefs', hc'⟩ := (hp.grow x14).at_ (show j < l by omega)
      cases e'
      unfold F45_k7
      refine ⟨_, rfl, by omega, by omega, p'.name, by rw [Int.toNat_natCast, add_mk, add_mk, add_mk]; exact hc' 1 _ rfl, _, rfl, by omega, by omega, p.name, x4.some c1, ?_⟩
      intro h6 hcl; obtain rfl := hcl.eq
      rw [seq_names]
      refine br_of (fun hb => ⟨?_, x14⟩) (fun hb => ?_)
      · have hb' := of_decide_eq_true hb
        have hin : lst p.name ∈ (ps.take k).map fun p => lst p.name := by
          rw [← hb']
          exact List.mem_map.2 ⟨p', List.mem_of_getElem? (i := j) (by rw [List.getElem?_take, if_pos hj']; exact hpi'), rfl⟩
        rw [he]
        unfold packsC
        rw [if_neg hown, if_neg (fun e => e hman), if_pos hin]; rfl
      · have hb' := of_decide_eq_false hb
        unfold F45_k8
        rw [wrap_succ j _ hj' (by omega)]
        refine ⟨⟨j + 1, rfl, by omega, rfl, ?_⟩, less_succ _ _ hj'⟩
        rw [takeR_succ hpi', List.map_append]
        intro hm
        rcases List.mem_append.1 hm with hm | hm
        · exact hno hm
        · simp at hm; exact hb' hm.symm
    · have hj' : j = k := by
        have : ¬ (j : Int) < (k : Int) := by simpa using hfj
        omega
      subst hj'
      have hrl := manC_len hman
      have hdl : p.refs.length = d.l := hrefs.len
      unfold F45_k9
      refine ⟨_, rfl, by omega, by omega, d.a, d.l, d.c, x4.some c3, ?_⟩
      have ew : IntKind.i64.wrap ((n : Int) + (d.l : Int)) = ((n + d.l : Nat) : Int) := by rw [i64_lt _ (by omega) (by omega)]; omega
      rw [ew]
      refine br_of (fun e => ⟨?_, x14⟩) (fun e => ?_)
      · have : ((n + d.l : Nat) : Int) > 16 := by simpa using e
        rw [he]
        unfold packsC
        rw [if_neg hown, if_neg (fun e => e hman), if_neg hno, if_pos (by omega)]; rfl
      · have g4 : ¬ ((n + d.l : Nat) : Int) > 16 := by simpa using e
        unfold F45_k10
        rw [wrap_succ j _ hk' hl, hI]
        refine ⟨⟨n + d.l, j + 1, rfl, rfl, by omega, by omega, x14, ?_⟩, less_succ _ _ hk'⟩
        rw [he, packsC_step _ _ _ _ hown hman hno (by omega), takeR_succ hpi, List.map_append, hdl]; rfl
  · have hk' : k = l := by
      have : ¬ (k : Int) < (l : Int) := by simpa using hf
      omega
    unfold F45_k11
    rw [List.drop_of_length_le (by omega)] at he
    exact ⟨by rw [he]; rfl, x1⟩

theorem root_ok (n : Int) (h : Heap) : HEnt Try.prog 53 #[.int .i64 n] h fun v h' => v = .bool (decide (rootP n)) ∧ h' = h := by
  refine F53_ent _ _ _ ?_
  unfold F53 rootP
  refine br_of (fun e => ⟨?_, rfl⟩) (fun e => ⟨?_, rfl⟩)
  · have := of_decide_eq_true e
    congr 1; exact decide_eq_decide.2 ⟨fun h => ⟨this, h⟩, fun h => h.2⟩
  · have := of_decide_eq_false e
    congr 1; exact (decide_eq_false fun h => this h.1).symm
theorem refRoot_ok (n : Int) (h : Heap) : HEnt Try.prog 44 #[.int .i64 n] h fun v h' => v = .bool (decide (rootP n)) ∧ h' = h := by
  refine F44_ent _ _ _ ?_
  unfold F44 rootP
  refine br_of (fun e => ⟨?_, rfl⟩) (fun e => ⟨?_, rfl⟩)
  · have := of_decide_eq_true e
    congr 1; exact decide_eq_decide.2 ⟨fun h => ⟨this, h⟩, fun h => h.2⟩
  · have := of_decide_eq_false e
    congr 1; exact (decide_eq_false fun h => this h.1).symm
theorem goes_ok (f t k : Int) (h : Heap) : HEnt Try.prog 42 #[.agg #[.int .i64 f, .int .i64 t], .int .i64 k] h fun v h' => v = .bool (decide (goesP k f t)) ∧ Ext h h' := by
  refine F42_ent _ _ _ _ _ ?_
  unfold F42
  refine (St.start h).new fun b h1 s1 x1 _ => ?_
  have fin : ∀ (u v : Int) (h2 : Heap), St h h2 [⟨b, #[.int .i64 u, .int .i64 v], 71⟩] → (goesP k f t ↔ v = 0 ∧ rootP u) → F42_k2 (at0 b) h2 fun w h' => w = .bool (decide (goesP k f t)) ∧ Ext h h' := by
    intro u v h2 s2 hg
    unfold F42_k2
    refine ⟨u, s2.cell 0 rfl rfl, HEnt.use (root_ok u h2) ?_⟩
    rintro _ h2 ⟨rfl, rfl⟩
    refine ⟨_, rfl, br_of (fun e => ⟨v, s2.cell 0 rfl rfl, ?_, s2.ext⟩) (fun e => ⟨?_, s2.ext⟩)⟩
    · have e' := of_decide_eq_true e
      congr 1
      rw [Bool.eq_iff_iff]
      simp only [beq_iff_eq, decide_eq_true_eq]
      rw [hg]; exact ⟨fun h => ⟨h, e'⟩, fun h => h.1⟩
    · have e' := of_decide_eq_false e
      congr 1
      exact (decide_eq_false fun h => e' (hg.1 h).2).symm
  have sw : (k = 1 ∨ k = 3 ∨ k = 4) → F42_k1 (at0 b) true h1 fun w h' => w = .bool (decide (goesP k f t)) ∧ Ext h h' := fun hk => by
    unfold F42_k1
    refine br_of (fun _ => ⟨t, s1.cell 0 rfl rfl, f, s1.cell 0 rfl rfl, ?_⟩) (fun e => by cases e)
    refine s1.store 0 rfl (k := 0) (by simp) rfl fun h2 s2 o2 => s2.store 0 rfl (k := 1) (by simp) rfl fun h3 s3 o3 => fin t f h3 s3 ?_
    unfold goesP; rw [if_pos hk]
  refine br_of (fun e => sw (.inl (by simpa using e))) (fun e1 => br_of (fun e => sw (.inr (.inl (by simpa using e)))) (fun e2 => ?_))
  by_cases h4 : k = 4
  · rw [show ((k : Int) == 4) = true by simp [h4]]; exact sw (.inr (.inr h4))
  · rw [show ((k : Int) == 4) = false by simp [h4]]
    unfold F42_k1
    refine br_of (fun e => by cases e) (fun _ => fin f t h1 s1 ?_)
    unfold goesP
    rw [if_neg (fun e => ?_)]
    rcases e with e | e | e
    · simp [e] at e1
    · simp [e] at e2
    · exact h4 e
end Go.Proofs.Ytnhnioodlciajaa
