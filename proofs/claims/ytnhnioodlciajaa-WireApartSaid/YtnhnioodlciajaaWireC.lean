/- Chapter 16: what the two Checks of a stack, and of a message, compute. -/
import Derived.Test.YtnhnioodlciajaaWireB
namespace Go.Proofs.Ytnhnioodlciajaa
open Go.Vc Go.Sha Go.Trail Go.Packs
set_option linter.unusedVariables false

theorem zeroC68 : (zeroC Try.prog 68).size = 4 := by kernel_rfl
theorem seq_names (s t : ByteArray) : seq s t = decide (lst s = lst t) := seq_lst s t

theorem closure_ok (p : PackV) (d : Hdr) (q : Addr) (nm : ByteArray) (h : Heap) (hq : Vc.cell h ((q.add 1).add 0) = some (.string nm)) :
    HEnt Try.prog 56 #[.agg #[.int .i64 p.owner, .string p.name, .string p.ver, .slice d.a d.l d.c], .pointer (some q)] h fun v h' => v = .bool (decide (lst p.name = lst nm)) ∧ Ext h h' := by
  refine F56_ent _ _ _ _ _ _ _ _ _ ?_
  unfold F56
  refine (St.start h).new fun b h1 s1 x1 _ => ⟨_, s1.cell2 0 rfl rfl, _, x1.some hq, ?_, x1⟩
  rw [seq_names]
theorem indexFunc_ok (a : Option Addr) (l c : Nat) (ps : List PackV) (ds : List Hdr) (q : Addr) (nm : ByteArray) (h : Heap) (hp : PacksAt h a l c ps ds) (hl : l < 9223372036854775808) (hq : Vc.cell h ((q.add 1).add 0) = some (.string nm)) :
    HEnt Try.prog 62 #[.slice a l c, .func (.func 56) #[] #[.pointer (some q)]] h fun v h' => (∃ n : Int, v = .int .i64 n ∧ (0 ≤ n ↔ lst nm ∈ ps.map fun p => lst p.name)) ∧ Ext h h' := by
  refine F62_ent _ _ _ _ _ _ ?_
  have hlen := hp.length
  unfold F62
  refine ⟨fun y h' => ∃ k : Nat, y = k ∧ k ≤ l ∧ lst nm ∉ ((ps.take k).map fun p => lst p.name) ∧ Ext h h', fun y _ => (l - y).toNat, ⟨0, rfl, by omega, by simp, Ext.refl h⟩, ?_⟩
  rintro h1 _ ⟨k, rfl, hk, hno, x1⟩
  unfold F62_b1
  refine br_of (fun ht => ?_) (fun hf => ?_)
  · have hk' : k < l := by
      have : (k : Int) < (l : Int) := by simpa using ht
      omega
    obtain ⟨b, o, p, d, hpi, hdi, rfl, pok, _, hc⟩ := (hp.grow x1).at_ hk'
    unfold F62_k2
    refine ⟨_, rfl, by omega, by omega, p.owner, p.name, p.ver, d.a, d.l, d.c, by rw [Int.toNat_natCast, add_mk, add_mk]; exact hc 0 _ rfl, by rw [Int.toNat_natCast, add_mk, add_mk]; exact hc 1 _ rfl, by rw [Int.toNat_natCast, add_mk, add_mk]; exact hc 2 _ rfl, by rw [Int.toNat_natCast, add_mk, add_mk]; exact hc 3 _ rfl, rfl, ?_⟩
    refine HEnt.use (closure_ok p d q nm h1 (x1.some hq)) ?_
    rintro _ h2 ⟨rfl, x2⟩
    refine ⟨_, rfl, br_of (fun he => ?_) (fun he => ?_)⟩
    · have he' := of_decide_eq_true he
      exact ⟨⟨k, rfl, fun _ => by rw [← he']; exact List.mem_map.2 ⟨p, List.mem_of_getElem? hpi, rfl⟩, fun _ => by omega⟩, x1.trans x2⟩
    · have he' := of_decide_eq_false he
      unfold F62_k3
      rw [wrap_succ k _ hk' hl]
      refine ⟨⟨k + 1, rfl, by omega, ?_, x1.trans x2⟩, less_succ _ _ hk'⟩
      rw [takeR_succ hpi, List.map_append]
      intro hm
      rcases List.mem_append.1 hm with hm | hm
      · exact hno hm
      · simp at hm; exact he' hm.symm
  · have hk' : k = l := by
      have : ¬ (k : Int) < (l : Int) := by simpa using hf
      omega
    rw [List.take_of_length_le (by omega)] at hno
    unfold F62_k4
    exact ⟨⟨-1, rfl, fun h => by omega, fun h => absurd h hno⟩, x1⟩
theorem containsFunc_ok (a : Option Addr) (l c : Nat) (ps : List PackV) (ds : List Hdr) (q : Addr) (nm : ByteArray) (h : Heap) (hp : PacksAt h a l c ps ds) (hl : l < 9223372036854775808) (hq : Vc.cell h ((q.add 1).add 0) = some (.string nm)) :
    HEnt Try.prog 55 #[.slice a l c, .func (.func 56) #[] #[.pointer (some q)]] h fun v h' => v = .bool (decide (lst nm ∈ ps.map fun p => lst p.name)) ∧ Ext h h' := by
  refine F55_ent _ _ _ _ _ _ ?_
  unfold F55
  refine HEnt.use (indexFunc_ok a l c ps ds q nm h hp hl hq) ?_
  rintro _ h1 ⟨⟨n, rfl, hi⟩, x1⟩
  refine ⟨n, rfl, ?_, x1⟩
  congr 1
  exact decide_eq_decide.2 hi

theorem packsC_step (seen : List (List Nat)) (n : Nat) (p : PackV) (t : List PackV) (h1 : ¬ (p.owner < 1 ∨ p.owner > 8)) (h2 : manC p.name p.ver p.refs = 0) (h3 : lst p.name ∉ seen) (h4 : ¬ n + p.refs.length > 16) :
    packsC seen n (p :: t) = packsC (seen ++ [lst p.name]) (n + p.refs.length) t := by
  conv => lhs; unfold packsC
  rw [if_neg h1, if_neg (fun e => e h2), if_neg h3, if_neg h4]

theorem packs_ok (a : Option Addr) (l c : Nat) (ps : List PackV) (ds : List Hdr) (h : Heap) (hp : PacksAt h a l c ps ds) (hl : l < 9223372036854775808) :
    HEnt Try.prog 43 #[.slice a l c] h fun v h' => v = .int .i64 (packsC [] 0 ps) ∧ Ext h h' := by
  refine F43_ent _ _ _ _ _ ?_
  have hlen := hp.length
  have hcap := hp.rows.cap
  unfold F43
  rintro _ rfl
  obtain ⟨I, hI⟩ : ∃ I : Int → Int → Heap → Prop, I = fun (x y : Int) h' => ∃ n k : Nat, x = n ∧ y = k ∧ k ≤ l ∧ n ≤ 16 ∧ Ext h h' ∧ packsC [] 0 ps = packsC ((ps.take k).map fun p => lst p.name) n (ps.drop k) := ⟨_, rfl⟩
  refine ⟨I, fun _ y _ => (l - y).toNat, by rw [hI]; exact ⟨0, 0, rfl, rfl, by omega, by omega, Ext.refl h, by simp⟩, ?_⟩
  intro h1 x3 x9 hinv
  rw [hI] at hinv
  obtain ⟨n, k, rfl, rfl, hk, hn, x1, he⟩ := hinv
  unfold F43_b1
  refine br_of (fun ht => ?_) (fun hf => ?_)
  · have hk' : k < l := by
      have : (k : Int) < (l : Int) := by simpa using ht
      omega
    obtain ⟨b, o, p, d, hpi, hdi, rfl, pok, hrefs, hc⟩ := (hp.grow x1).at_ hk'
    rw [dropR_cons hpi] at he
    unfold F43_k2
    refine ⟨_, rfl, by omega, by omega, p.owner, p.name, p.ver, d.a, d.l, d.c, by rw [Int.toNat_natCast, add_mk, add_mk]; exact hc 0 _ rfl, by rw [Int.toNat_natCast, add_mk, add_mk]; exact hc 1 _ rfl, by rw [Int.toNat_natCast, add_mk, add_mk]; exact hc 2 _ rfl, by rw [Int.toNat_natCast, add_mk, add_mk]; exact hc 3 _ rfl, rfl, ?_⟩
    refine (St.start h1).new fun b5 h2 s2 x2 hb5 => ?_
    refine s2.storeAll 0 rfl rfl zeroC68 (by intro u hu; simp at hu; rcases hu with rfl | rfl | rfl | rfl <;> rfl) fun h3 s3 o3 => ?_
    have x13 := s3.ext
    have bad : (p.owner < 1 ∨ p.owner > 8) → F43_k3 I (fun _ y _ => (l - y).toNat) (((l : Int) - (k : Int)).toNat) (some ⟨b, o, none⟩) l c (n : Int) (k : Int) (at0 b5) (some ⟨b, o, none⟩) l c (l : Int) (k : Int) true h3 fun v h' => v = .int .i64 (packsC [] 0 ps) ∧ Ext h h' := fun hb => by
      unfold F43_k3
      refine br_of (fun _ => ⟨?_, x1.trans x13⟩) (fun e => by cases e)
      rw [he]; unfold packsC; rw [if_pos hb]; rfl
    refine ⟨p.owner, s3.cell 0 rfl rfl, br_of (fun e => bad (.inl (of_decide_eq_true e))) (fun e1 => ⟨p.owner, s3.cell 0 rfl rfl, ?_⟩)⟩
    have g1 := of_decide_eq_false e1
    by_cases g2 : p.owner > 8
    case pos => rw [decide_eq_true g2]; exact bad (.inr g2)
    rw [decide_eq_false g2]
    have hown : ¬ (p.owner < 1 ∨ p.owner > 8) := fun e => e.elim g1 g2
    unfold F43_k3
    refine br_of (fun e => by cases e) (fun _ => ?_)
    unfold F43_k4
    refine ⟨p.name, p.ver, d.a, d.l, d.c, s3.cell2 0 rfl rfl, s3.cell2 0 rfl rfl, s3.cell2 0 rfl rfl, rfl, ?_⟩
    refine HEnt.use (man_ok p.name p.ver d.a d.l d.c p.refs h3 (hrefs.grow x13) pok.1 pok.2) ?_
    rintro _ h4 ⟨rfl, x4⟩
    have s4 := s3.grow x4
    refine ⟨_, rfl, br_of (fun e => ⟨?_, (x1.trans x13).trans x4⟩) (fun e => ?_)⟩
    · have hne : manC p.name p.ver p.refs ≠ 0 := by
        intro e0; rw [e0] at e; simp at e
      rw [he]
      unfold packsC
      rw [if_neg hown, if_pos hne]
    have hman : manC p.name p.ver p.refs = 0 := by
      have : ((manC p.name p.ver p.refs : Nat) : Int) = 0 := by simpa using e
      omega
    unfold F43_k5
    refine ⟨by omega, by omega, by omega, ?_⟩
    rw [cutAt0, Int.toNat_natCast, Nat.sub_zero, Nat.sub_zero]
    refine HEnt.use (containsFunc_ok _ k c (ps.take k) (ds.take k) (at0 b5) p.name h4 ((hp.grow ((x1.trans x13).trans x4)).take k hk) (by omega) (s4.cell2 0 rfl rfl)) ?_
    rintro _ h5 ⟨rfl, x5⟩
    have x15 := ((x1.trans x13).trans x4).trans x5
    have s5 := s4.grow x5
    refine ⟨_, rfl, br_of (fun e => ⟨?_, x15⟩) (fun e => ?_)⟩
    · rw [he]
      unfold packsC
      rw [if_neg hown, if_neg (fun e => e hman), if_pos (of_decide_eq_true e)]; rfl
    have hname := of_decide_eq_false e
    have hrl := manC_len hman
    have hdl : p.refs.length = d.l := hrefs.len
    unfold F43_k6
    refine ⟨d.a, d.l, d.c, s5.cell2 0 rfl rfl, ?_⟩
    rintro _ rfl
    have ew : IntKind.i64.wrap ((n : Int) + (d.l : Int)) = ((n + d.l : Nat) : Int) := by rw [i64_lt _ (by omega) (by omega)]; omega
    rw [ew]
    refine br_of (fun e => ⟨?_, x15⟩) (fun e => ?_)
    · have : ((n + d.l : Nat) : Int) > 16 := by simpa using e
      rw [he]
      unfold packsC
      rw [if_neg hown, if_neg (fun e => e hman), if_neg hname, if_pos (by omega)]; rfl
    · have g4 : ¬ ((n + d.l : Nat) : Int) > 16 := by simpa using e
      unfold F43_k7
      rw [wrap_succ k _ hk' hl, hI]
      refine ⟨⟨n + d.l, k + 1, rfl, rfl, by omega, by omega, x15, ?_⟩, less_succ _ _ hk'⟩
      rw [he, packsC_step _ _ _ _ hown hman hname (by omega), takeR_succ hpi, List.map_append, hdl]; rfl
  · have hk' : k = l := by
      have : ¬ (k : Int) < (l : Int) := by simpa using hf
      omega
    unfold F43_k8
    rw [List.drop_of_length_le (by omega)] at he
    exact ⟨by rw [he]; rfl, x1⟩
end Go.Proofs.Ytnhnioodlciajaa
