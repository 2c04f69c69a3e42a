import Derived.Test.YtpnbbgcaaogpdaaDoorManG
import Derived.Test.YtpnbbgcaaogpdaaDoorVmpC

namespace Go.Proofs.YtpnbbgcaaogpdaaDoor
open Go.Vc Go.Sha Go.Trail Go.RowKit Go.Man
set_option linter.unusedVariables false
set_option linter.unusedSimpArgs false
set_option maxRecDepth 8000
theorem refs_eq (p q : RefV) (hp : p.1.length = 32) (hq : q.1.length = 32) (w : World) : (Op.equal 54 (.agg (refC p).toArray) (.agg (refC q).toArray)).run Tryd.prog w = .ok (decide (p = q)) w :=
  run_equal_refs Tryd.underlying54 held54 rfl rfl rfl rfl rfl rfl Tryd.underlying48 Tryd.underlying5 cells5' cells48 Tryd.underlying3 p q hp hq w
def sameM (m n : ManV) : Bool := decide (lst m.name = lst n.name) && (decide (lst m.ver = lst n.ver) && decide (m.refs = n.refs))
theorem same_ok (m n : ManV) (a : Option Addr) (l c : Nat) (a' : Option Addr) (l' c' : Nat) (h : Heap) (w : Tab 33 h a l c (rowsR m.refs)) (w' : Tab 33 h a' l' c' (rowsR n.refs)) (hb : ∀ r ∈ m.refs, r.1.length = 32) (hb' : ∀ r ∈ n.refs, r.1.length = 32) (hl : l < 2 ^ 40) :
    HEnt Tryd.prog 15 #[.agg (manA m a l c), .agg (manA n a' l' c')] h fun v h' => v = .bool (sameM m n) ∧ Ext h h' := by
  have hlen : m.refs.length = l := by have := w.len; rwa [rowsR_len] at this
  have hlen' : n.refs.length = l' := by have := w'.len; rwa [rowsR_len] at this
  refine F15_ent _ _ _ _ _ _ _ _ _ _ _ _ ?_
  unfold F15
  refine newK_intro fun h1 hb1 x1 _ => newK_intro fun h2 hb2 x2 _ => ?_
  have hb1 := x2.blk hb1
  have x := x1.trans x2
  refine ⟨m.name, by rw [at_cell hb1]; rfl, n.name, by rw [at_cell hb2]; rfl, ?_⟩
  rw [seq_lst]
  have bad : ∀ b : Bool, (b = true → sameM m n = false) → (b = false → F15_k2 (at0 h.size) (at0 h1.size) h2 fun v h' => v = .bool (sameM m n) ∧ Ext h h') → F15_k1 (at0 h.size) (at0 h1.size) b h2 fun v h' => v = .bool (sameM m n) ∧ Ext h h' := fun b h1 h2 => by
    unfold F15_k1
    exact br_of (fun hb => ⟨by rw [h1 hb], x⟩) h2
  refine br_of (fun g1 => bad true (fun _ => ?_) (fun e => by cases e)) (fun g1 => ?_)
  · have : ¬ lst m.name = lst n.name := by simpa using g1
    unfold sameM; simp [this]
  have e1 : lst m.name = lst n.name := by simpa using g1
  refine ⟨m.ver, by rw [at_cell hb1]; rfl, n.ver, by rw [at_cell hb2]; rfl, ?_⟩
  rw [seq_lst]
  refine br_of (fun g2 => bad true (fun _ => ?_) (fun e => by cases e)) (fun g2 => ?_)
  · have : ¬ lst m.ver = lst n.ver := by simpa using g2
    unfold sameM; simp [this]
  have e2 : lst m.ver = lst n.ver := by simpa using g2
  refine ⟨a, l, c, by rw [at_cell hb1]; rfl, a', l', c', by rw [at_cell hb2]; rfl, bad _ (fun g3 => ?_) (fun g3 => ?_)⟩
  · have : (l : Int) ≠ (l' : Int) := by simpa using g3
    unfold sameM
    have : m.refs ≠ n.refs := fun e => by rw [e, hlen'] at hlen; omega
    simp [this]
  have e3 : l = l' := by
    have : (l : Int) = (l' : Int) := by simpa using g3
    omega
  unfold F15_k2
  rintro _ rfl
  refine ⟨fun x h' => ∃ k : Nat, x = k ∧ k ≤ l ∧ m.refs.take k = n.refs.take k ∧ h' = h2, fun x _ => (l - x).toNat, ⟨0, rfl, by omega, rfl, rfl⟩, ?_⟩
  rintro h3 _ ⟨k, rfl, hk, htk, rfl⟩
  unfold F15_b3
  refine ⟨a, l, c, by rw [at_cell hb1]; rfl, br_of (fun ht => ?_) (fun hf => ?_)⟩
  rotate_left
  · have hk' : k = l := by
      have : ¬ (k : Int) < (l : Int) := by simpa using hf
      omega
    unfold F15_k6
    refine ⟨?_, x⟩
    rw [List.take_of_length_le (by omega), List.take_of_length_le (by omega)] at htk
    unfold sameM; simp [e1, e2, htk]
  have hk' : k < l := by
    have : (k : Int) < (l : Int) := by simpa using ht
    omega
  obtain ⟨r, hr⟩ : ∃ r, m.refs[k]? = some r := ⟨m.refs[k]'(by omega), List.getElem?_eq_getElem (by omega)⟩
  obtain ⟨s, hs⟩ : ∃ s, n.refs[k]? = some s := ⟨n.refs[k]'(by omega), List.getElem?_eq_getElem (by omega)⟩
  have hr32 := hb r (List.mem_of_getElem? hr)
  have hs32 := hb' s (List.mem_of_getElem? hs)
  obtain ⟨q, rfl, _, hcell⟩ := (w.grow x).get (i := k) (r := refC r) (by simp [rowsR, hr])
  obtain ⟨q', rfl, _, hcell'⟩ := (w'.grow x).get (i := k) (r := refC s) (by simp [rowsR, hs])
  have ek : IntKind.i64.wrap ((k : Int) + 1) = ((k + 1 : Nat) : Int) := by rw [i64_lt _ (by omega) (by omega)]; omega
  unfold F15_k4
  refine ⟨_, l, c, by rw [at_cell hb1]; rfl, q, rfl, by omega, by omega, (refC r).toArray, by simp [refC_len, hr32], by rw [Int.toNat_natCast]; exact hcell, _, l', c', by rw [at_cell hb2]; rfl, q', rfl, by omega, by omega, (refC s).toArray, by simp [refC_len, hs32], by rw [Int.toNat_natCast]; exact hcell',
    decide (r = s), fun w => refs_eq r s hr32 hs32 w, eqg54, ?_⟩
  intro h4 hcl; obtain rfl := hcl.eq
  refine br_of (fun hne => ⟨?_, x⟩) (fun heq => ?_)
  · have hne' : r ≠ s := by simpa using hne
    have : m.refs ≠ n.refs := fun e => by rw [e, hs] at hr; exact hne' (Option.some.inj hr).symm
    unfold sameM; simp [this]
  · have heq' : r = s := by simpa using heq
    unfold F15_k5
    rintro _ rfl
    rw [ek]
    exact ⟨⟨k + 1, rfl, by omega, by rw [List.take_add_one, List.take_add_one, htk, hr, hs, heq'], rfl⟩, by show ((l : Int) - ((k + 1 : Nat) : Int)).toNat < ((l : Int) - (k : Int)).toNat; omega⟩
/-! ### Encode -/
def nt (s : ByteArray) : List Nat := s.size :: lst s
def refB (r : RefV) : List Nat := r.1 ++ varB r.2.toNat
def refsB (rs : List RefV) : List Nat := rs.flatMap refB
def encodeM (m : ManV) : List Nat := [86, 77, 1] ++ nt m.name ++ nt m.ver ++ [m.refs.length] ++ refsB m.refs
theorem refsB_snoc (rs : List RefV) (r : RefV) : refsB (rs ++ [r]) = refsB rs ++ refB r := by simp [refsB]
theorem refsB_len : ∀ (rs : List RefV), (∀ r ∈ rs, r.1.length = 32) → (refsB rs).length ≤ rs.length * 43
  | [], _ => by simp [refsB]
  | r :: rs, h => by
    have h1 := h r (List.mem_cons_self ..)
    have h2 := refsB_len rs fun x hx => h x (List.mem_cons_of_mem _ hx)
    have h3 := varF_len 10 r.2.toNat
    unfold refsB at *
    simp only [List.flatMap_cons, List.length_append, List.length_cons, refB, h1]
    unfold varB
    omega
theorem own_lt {el : TypeId} {h0 h : Heap} {a : Option Addr} {l c : Nat} {vs : List Value} (o : OwnAt el h0 h a l c vs) : ∀ k, a = some ⟨k, 0, none⟩ → k < h.size := by
  intro k e
  rcases o.own with ⟨e2, _⟩ | ⟨_, _, b, cs, e2, _, h4, _⟩
  · rw [e] at e2; cases e2
  · rw [e] at e2; cases e2; exact blk_lt h4
theorem nameB_len {s : ByteArray} (h : nameB (lst s) = true) : 1 ≤ s.size ∧ s.size ≤ 16 := by
  unfold nameB at h
  simp only [Bool.and_eq_true, decide_eq_true_eq, lst_len] at h
  exact h.2
theorem u8_small (n : Nat) (h : n < 256) : (IntKind.u8.wrap (n : Int) : Int) = ((n : Nat) : Int) := by rw [u8_wrap, Nat.mod_eq_of_lt h]
theorem load3 {w : World} {ad : Addr} {z : Int} (hc : Vc.cell w.heap ad = some (.int .i64 z)) : (loadVar 3 ad).run Tryd.prog w = .ok (.int .i64 z) w := run_loadCell hc Tryd.underlying3 rfl
theorem encode_ok (m : ManV) (a : Option Addr) (l c : Nat) (h : Heap) (w : Tab 33 h a l c (rowsR m.refs)) (hb : Big m) (hl : l < 2 ^ 40) :
    HEnt Tryd.prog 21 #[.agg (manA m a l c)] h fun v h' => ∃ a' l' c', v = .tuple #[.slice a' l' c', .int .i64 (checkM m)] ∧ Ext h h' ∧
      (checkM m = 0 → OwnAt 5 h h' a' l' c' ((encodeM m).map u8)) ∧ (checkM m ≠ 0 → a' = none ∧ l' = 0 ∧ c' = 0) := by
  have hlen : m.refs.length = l := by have := w.len; rwa [rowsR_len] at this
  refine F21_ent _ _ _ _ _ _ _ ?_
  unfold F21
  refine newK_intro fun h1 hb1 x1 _ => ⟨m.name, m.ver, a, l, c, by rw [at_cell hb1]; rfl, by rw [at_cell hb1]; rfl, by rw [at_cell hb1]; rfl, rfl, HEnt.use (check_ok m a l c h1 (w.grow x1) hb hl) ?_⟩
  rintro _ h2 ⟨rfl, x2⟩
  have x12 := x1.trans x2
  refine ⟨_, rfl, br_of (fun hne => ?_) (fun heq => ?_)⟩
  · have : (checkM m : Int) ≠ 0 := by simpa using hne
    exact ⟨none, 0, 0, rfl, x12, fun e => by omega, fun _ => ⟨rfl, rfl, rfl⟩⟩
  have h0 : checkM m = 0 := by
    have : (checkM m : Int) = 0 := by simpa using heq
    omega
  obtain ⟨nb1, nb2, hl0, h8, hrng, _⟩ := check_zero h0
  have ln1 := nameB_len nb1
  have ln2 := nameB_len nb2
  have hb2 := x2.blk hb1
  have r32 : ∀ r ∈ m.refs, r.1.length = 32 := fun r hr => (hb.2.2 r hr).1
  unfold F21_k1
  refine ⟨by decide, newK_intro fun h3 n3 x3 _ => ⟨⟨_, _, _, n3⟩, ?_⟩⟩
  rintro h4 rfl
  have n4 : (h3.modify (at0 h2.size).block markO)[h2.size]? = some (.cells ([86, 77, 1].map u8).toArray 5 (3, 4)) := by
    rw [Array.getElem?_modify]
    have : (at0 h2.size).block = h2.size := rfl
    rw [if_pos this, n3]; rfl
  have o4 : Only h2.size h3 (h3.modify (at0 h2.size).block markO) := ⟨by simp, fun k hk => by
    rw [Array.getElem?_modify, if_neg (fun e => hk e.symm)]⟩
  generalize (h3.modify (at0 h2.size).block markO) = h4 at *
  have k4 : Keep (· = h2.size) h2 h4 := (x3.keep _).trans (o4.keep rfl)
  have x4 : Ext h2 h4 := k4.ext fun k hk e => by omega
  have hb4 := x4.blk hb2
  refine ⟨m.name, by rw [at_cell hb4]; rfl, m.ver, by rw [at_cell hb4]; rfl, by decide, newK_intro fun h5 n5 x5 _ => ?_⟩
  have x15 := (x12.trans x4).trans x5
  have zz5 := x5.size
  -- behind the two names
  have tail : ∀ (a6 : Option Addr) (l6 c6 : Nat) (h6 : Heap), OwnAt 5 h h6 a6 l6 c6 (([86, 77, 1] ++ nt m.name ++ nt m.ver).map u8) → h6[h.size]? = some (.cells (manA m a l c) 24 (0, 0)) → (∀ k, a6 = some ⟨k, 0, none⟩ → k ≠ h.size) →
      F21_k4 (at0 h.size) a6 l6 c6 h6 fun v h' => ∃ a' l' c', v = .tuple #[.slice a' l' c', .int .i64 (checkM m)] ∧ Ext h h' ∧ (checkM m = 0 → OwnAt 5 h h' a' l' c' ((encodeM m).map u8)) ∧ (checkM m ≠ 0 → a' = none ∧ l' = 0 ∧ c' = 0) := by
    intro a6 l6 c6 h6 o6 hb6 hne6
    have hl6 := own_len o6
    simp only [List.length_append, nt, List.length_cons, List.length_nil, lst_len] at hl6
    unfold F21_k4
    refine ⟨a, l, c, by rw [at_cell hb6]; rfl, by decide, newK_intro fun h7 n7 x7 _ => ?_⟩
    rw [u8_small l (by omega)] at n7
    refine app5 (m := 1) (new := [l]) (o6.grow x7) (srcK_slice rfl (fun ad e => by cases e; exact cells_blk0 n7) (by rintro ⟨⟩)) rfl (by omega) fun a8 c8 h8 o8 k8 d8 => ?_
    have hb8 : h8[h.size]? = some (.cells (manA m a l c) 24 (0, 0)) := k8.blk (x7.blk hb6) (by
      rintro (e | e)
      · exact hne6 _ e rfl
      · have := blk_lt hb6; have := x7.size; omega)
    refine ⟨a, l, c, by rw [at_cell hb8]; rfl, fun a' l' c' x h' => ∃ k : Nat, x = k ∧ k ≤ l ∧ OwnAt 5 h h' a' l' c' (([86, 77, 1] ++ nt m.name ++ nt m.ver ++ [l] ++ refsB (m.refs.take k)).map u8), fun _ _ _ x _ => (l - x).toNat, ⟨0, rfl, by omega, by simpa [refsB] using o8⟩, ?_⟩
    rintro h9 a9 l9 c9 _ ⟨k, rfl, hk, o9⟩
    have hl9 := own_len o9
    have hrl9 := refsB_len (m.refs.take k) fun r hr => r32 r (List.mem_of_mem_take hr)
    rw [List.length_take] at hrl9
    simp only [List.length_append, nt, List.length_cons, List.length_nil, lst_len] at hl9
    unfold F21_b5
    refine br_of (fun ht => ?_) (fun hf => ?_)
    rotate_left
    · have hk' : k = l := by
        have : ¬ (k : Int) < (l : Int) := by simpa using hf
        omega
      unfold F21_k7
      refine ⟨a9, l9, c9, by rw [h0]; rfl, o9.ext, fun _ => ?_, fun e => absurd h0 e⟩
      rw [hk', List.take_of_length_le (by omega)] at o9
      unfold encodeM; rw [hlen]; exact o9
    have hk' : k < l := by
      have : (k : Int) < (l : Int) := by simpa using ht
      omega
    obtain ⟨r, hr⟩ : ∃ r, m.refs[k]? = some r := ⟨m.refs[k]'(by omega), List.getElem?_eq_getElem (by omega)⟩
    obtain ⟨hr32, hr256, _, _⟩ := hb.2.2 r (List.mem_of_getElem? hr)
    have hrr := hrng r (List.mem_of_getElem? hr)
    obtain ⟨q, eq, _, hcell⟩ := (w.grow o9.ext).get (i := k) (r := refC r) (by simp [rowsR, hr])
    have e1 : IntKind.i64.wrap ((k : Int) + 1) = ((k + 1 : Nat) : Int) := by rw [i64_lt _ (by omega) (by omega)]; omega
    have hrl : (refC r).length = 33 := by rw [refC_len, hr32]
    unfold F21_k6
    refine ⟨q, eq, by omega, by omega, (refC r).toArray, by simp [hrl], by rw [Int.toNat_natCast]; exact hcell, newK_intro fun h10 hb10 x10 _ => ?_⟩
    refine storeK_whole hb10 (by simp [hrl]) zsize54 (fun u hu => refC_one r u (by simpa using hu)) fun h11 hb11 o11 => ?_
    have x11 : Ext h9 h11 := Keep.since x10 (o11.keep rfl : Keep (fun j => j = h9.size) h10 h11) fun j hj e => by omega
    have c32 : ∀ {h' : Heap}, h'[h9.size]? = h11[h9.size]? → Vc.cell h' ((at0 h9.size).add 32) = some (.int .i64 r.2) := fun e => by
      rw [at_cell (e.trans hb11), List.getElem?_toArray]; exact refC_get_last r hr32
    have lt11 := blk_lt hb11
    have hne9 : ∀ k, a9 = some ⟨k, 0, none⟩ → k ≠ h9.size := fun k e hh => by have := own_lt o9 k e; omega
    refine ⟨fun A B => B[h9.size]? = A[h9.size]?, fun _ => rfl, fun A B C p q => q.trans p, by omega, by omega, by omega, r.2, fun W e => load3 (c32 e), ?_⟩
    rw [show cutAt 32 0 1 (some ((at0 h9.size).add 0)) = some (at0 h9.size) from by rw [cutAt0]; rfl]
    have rowc : CellsAt h11 (at0 h9.size) (r.1.map u8) := by
      have := row_cells (h := h11) (ad := at0 h9.size) (r := r) fun i v hv => by rw [at_cell hb11, List.getElem?_toArray]; exact hv
      rwa [Addr.add_zero'] at this
    refine app5 (m := 32) (new := r.1) (o9.grow x11) (srcK_slice (by simp [hr32]) (fun ad e => by cases e; exact rowc) (by rintro ⟨⟩)) hr32 (by omega) fun a12 c12 h12 o12 k12 d12 => ⟨?_, ?_⟩
    · exact k12.block _ lt11 (by
        rintro (e | e)
        · exact hne9 _ e rfl
        · omega)
    have hn12 : ∀ k, a12 = some ⟨k, 0, none⟩ → k ≠ h9.size := fun k e hh => by
      rcases d12 k e with e | e
      · exact hne9 k e hh
      · omega
    have eu : IntKind.u64.wrap r.2 = ((r.2.toNat : Nat) : Int) := by
      rw [show r.2 = ((r.2.toNat : Nat) : Int) by omega, u64_lt _ (by omega) (by omega), Int.toNat_natCast]
    rw [eu]
    refine HEnt.use (var_ok r.2.toNat (by omega) h12) ?_
    rintro _ h13 ⟨a13, c13, rfl, o13⟩
    have lt12 : h9.size < h12.size := by have := k12.size; omega
    refine ⟨_, _, _, rfl, o13.ext.block _ lt12, ?_⟩
    have vl := varF_len 10 r.2.toNat
    refine app5 (m := (varB r.2.toNat).length) (new := varB r.2.toNat) (o12.grow o13.ext) o13.src rfl (by unfold varB; omega) fun a14 c14 h14 o14 k14 d14 => ⟨?_, ?_⟩
    · exact k14.block _ (by have := o13.ext.size; omega) (by
        rintro (e | e)
        · exact hn12 _ e rfl
        · have := o13.ext.size; omega)
    rw [e1]
    refine ⟨⟨k + 1, rfl, by omega, ?_⟩, by show ((l : Int) - ((k + 1 : Nat) : Int)).toNat < ((l : Int) - (k : Int)).toNat; omega⟩
    have etk : m.refs.take (k + 1) = m.refs.take k ++ [r] := by rw [List.take_add_one, hr]; rfl
    rw [etk, refsB_snoc]
    unfold refB
    simp only [← List.append_assoc]
    simpa [← List.append_assoc] using o14
  have n5' := x5.blk n4
  have cellN : ∀ {h' : Heap}, Ext h5 h' → Vc.cell h' ((at0 h4.size).add ((0 : Int).toNat * 1)) = some (.string m.name) := fun x => x.some (by rw [at_cell n5]; rfl)
  have cellV : ∀ {h' : Heap}, Ext h5 h' → Vc.cell h' ((at0 h4.size).add (((1 : Nat) : Int).toNat * 1)) = some (.string m.ver) := fun x => x.some (by rw [at_cell n5]; rfl)
  refine ⟨fun a l' c' x h' => (x = 0 ∧ a = some (at0 h2.size) ∧ l' = 3 ∧ c' = 3 ∧ h' = h5) ∨ (∃ k : Nat, x = k ∧ 1 ≤ k ∧ k ≤ 2 ∧ OwnAt 5 h5 h' a l' c' (([86, 77, 1] ++ nt m.name ++ (if k = 2 then nt m.ver else [])).map u8)), fun _ _ _ x _ => (2 - x).toNat, .inl ⟨rfl, rfl, rfl, rfl, rfl⟩, ?_⟩
  rintro h6 a6 l6 c6 x6 (⟨rfl, rfl, rfl, rfl, rfl⟩ | ⟨k, rfl, hk1, hk2, o6⟩)
  · unfold F21_b2
    refine br_of (fun _ => ?_) (fun e => by simp at e)
    unfold F21_k3
    refine ⟨_, rfl, by omega, by omega, m.name, cellN (Ext.refl _), by decide, newK_intro fun h7 n7 x7 _ => ?_⟩
    rw [u8_small _ (by omega)] at n7
    refine app5_grow (h0 := h6) (m := 1) (bs := [86, 77, 1]) (new := [m.name.size]) x7 rfl (fun ad e => by cases e; exact (cells_blk0 n5').ext x7) (by rintro ⟨⟩) (srcK_slice rfl (fun ad e => by cases e; exact cells_blk0 n7) (by rintro ⟨⟩)) rfl (by omega) (by omega) fun a8 c8 h8 o8 x8 => ?_
    refine app5 (m := m.name.size) (new := lst m.name) o8 ⟨rfl, (bytesV_lst m.name).symm⟩ (lst_len _) (by omega) fun a9 c9 h9 o9 k9 d9 => ?_
    refine ⟨.inr ⟨1, by decide, by omega, by omega, ?_⟩, by show ((2 : Int) - IntKind.i64.wrap (0 + 1)).toNat < ((2 : Int) - 0).toNat; decide⟩
    rw [if_neg (by decide), List.append_nil]
    unfold nt
    simpa [← List.append_assoc] using o9
  · have hl6 := own_len o6
    unfold F21_b2
    refine br_of (fun ht => ?_) (fun hf => ?_)
    · obtain rfl : k = 1 := by
        have : (k : Int) < 2 := by simpa using ht
        omega
      rw [if_neg (by decide), List.append_nil] at o6 hl6
      simp only [List.length_append, nt, List.length_cons, List.length_nil, lst_len] at hl6
      unfold F21_k3
      refine ⟨_, rfl, by omega, by omega, m.ver, cellV o6.ext, by decide, newK_intro fun h7 n7 x7 _ => ?_⟩
      rw [u8_small _ (by omega)] at n7
      refine app5 (m := 1) (new := [m.ver.size]) (o6.grow x7) (srcK_slice rfl (fun ad e => by cases e; exact cells_blk0 n7) (by rintro ⟨⟩)) rfl (by omega) fun a8 c8 h8 o8 k8 d8 => ?_
      refine app5 (m := m.ver.size) (new := lst m.ver) o8 ⟨rfl, (bytesV_lst m.ver).symm⟩ (lst_len _) (by omega) fun a9 c9 h9 o9 k9 d9 => ?_
      refine ⟨.inr ⟨2, by decide, by omega, by omega, ?_⟩, by show ((2 : Int) - IntKind.i64.wrap (((1 : Nat) : Int) + 1)).toNat < ((2 : Int) - ((1 : Nat) : Int)).toNat; decide⟩
      rw [if_pos rfl]
      unfold nt at o9 ⊢
      simpa [List.append_assoc] using o9
    · obtain rfl : k = 2 := by
        have : ¬ (k : Int) < 2 := by simpa using hf
        omega
      rw [if_pos rfl] at o6
      refine tail a6 l6 c6 h6 ⟨o6.own, fun k e => ?_, x15.trans o6.ext⟩ ((x5.trans o6.ext).blk hb4) (fun k e hh => ?_)
      · have := o6.new k e; have := x15.size; omega
      · have := o6.new k e; have := blk_lt hb1; have := x2.size; have := x4.size; omega
end Go.Proofs.YtpnbbgcaaogpdaaDoor
