import Derived.Test.YtpnbbgcaaogpdaaDoorManE

namespace Go.Proofs.YtpnbbgcaaogpdaaDoor
open Go.Vc Go.Sha Go.Trail Go.RowKit Go.Man
set_option linter.unusedVariables false
set_option linter.unusedSimpArgs false
set_option maxRecDepth 8000
abbrev RefV := List Nat × Int
structure ManV where
  name : ByteArray
  ver : ByteArray
  refs : List RefV
def rowsR (rs : List RefV) : List (List Value) := rs.map refC
theorem rowsR_len (rs : List RefV) : (rowsR rs).length = rs.length := by simp [rowsR]
def Big (m : ManV) : Prop := m.name.size < 2 ^ 30 ∧ m.ver.size < 2 ^ 30 ∧ ∀ r ∈ m.refs, r.1.length = 32 ∧ (∀ x ∈ r.1, x < 256) ∧ -9223372036854775808 ≤ r.2 ∧ r.2 < 9223372036854775808
def goC : List (List Nat) → List RefV → Nat
  | _, [] => 0
  | seen, r :: rs => if r.2 < 0 ∨ r.2 > 2147483647 then 2 else if r.1 ∈ seen then 8 else goC (seen ++ [r.1]) rs
def checkM (m : ManV) : Nat := if nameB (lst m.name) = false ∨ nameB (lst m.ver) = false then 2 else if m.refs.length = 0 then 9 else if m.refs.length > 8 then 3 else goC [] m.refs
def manA (m : ManV) (a : Option Addr) (l c : Nat) : Array Value := #[.string m.name, .string m.ver, .slice a l c]
theorem cells48 : Tryd.prog.cellsOf 48 = 32 := by kernel_rfl
theorem cells54 : Tryd.prog.cellsOf 54 = 33 := by kernel_rfl
theorem cells5' : Tryd.prog.cellsOf 5 = 1 := by kernel_rfl
theorem zeroR54 : (((Tryd.prog.info? 54).bind (·.zero)).getD undef).cells.size = 33 := by kernel_rfl
theorem bytes54 : Tryd.prog.bytesOf 54 = 40 := by kernel_rfl
theorem zsize54 : (zeroC Tryd.prog 54).size = 33 := by kernel_rfl
theorem zsize24 : (zeroC Tryd.prog 24).size = 3 := by kernel_rfl
theorem eqg54 : Tryd.prog.eqGuardType Tryd.prog.depth 54 = false := by kernel_rfl
theorem eqg48 : Tryd.prog.eqGuardType Tryd.prog.depth 48 = false := by kernel_rfl
theorem held54 : Tryd.prog.stoodInHeld 54 = false := by kernel_rfl
theorem keyed48 : Keyed Tryd.prog 48 rowV (fun ds => ds.length = 32) := rows_keyed Tryd.underlying48 Tryd.underlying5 cells5'
theorem at_cell {h : Heap} {b i : Nat} {cs : Array Value} {t : TypeId} {fr : Nat × Nat} (hb : h[b]? = some (.cells cs t fr)) : Vc.cell h ((at0 b).add i) = cs[i]? := by rw [add_at0, cell_blk hb]

theorem sh48 : Vc.sh Tryd.prog 48 = .agg 32 := by kernel_rfl
theorem sh54 : Vc.sh Tryd.prog 54 = .agg 33 := by kernel_rfl
theorem load48 {w : World} {ad : Addr} {cs : Array Value} (hs : cs.size = 32) (hc : CellsAt w.heap ad cs.toList) : (loadVar 48 ad).run Tryd.prog w = .ok (.agg cs) w := by
  have H : ldK Tryd.prog 48 w.heap ad (fun u => u = some (.agg cs)) := by
    unfold ldK
    rw [Tryd.underlying48, sh48]
    exact ⟨cs, by rw [hs, cells48], hc, rfl⟩
  obtain ⟨v, hv, hl⟩ := run_ld H
  obtain rfl := Option.some.inj hv
  exact hl w (Ext.refl _)
theorem zero3' : (Tryd.prog.info? 3).bind (·.zero) = some (.int .i64 0) := by kernel_rfl
def kv (seen : List (List Nat)) : List (List Nat × Value) := seen.map fun d => (d, .int .i64 1)
theorem look_kv (seen : List (List Nat)) (d : List Nat) : lookA (kv seen) d = if d ∈ seen then some (.int .i64 1) else none := by
  induction seen with
  | nil => rfl
  | cons a r ih =>
    unfold kv at ih ⊢
    simp only [List.map_cons, lookA, List.mem_cons]
    by_cases h : a = d
    · subst h; simp
    · have h' : ¬ d = a := fun e => h e.symm
      rw [if_neg h', ih]
      by_cases h2 : d ∈ r
      · simp [h2]
      · simp [h2, h']
theorem upd_kv (seen : List (List Nat)) (d : List Nat) (h : d ∉ seen) : updA (kv seen) d (.int .i64 1) = kv (seen ++ [d]) := by
  induction seen with
  | nil => rfl
  | cons a r ih =>
    simp only [List.mem_cons, not_or] at h
    have ih := ih h.2
    unfold kv at ih ⊢
    simp only [List.map_cons, updA, List.cons_append]
    rw [if_neg h.1, ih]
def seenK (rs : List RefV) (k : Nat) : List (List Nat) := (rs.take k).map Prod.fst
theorem goC_step {rs : List RefV} {k : Nat} {r : RefV} (hr : rs[k]? = some r) (h1 : ¬ (r.2 < 0 ∨ r.2 > 2147483647)) (h2 : r.1 ∉ seenK rs k) : goC (seenK rs k) (rs.drop k) = goC (seenK rs (k + 1)) (rs.drop (k + 1)) := by
  have hlt := (List.getElem?_eq_some_iff.1 hr).1
  have e : rs.drop k = r :: rs.drop (k + 1) := by
    rw [List.drop_eq_getElem_cons hlt]; congr 1
    exact (List.getElem?_eq_some_iff.1 hr).2
  have e2 : seenK rs (k + 1) = seenK rs k ++ [r.1] := by unfold seenK; rw [List.take_add_one, hr]; simp
  rw [e, goC, if_neg h1, if_neg h2, e2]
theorem goC_at {rs : List RefV} {k : Nat} {r : RefV} (hr : rs[k]? = some r) : goC (seenK rs k) (rs.drop k) = if r.2 < 0 ∨ r.2 > 2147483647 then 2 else if r.1 ∈ seenK rs k then 8 else goC (seenK rs k ++ [r.1]) (rs.drop (k + 1)) := by
  have hlt := (List.getElem?_eq_some_iff.1 hr).1
  have e : rs.drop k = r :: rs.drop (k + 1) := by
    rw [List.drop_eq_getElem_cons hlt]; congr 1
    exact (List.getElem?_eq_some_iff.1 hr).2
  rw [e, goC]
theorem refC_get_last (r : RefV) (h : r.1.length = 32) : (refC r)[32]? = some (.int .i64 r.2) := by
  unfold refC; rw [← h]; simp
theorem row_cells {h : Heap} {ad : Addr} {r : RefV} (hc : CellsAt h ad (refC r)) : CellsAt h (ad.add 0) (r.1.map fun n : Nat => Value.int .u8 (n : Int)) := by
  intro i v hv
  have : (refC r)[i]? = some v := by
    unfold refC
    rw [List.getElem?_append_left (List.getElem?_eq_some_iff.1 hv).1]; exact hv
  have := hc i v this
  rw [Addr.add_zero']; exact this
theorem check_ok (m : ManV) (a : Option Addr) (l c : Nat) (h : Heap) (w : Tab 33 h a l c (rowsR m.refs)) (hb : Big m) (hl : l < 2 ^ 40) :
    HEnt Tryd.prog 11 #[.agg (manA m a l c)] h fun v h' => v = .int .i64 (checkM m) ∧ Ext h h' := by
  obtain ⟨hn1, hn2, hrefs⟩ := hb
  have hlen : m.refs.length = l := by have := w.len; rwa [rowsR_len] at this
  refine F11_ent _ _ _ _ _ _ _ ?_
  unfold F11
  refine newK_intro fun h1 hb1 x1 _ => ?_
  have fin : ∀ (b6 : Bool) h2, Ext h1 h2 → (b6 = true → nameB (lst m.name) = false ∨ nameB (lst m.ver) = false) → (b6 = false → nameB (lst m.name) = true ∧ nameB (lst m.ver) = true) → F11_k1 (at0 h.size) b6 h2 fun v h' => v = .int .i64 (checkM m) ∧ Ext h h' := by
    intro b6 h2 x2 hbad hgood
    have hb2 := x2.blk hb1
    unfold F11_k1
    refine br_of (fun hb => ⟨by unfold checkM; rw [if_pos (hbad hb)]; rfl, x1.trans x2⟩) (fun hb => ?_)
    have hg := hgood hb
    have hn : ¬ (nameB (lst m.name) = false ∨ nameB (lst m.ver) = false) := by rw [hg.1, hg.2]; simp
    refine ⟨a, l, c, by rw [at_cell hb2]; rfl, br_of (fun h0 => ⟨?_, x1.trans x2⟩) (fun h0 => ⟨a, l, c, by rw [at_cell hb2]; rfl, br_of (fun h8 => ⟨?_, x1.trans x2⟩) (fun h8 => ?_)⟩)⟩
    · have h0' : (l : Int) = 0 := by simpa using h0
      unfold checkM; rw [if_neg hn, if_pos (by omega)]; rfl
    · have h0' : ¬ (l : Int) = 0 := by simpa using h0
      have h8' : (l : Int) > 8 := by simpa using h8
      unfold checkM; rw [if_neg hn, if_neg (by omega), if_pos (by omega)]; rfl
    have h0' : ¬ (l : Int) = 0 := by simpa using h0
    have h8' : ¬ (l : Int) > 8 := by simpa using h8
    have hM : checkM m = goC [] m.refs := by unfold checkM; rw [if_neg hn, if_neg (by omega), if_neg (by omega)]
    unfold F11_k2
    refine newK_intro fun h3 hb3 x3 _ => ⟨a, l, c, by rw [at_cell (x3.blk hb2)]; rfl, ?_⟩
    have z1 := x1.size
    have z2 := x2.size
    refine ⟨fun x h' => ∃ k : Nat, x = k ∧ k ≤ l ∧ checkM m = goC (seenK m.refs k) (m.refs.drop k) ∧ MapAt rowV (fun ds => ds.length = 32) h' h2.size (kv (seenK m.refs k)) ∧ Ext h h',
      fun x _ => (l - x).toNat, ⟨0, rfl, by omega, by rw [hM]; rfl, MapAt.new hb3, (x1.trans x2).trans x3⟩, ?_⟩
    rintro h4 _ ⟨k, rfl, hk, hgo, hmap, x4⟩
    unfold F11_b3
    refine br_of (fun ht => ?_) (fun hf => ?_)
    rotate_left
    · have hk' : k = l := by
        have : ¬ (k : Int) < (l : Int) := by simpa using hf
        omega
      unfold F11_k9
      refine ⟨?_, x4⟩
      rw [hgo, List.drop_of_length_le (by omega)]; rfl
    have hk' : k < l := by
      have : (k : Int) < (l : Int) := by simpa using ht
      omega
    obtain ⟨r, hr⟩ : ∃ r, m.refs[k]? = some r := ⟨m.refs[k]'(by omega), List.getElem?_eq_getElem (by omega)⟩
    obtain ⟨hr32, hr256, hrlo, hrhi⟩ := hrefs r (List.mem_of_getElem? hr)
    obtain ⟨q, rfl, _, hcell⟩ := (w.grow x4).get (i := k) (r := refC r) (by simp [rowsR, hr])
    have e1 : IntKind.i64.wrap ((k : Int) + 1) = ((k + 1 : Nat) : Int) := by rw [i64_lt _ (by omega) (by omega)]; omega
    have hrl : (refC r).length = 33 := by rw [refC_len, hr32]
    unfold F11_k4
    refine ⟨q, rfl, by omega, by omega, (refC r).toArray, by simp [hrl], by rw [Int.toNat_natCast]; exact hcell, newK_intro fun h5 hb5 x5 _ => ?_⟩
    refine storeK_whole hb5 (by simp [hrl]) zsize54 (fun u hu => refC_one r u (by simpa using hu)) fun h6 hb6 o6 => ?_
    have k56 : Keep (fun j => j = h4.size) h5 h6 := o6.keep rfl
    have x6 : Ext h4 h6 := Keep.since x5 k56 fun j hj e => by omega
    have map6 := hmap.grow x6
    have cell32 : Vc.cell h6 ((at0 h4.size).add 32) = some (.int .i64 r.2) := by
      rw [at_cell hb6, List.getElem?_toArray]; exact refC_get_last r hr32
    have five : ∀ b : Bool, (b = true ↔ (r.2 < 0 ∨ r.2 > 2147483647)) → F11_k5 (fun x h' => ∃ k : Nat, x = k ∧ k ≤ l ∧ checkM m = goC (seenK m.refs k) (m.refs.drop k) ∧ MapAt rowV (fun ds => ds.length = 32) h' h2.size (kv (seenK m.refs k)) ∧ Ext h h')
        (fun x _ => (l - x).toNat) (((l : Int) - (k : Int)).toNat) (some h2.size) (at0 h4.size) (some q) l c (l : Int) (k : Int) b h6 fun v h' => v = .int .i64 (checkM m) ∧ Ext h h' := by
      intro b hbi
      unfold F11_k5
      refine br_of (fun hbt => ⟨?_, x4.trans x6⟩) (fun hbf => ?_)
      · rw [hgo, goC_at hr, if_pos (hbi.1 hbt)]; rfl
      have hsz : ¬ (r.2 < 0 ∨ r.2 > 2147483647) := fun e => by rw [hbi.2 e] at hbf; cases hbf
      have rowc : CellsAt h6 ((at0 h4.size).add 0) (r.1.map fun n : Nat => Value.int .u8 (n : Int)) := by
        refine row_cells (r := r) fun i v hv => ?_
        rw [at_cell hb6, List.getElem?_toArray]; exact hv
      unfold F11_k6
      refine ⟨(r.1.map fun n : Nat => Value.int .u8 (n : Int)).toArray, by simp [hr32], by simpa using rowc, ?_⟩
      refine semK_lookup keyed48 Tryd.underlying56 zero3' map6 (a := r.1) hr32 ?_
      rw [look_kv]
      refine ⟨if r.1 ∈ seenK m.refs k then 1 else 0, by show (if r.1 ∈ seenK m.refs k then some (Value.int .i64 1) else none).getD (.int .i64 0) = _; split <;> rfl, br_of (fun hin => ⟨?_, x4.trans x6⟩) (fun hout => ?_)⟩
      · have hin' : r.1 ∈ seenK m.refs k := by
          refine Decidable.byContradiction fun hn => ?_
          rw [if_neg hn] at hin; cases hin
        rw [hgo, goC_at hr, if_neg hsz, if_pos hin']; rfl
      have hnot : r.1 ∉ seenK m.refs k := fun hn => by rw [if_pos hn] at hout; cases hout
      unfold F11_k7
      have lookn : (lookA (kv (seenK m.refs k)) r.1).getD (.int .i64 0) = .int .i64 0 := by rw [look_kv, if_neg hnot]; rfl
      refine ⟨fun A B => Only h2.size A B ∧ ((∃ kvs, MapAt rowV (fun ds => ds.length = 32) A h2.size kvs ∧ (lookA kvs r.1).getD (.int .i64 0) = .int .i64 0) → ∃ kvs, MapAt rowV (fun ds => ds.length = 32) B h2.size kvs ∧ (lookA kvs r.1).getD (.int .i64 0) = .int .i64 0),
        fun A => ⟨Only.refl _ A, fun e => e⟩, fun A B C p q => ⟨p.1.trans q.1, fun e => q.2 (p.2 e)⟩, (r.1.map fun n : Nat => Value.int .u8 (n : Int)).toArray, by simp [hr32], ?_, 0, ?_, ?_⟩
      · rintro W ⟨ho, _⟩
        refine load48 (by simp [hr32]) ?_
        intro i v hv
        have hne : h4.size ≠ h2.size := by have := hmap.lt; omega
        have hbW : W.heap[h4.size]? = _ := ho.blk hb6 hne
        have := rowc i v (by simpa using hv)
        rw [Addr.add_zero'] at this ⊢
        rw [add_at0] at this ⊢
        rw [cell_blk hb6] at this
        rw [cell_blk hbW]; exact this
      · rintro W ⟨_, hm⟩
        obtain ⟨kvs, m1, e⟩ := hm ⟨_, map6, lookn⟩
        have := run_lookup keyed48 Tryd.underlying56 zero3' (w := W) m1 (a := r.1) hr32 false
        rw [show lookV (.int .i64 0) false (lookA kvs r.1) = .int .i64 0 from e] at this
        exact this
      · refine semK_entry keyed48 Tryd.underlying56 zero3' map6 (a := r.1) hr32 ?_
        intro n h7 o7 map7 hst
        rw [lookn] at map7 ⊢
        refine ⟨0, n, rfl, ⟨o7, fun _ => ⟨_, map7, ?_⟩⟩, hst _ _ fun h8 map8 o8 => ⟨trivial, ?_⟩⟩
        · rw [look_upd, if_pos rfl]; rfl
        have e1' : IntKind.i64.wrap ((0 : Int) + 1) = 1 := by rw [i64_lt _ (by omega) (by omega)]; rfl
        rw [e1', upd_kv _ _ hnot] at map8
        unfold F11_k8
        rw [e1]
        refine ⟨⟨k + 1, rfl, by omega, by rw [hgo, goC_step hr hsz hnot], ?_, Keep.since (x4.trans x6) (o8.keep rfl : Keep (fun j => j = h2.size) h6 h8) fun j hj e => by omega⟩, by show ((l : Int) - ((k + 1 : Nat) : Int)).toNat < ((l : Int) - (k : Int)).toNat; omega⟩
        have e2 : seenK m.refs (k + 1) = seenK m.refs k ++ [r.1] := by unfold seenK; rw [List.take_add_one, hr]; simp
        rw [e2]; exact map8
    refine ⟨r.2, cell32, br_of (fun hneg => five true ?_) (fun hneg => ⟨r.2, cell32, five _ ?_⟩)⟩
    · have : r.2 < 0 := by simpa using hneg
      simp [this]
    · have : ¬ r.2 < 0 := by simpa using hneg
      rw [decide_eq_true_eq]; omega
  refine ⟨m.name, by rw [at_cell hb1]; rfl, HEnt.use (name_ok _ (by omega) h1) ?_⟩
  rintro _ h2 ⟨rfl, e2⟩
  subst e2
  refine ⟨_, rfl, br_of (fun hb => fin true h2 (Ext.refl _) (fun _ => .inl (by simpa using hb)) (fun e => by cases e)) (fun hb => ?_)⟩
  refine ⟨m.ver, by rw [at_cell hb1]; rfl, HEnt.use (name_ok _ (by omega) h2) ?_⟩
  rintro _ h3 ⟨rfl, e3⟩
  subst e3
  exact ⟨_, rfl, fin _ h3 (Ext.refl _) (fun e => .inr (by simpa using e)) (fun e => ⟨by simpa using hb, by simpa using e⟩)⟩
end Go.Proofs.YtpnbbgcaaogpdaaDoor
