import Derived.Test.YtpnbbgcaaogpdaaDoorManD
import Derived.Test.YtpnbbgcaaogpdaaDoorVxpE
import Derived.Test.YtpnbbgcaaogpdaaDoorVcW
import Derived.Test.YtpnbbgcaaogpdaaDoorVcV

namespace Go.Proofs.YtpnbbgcaaogpdaaDoor
open Go.Vc Go.Sha Go.Trail Go.RowKit Go.Man
set_option linter.unusedVariables false
set_option linter.unusedSimpArgs false
set_option maxRecDepth 4000
def okN (c : Nat) : Prop := (97 ≤ c ∧ c ≤ 122) ∨ (48 ≤ c ∧ c ≤ 57) ∨ c = 45 ∨ c = 46
instance (c : Nat) : Decidable (okN c) := by unfold okN; infer_instance
def allN (x : List Nat) : Bool := x.all fun c => decide (okN c)
def nameB (x : List Nat) : Bool := allN x && (decide (1 ≤ x.length) && decide (x.length ≤ 16))
theorem allN_take {x : List Nat} {k : Nat} (hk : k < x.length) : allN (x.take (k + 1)) = (allN (x.take k) && decide (okN (x.getD k 0))) := by
  rw [take_succ_getD _ _ hk]; simp [allN]
theorem allN_not {x : List Nat} {k : Nat} (hk : k < x.length) (h : ¬ okN (x.getD k 0)) : allN x = false := by
  cases e : allN x
  · rfl
  · exfalso; apply h
    unfold allN at e
    rw [List.all_eq_true] at e
    have := e (x.getD k 0) (by rw [List.getD_eq_getElem?_getD, List.getElem?_eq_getElem hk]; exact List.getElem_mem _)
    exact of_decide_eq_true this
theorem name_ok (s : ByteArray) (hs : s.size < 2 ^ 40) (h : Heap) : HEnt Tryd.prog 26 #[.string s] h fun v h' => v = .bool (nameB (lst s)) ∧ h' = h := by
  refine F26_ent _ _ _ ?_
  have ls := lst_len s
  unfold F26
  refine ⟨fun x h' => ∃ k : Nat, x = k ∧ k ≤ s.size ∧ allN ((lst s).take k) = true ∧ h' = h, fun x _ => (s.size - x).toNat, ⟨0, rfl, by omega, rfl, rfl⟩, ?_⟩
  rintro h1 _ ⟨k, rfl, hk, ha, rfl⟩
  unfold F26_b1
  refine br_of (fun ht => ?_) (fun hf => ?_)
  · have hk' : k < s.size := by
      have : (k : Int) < (s.size : Int) := by simpa using ht
      omega
    have hkl : k < (lst s).length := by omega
    have e1 : IntKind.i64.wrap ((k : Int) + 1) = ((k + 1 : Nat) : Int) := by rw [i64_lt _ (by omega) (by omega)]; omega
    have key : ∀ b : Bool, (b = true ↔ ¬ okN ((lst s).getD k 0)) → F26_k3 (fun x h' => ∃ k : Nat, x = k ∧ k ≤ s.size ∧ allN ((lst s).take k) = true ∧ h' = h1) (fun x _ => (s.size - x).toNat) (((s.size : Int) - (k : Int)).toNat) s (s.size : Int) (k : Int) b h1 fun v h' => v = .bool (nameB (lst s)) ∧ h' = h1 := by
      intro b hb
      unfold F26_k3
      refine br_of (fun hbt => ⟨?_, rfl⟩) (fun hbf => ?_)
      · have := allN_not hkl (hb.1 hbt)
        unfold nameB; rw [this]; rfl
      · unfold F26_k4
        rw [e1]
        have hd : okN ((lst s).getD k 0) := Decidable.byContradiction fun hn => by rw [hb.2 hn] at hbf; cases hbf
        exact ⟨⟨k + 1, rfl, by omega, by rw [allN_take hkl, ha, decide_eq_true hd]; rfl, rfl⟩, by show ((s.size : Int) - ((k + 1 : Nat) : Int)).toNat < ((s.size : Int) - (k : Int)).toNat; omega⟩
    unfold F26_k2
    rw [bt_lst]
    generalize (lst s).getD k 0 = c at key ⊢
    have yes : okN c → (false = true ↔ ¬ okN c) := fun h => by simp [h]
    have e46 : ∀ b : Bool, b = (!((c : Int) == 46)) → ¬ (97 ≤ c ∧ c ≤ 122) → ¬ (48 ≤ c ∧ c ≤ 57) → c ≠ 45 → (b = true ↔ ¬ okN c) := fun b hb h1 h2 h3 => by
      subst hb; unfold okN; simp; omega
    refine ⟨by omega, by omega, br_of (fun g1 => br_of (fun g2 => key _ (yes ?_)) (fun g2 => br_of (fun g3 => br_of (fun g4 => key _ (yes ?_)) (fun g4 => br_of (fun g5 => key _ (yes ?_)) (fun g5 => key _ (e46 _ rfl ?_ ?_ ?_)))) (fun g3 => br_of (fun g5 => key _ (yes ?_)) (fun g5 => key _ (e46 _ rfl ?_ ?_ ?_)))))
      (fun g1 => br_of (fun g3 => br_of (fun g4 => key _ (yes ?_)) (fun g4 => br_of (fun g5 => key _ (yes ?_)) (fun g5 => key _ (e46 _ rfl ?_ ?_ ?_)))) (fun g3 => br_of (fun g5 => key _ (yes ?_)) (fun g5 => key _ (e46 _ rfl ?_ ?_ ?_))))⟩
    all_goals first
      | (unfold okN; simp at *; omega)
      | (simp at *; omega)
  · have hk' : k = s.size := by
      have : ¬ (k : Int) < (s.size : Int) := by simpa using hf
      omega
    unfold F26_k5
    rw [List.take_of_length_le (by omega)] at ha
    refine br_of (fun g => ⟨?_, rfl⟩) (fun g => ⟨?_, rfl⟩)
    · have g' : (s.size : Int) > 0 := by simpa using g
      unfold nameB; rw [ha, ls, decide_eq_true (show 1 ≤ s.size by omega)]
      simp only [Bool.true_and]
      congr 1
      exact decide_eq_decide.2 (by omega)
    · have g' : ¬ (s.size : Int) > 0 := by simpa using g
      unfold nameB; rw [ha, ls, decide_eq_false (show ¬ 1 ≤ s.size by omega)]; rfl
theorem refName_ok (s : ByteArray) (hs : s.size < 2 ^ 40) (h : Heap) : HEnt Tryd.prog 27 #[.string s] h fun v h' => v = .bool (nameB (lst s)) ∧ h' = h := by
  refine F27_ent _ _ _ ?_
  have ls := lst_len s
  unfold F27
  rintro _ rfl
  refine ⟨fun x h' => ∃ k : Nat, x = k ∧ k ≤ s.size ∧ allN ((lst s).take k) = true ∧ h' = h, fun x _ => (s.size - x).toNat, ⟨0, rfl, by omega, rfl, rfl⟩, ?_⟩
  rintro h1 _ ⟨k, rfl, hk, ha, rfl⟩
  unfold F27_b1
  refine br_of (fun ht => ?_) (fun hf => ?_)
  · have hk' : k < s.size := by
      have : (k : Int) < (s.size : Int) := by simpa using ht
      omega
    have hkl : k < (lst s).length := by omega
    have e1 : IntKind.i64.wrap ((k : Int) + 1) = ((k + 1 : Nat) : Int) := by rw [i64_lt _ (by omega) (by omega)]; omega
    have key : ∀ b : Bool, (b = true ↔ ¬ okN ((lst s).getD k 0)) → F27_k5 (fun x h' => ∃ k : Nat, x = k ∧ k ≤ s.size ∧ allN ((lst s).take k) = true ∧ h' = h1) (fun x _ => (s.size - x).toNat) (((s.size : Int) - (k : Int)).toNat) s (k : Int) b h1 fun v h' => v = .bool (nameB (lst s)) ∧ h' = h1 := by
      intro b hb
      unfold F27_k5
      refine br_of (fun hbt => ⟨?_, rfl⟩) (fun hbf => ?_)
      · have := allN_not hkl (hb.1 hbt)
        unfold nameB; rw [this]; rfl
      · unfold F27_k6
        rintro _ rfl
        rw [e1]
        have hd : okN ((lst s).getD k 0) := Decidable.byContradiction fun hn => by rw [hb.2 hn] at hbf; cases hbf
        exact ⟨⟨k + 1, rfl, by omega, by rw [allN_take hkl, ha, decide_eq_true hd]; rfl, rfl⟩, by show ((s.size : Int) - ((k + 1 : Nat) : Int)).toNat < ((s.size : Int) - (k : Int)).toNat; omega⟩
    unfold F27_k2
    rw [bt_lst]
    have k4 : ∀ b4 b5 : Bool, (b4 = true ↔ 97 ≤ (lst s).getD k 0 ∧ (lst s).getD k 0 ≤ 122) → (b5 = true ↔ 48 ≤ (lst s).getD k 0 ∧ (lst s).getD k 0 ≤ 57) → F27_k4 (fun x h' => ∃ k : Nat, x = k ∧ k ≤ s.size ∧ allN ((lst s).take k) = true ∧ h' = h1) (fun x _ => (s.size - x).toNat) (((s.size : Int) - (k : Int)).toNat) s (k : Int) b4 b5 h1 fun v h' => v = .bool (nameB (lst s)) ∧ h' = h1 := by
      intro b4 b5 h4 h5
      unfold F27_k4
      rw [bt_lst]
      generalize (lst s).getD k 0 = c at key h4 h5 ⊢
      have yes : okN c → (false = true ↔ ¬ okN c) := fun h => by simp [h]
      refine br_of (fun g4 => br_of (fun g5 => ⟨by omega, by omega, br_of (fun g6 => ⟨by omega, by omega, key _ ?_⟩) (fun g6 => key _ (yes ?_))⟩) (fun g5 => key _ (yes ?_))) (fun g4 => key _ (yes ?_))
      · have q4 : ¬ (97 ≤ c ∧ c ≤ 122) := fun e => by rw [h4.2 e] at g4; cases g4
        have q5 : ¬ (48 ≤ c ∧ c ≤ 57) := fun e => by rw [h5.2 e] at g5; cases g5
        have q6 : ¬ (c : Int) = 45 := by simpa using g6
        unfold okN; simp; omega
      · have q6 : (c : Int) = 45 := by simpa using g6
        unfold okN; omega
      · have := h5.1 (by simpa using g5); unfold okN; omega
      · have := h4.1 (by simpa using g4); unfold okN; omega
    have k3 : ∀ b4 : Bool, (b4 = true ↔ 97 ≤ (lst s).getD k 0 ∧ (lst s).getD k 0 ≤ 122) → F27_k3 (fun x h' => ∃ k : Nat, x = k ∧ k ≤ s.size ∧ allN ((lst s).take k) = true ∧ h' = h1) (fun x _ => (s.size - x).toNat) (((s.size : Int) - (k : Int)).toNat) s (k : Int) b4 h1 fun v h' => v = .bool (nameB (lst s)) ∧ h' = h1 := by
      intro b4 h4
      unfold F27_k3
      rw [bt_lst]
      refine ⟨by omega, by omega, br_of (fun g => ⟨by omega, by omega, k4 _ _ h4 ?_⟩) (fun g => k4 _ _ h4 ?_)⟩
      · have : (((lst s).getD k 0 : Nat) : Int) ≥ 48 := by simpa using g
        rw [decide_eq_true_eq]; omega
      · have : ¬ (((lst s).getD k 0 : Nat) : Int) ≥ 48 := by simpa using g
        constructor
        · intro e; cases e
        · intro e; omega
    refine ⟨by omega, by omega, br_of (fun g => ⟨by omega, by omega, k3 _ ?_⟩) (fun g => k3 _ ?_)⟩
    · have : (((lst s).getD k 0 : Nat) : Int) ≥ 97 := by simpa using g
      rw [decide_eq_true_eq]; omega
    · have : ¬ (((lst s).getD k 0 : Nat) : Int) ≥ 97 := by simpa using g
      constructor
      · intro e; cases e
      · intro e; omega
  · have hk' : k = s.size := by
      have : ¬ (k : Int) < (s.size : Int) := by simpa using hf
      omega
    unfold F27_k7
    rw [List.take_of_length_le (by omega)] at ha
    refine br_of (fun g => ⟨?_, rfl⟩) (fun g => ⟨?_, rfl⟩)
    · have g' : (s.size : Int) ≥ 1 := by simpa using g
      unfold nameB; rw [ha, ls, decide_eq_true (show 1 ≤ s.size by omega)]
      simp only [Bool.true_and]
      congr 1
      exact decide_eq_decide.2 (by omega)
    · have g' : ¬ (s.size : Int) ≥ 1 := by simpa using g
      unfold nameB; rw [ha, ls, decide_eq_false (show ¬ 1 ≤ s.size by omega)]; rfl
end Go.Proofs.YtpnbbgcaaogpdaaDoor

namespace Go.Proofs.YtpnbbgcaaogpdaaDoor
open Go.Vc Go.Sha Go.Trail Go.RowKit Go.Man
set_option linter.unusedVariables false
set_option linter.unusedSimpArgs false
set_option maxRecDepth 8000
abbrev RefV := List Nat × Int
structure ManV where
  name : ByteArray
  ver : ByteArray
  refs : List RefV
def rowsR (rs : List RefV) : List (List Value) := rs.map refC
theorem rowsR_len (rs : List RefV) : (rowsR rs).length = rs.length := by simp [rowsR]
def Big (m : ManV) : Prop := m.name.size < 2 ^ 30 ∧ m.ver.size < 2 ^ 30 ∧ ∀ r ∈ m.refs, r.1.length = 32 ∧ (∀ x ∈ r.1, x < 256) ∧ -9223372036854775808 ≤ r.2 ∧ r.2 < 9223372036854775808
def goC : List (List Nat) → List RefV → Nat
  | _, [] => 0
  | seen, r :: rs => if r.2 < 0 ∨ r.2 > 2147483647 then 2 else if r.1 ∈ seen then 8 else goC (seen ++ [r.1]) rs
def checkM (m : ManV) : Nat := if nameB (lst m.name) = false ∨ nameB (lst m.ver) = false then 2 else if m.refs.length = 0 then 9 else if m.refs.length > 8 then 3 else goC [] m.refs
def manA (m : ManV) (a : Option Addr) (l c : Nat) : Array Value := #[.string m.name, .string m.ver, .slice a l c]
theorem cells48 : Tryd.prog.cellsOf 48 = 32 := by kernel_rfl
theorem cells54 : Tryd.prog.cellsOf 54 = 33 := by kernel_rfl
theorem cells5' : Tryd.prog.cellsOf 5 = 1 := by kernel_rfl
theorem zeroR54 : (((Tryd.prog.info? 54).bind (·.zero)).getD undef).cells.size = 33 := by kernel_rfl
theorem bytes54 : Tryd.prog.bytesOf 54 = 40 := by kernel_rfl
theorem zsize54 : (zeroC Tryd.prog 54).size = 33 := by kernel_rfl
theorem zsize24 : (zeroC Tryd.prog 24).size = 3 := by kernel_rfl
theorem eqg54 : Tryd.prog.eqGuardType Tryd.prog.depth 54 = false := by kernel_rfl
theorem eqg48 : Tryd.prog.eqGuardType Tryd.prog.depth 48 = false := by kernel_rfl
theorem held54 : Tryd.prog.stoodInHeld 54 = false := by kernel_rfl
theorem keyed48 : Keyed Tryd.prog 48 rowV (fun ds => ds.length = 32) := rows_keyed Tryd.underlying48 Tryd.underlying5 cells5'
theorem at_cell {h : Heap} {b i : Nat} {cs : Array Value} {t : TypeId} {fr : Nat × Nat} (hb : h[b]? = some (.cells cs t fr)) : Vc.cell h ((at0 b).add i) = cs[i]? := by rw [add_at0, cell_blk hb]

theorem sh48 : Vc.sh Tryd.prog 48 = .agg 32 := by kernel_rfl
theorem sh54 : Vc.sh Tryd.prog 54 = .agg 33 := by kernel_rfl
theorem load48 {w : World} {ad : Addr} {cs : Array Value} (hs : cs.size = 32) (hc : CellsAt w.heap ad cs.toList) : (loadVar 48 ad).run Tryd.prog w = .ok (.agg cs) w := by
  have H : ldK Tryd.prog 48 w.heap ad (fun u => u = some (.agg cs)) := by
    unfold ldK
    rw [Tryd.underlying48, sh48]
    exact ⟨cs, by rw [hs, cells48], hc, rfl⟩
  obtain ⟨v, hv, hl⟩ := run_ld H
  obtain rfl := Option.some.inj hv
  exact hl w (Ext.refl _)
theorem zero3' : (Tryd.prog.info? 3).bind (·.zero) = some (.int .i64 0) := by kernel_rfl
def kv (seen : List (List Nat)) : List (List Nat × Value) := seen.map fun d => (d, .int .i64 1)
theorem look_kv (seen : List (List Nat)) (d : List Nat) : lookA (kv seen) d = if d ∈ seen then some (.int .i64 1) else none := by
  induction seen with
  | nil => rfl
  | cons a r ih =>
    unfold kv at ih ⊢
    simp only [List.map_cons, lookA, List.mem_cons]
    by_cases h : a = d
    · subst h; simp
    · have h' : ¬ d = a := fun e => h e.symm
      rw [if_neg h', ih]
      by_cases h2 : d ∈ r
      · simp [h2]
      · simp [h2, h']
theorem upd_kv (seen : List (List Nat)) (d : List Nat) (h : d ∉ seen) : updA (kv seen) d (.int .i64 1) = kv (seen ++ [d]) := by
  induction seen with
  | nil => rfl
  | cons a r ih =>
    simp only [List.mem_cons, not_or] at h
    have ih := ih h.2
    unfold kv at ih ⊢
    simp only [List.map_cons, updA, List.cons_append]
    rw [if_neg h.1, ih]
def seenK (rs : List RefV) (k : Nat) : List (List Nat) := (rs.take k).map Prod.fst
theorem goC_step {rs : List RefV} {k : Nat} {r : RefV} (hr : rs[k]? = some r) (h1 : ¬ (r.2 < 0 ∨ r.2 > 2147483647)) (h2 : r.1 ∉ seenK rs k) : goC (seenK rs k) (rs.drop k) = goC (seenK rs (k + 1)) (rs.drop (k + 1)) := by
  have hlt := (List.getElem?_eq_some_iff.1 hr).1
  have e : rs.drop k = r :: rs.drop (k + 1) := by
    rw [List.drop_eq_getElem_cons hlt]; congr 1
    exact (List.getElem?_eq_some_iff.1 hr).2
  have e2 : seenK rs (k + 1) = seenK rs k ++ [r.1] := by unfold seenK; rw [List.take_add_one, hr]; simp
  rw [e, goC, if_neg h1, if_neg h2, e2]
theorem goC_at {rs : List RefV} {k : Nat} {r : RefV} (hr : rs[k]? = some r) : goC (seenK rs k) (rs.drop k) = if r.2 < 0 ∨ r.2 > 2147483647 then 2 else if r.1 ∈ seenK rs k then 8 else goC (seenK rs k ++ [r.1]) (rs.drop (k + 1)) := by
  have hlt := (List.getElem?_eq_some_iff.1 hr).1
  have e : rs.drop k = r :: rs.drop (k + 1) := by
    rw [List.drop_eq_getElem_cons hlt]; congr 1
    exact (List.getElem?_eq_some_iff.1 hr).2
  rw [e, goC]
theorem refC_get_last (r : RefV) (h : r.1.length = 32) : (refC r)[32]? = some (.int .i64 r.2) := by
  unfold refC; rw [← h]; simp
theorem row_cells {h : Heap} {ad : Addr} {r : RefV} (hc : CellsAt h ad (refC r)) : CellsAt h (ad.add 0) (r.1.map fun n : Nat => Value.int .u8 (n : Int)) := by
  intro i v hv
  have : (refC r)[i]? = some v := by
    unfold refC
    rw [List.getElem?_append_left (List.getElem?_eq_some_iff.1 hv).1]; exact hv
  have := hc i v this
  rw [Addr.add_zero']; exact this
theorem check_ok (m : ManV) (a : Option Addr) (l c : Nat) (h : Heap) (w : Tab 33 h a l c (rowsR m.refs)) (hb : Big m) (hl : l < 2 ^ 40) :
    HEnt Tryd.prog 11 #[.agg (manA m a l c)] h fun v h' => v = .int .i64 (checkM m) ∧ Ext h h' := by
  obtain ⟨hn1, hn2, hrefs⟩ := hb
  have hlen : m.refs.length = l := by have := w.len; rwa [rowsR_len] at this
  refine F11_ent _ _ _ _ _ _ _ ?_
  unfold F11
  refine newK_intro fun h1 hb1 x1 _ => ?_
  have fin : ∀ (b6 : Bool) h2, Ext h1 h2 → (b6 = true → nameB (lst m.name) = false ∨ nameB (lst m.ver) = false) → (b6 = false → nameB (lst m.name) = true ∧ nameB (lst m.ver) = true) → F11_k1 (at0 h.size) b6 h2 fun v h' => v = .int .i64 (checkM m) ∧ Ext h h' := by
    intro b6 h2 x2 hbad hgood
    have hb2 := x2.blk hb1
    unfold F11_k1
    refine br_of (fun hb => ⟨by unfold checkM; rw [if_pos (hbad hb)]; rfl, x1.trans x2⟩) (fun hb => ?_)
    have hg := hgood hb
    have hn : ¬ (nameB (lst m.name) = false ∨ nameB (lst m.ver) = false) := by rw [hg.1, hg.2]; simp
    refine ⟨a, l, c, by rw [at_cell hb2]; rfl, br_of (fun h0 => ⟨?_, x1.trans x2⟩) (fun h0 => ⟨a, l, c, by rw [at_cell hb2]; rfl, br_of (fun h8 => ⟨?_, x1.trans x2⟩) (fun h8 => ?_)⟩)⟩
    · have h0' : (l : Int) = 0 := by simpa using h0
      unfold checkM; rw [if_neg hn, if_pos (by omega)]; rfl
    · have h0' : ¬ (l : Int) = 0 := by simpa using h0
      have h8' : (l : Int) > 8 := by simpa using h8
      unfold checkM; rw [if_neg hn, if_neg (by omega), if_pos (by omega)]; rfl
    have h0' : ¬ (l : Int) = 0 := by simpa using h0
    have h8' : ¬ (l : Int) > 8 := by simpa using h8
    have hM : checkM m = goC [] m.refs := by unfold checkM; rw [if_neg hn, if_neg (by omega), if_neg (by omega)]
    unfold F11_k2
    refine newK_intro fun h3 hb3 x3 _ => ⟨a, l, c, by rw [at_cell (x3.blk hb2)]; rfl, ?_⟩
    have z1 := x1.size
    have z2 := x2.size
    refine ⟨fun x h' => ∃ k : Nat, x = k ∧ k ≤ l ∧ checkM m = goC (seenK m.refs k) (m.refs.drop k) ∧ MapAt rowV (fun ds => ds.length = 32) h' h2.size (kv (seenK m.refs k)) ∧ Ext h h',
      fun x _ => (l - x).toNat, ⟨0, rfl, by omega, by rw [hM]; rfl, MapAt.new hb3, (x1.trans x2).trans x3⟩, ?_⟩
    rintro h4 _ ⟨k, rfl, hk, hgo, hmap, x4⟩
    unfold F11_b3
    refine br_of (fun ht => ?_) (fun hf => ?_)
    rotate_left
    · have hk' : k = l := by
        have : ¬ (k : Int) < (l : Int) := by simpa using hf
        omega
      unfold F11_k9
      refine ⟨?_, x4⟩
      rw [hgo, List.drop_of_length_le (by omega)]; rfl
    have hk' : k < l := by
      have : (k : Int) < (l : Int) := by simpa using ht
      omega
    obtain ⟨r, hr⟩ : ∃ r, m.refs[k]? = some r := ⟨m.refs[k]'(by omega), List.getElem?_eq_getElem (by omega)⟩
    obtain ⟨hr32, hr256, hrlo, hrhi⟩ := hrefs r (List.mem_of_getElem? hr)
    obtain ⟨q, rfl, _, hcell⟩ := (w.grow x4).get (i := k) (r := refC r) (by simp [rowsR, hr])
    have e1 : IntKind.i64.wrap ((k : Int) + 1) = ((k + 1 : Nat) : Int) := by rw [i64_lt _ (by omega) (by omega)]; omega
    have hrl : (refC r).length = 33 := by rw [refC_len, hr32]
    unfold F11_k4
    refine ⟨q, rfl, by omega, by omega, (refC r).toArray, by simp [hrl], by rw [Int.toNat_natCast]; exact hcell, newK_intro fun h5 hb5 x5 _ => ?_⟩
    refine storeK_whole hb5 (by simp [hrl]) zsize54 (fun u hu => refC_one r u (by simpa using hu)) fun h6 hb6 o6 => ?_
    have k56 : Keep (fun j => j = h4.size) h5 h6 := o6.keep rfl
    have x6 : Ext h4 h6 := Keep.since x5 k56 fun j hj e => by omega
    have map6 := hmap.grow x6
    have cell32 : Vc.cell h6 ((at0 h4.size).add 32) = some (.int .i64 r.2) := by
      rw [at_cell hb6, List.getElem?_toArray]; exact refC_get_last r hr32
    have five : ∀ b : Bool, (b = true ↔ (r.2 < 0 ∨ r.2 > 2147483647)) → F11_k5 (fun x h' => ∃ k : Nat, x = k ∧ k ≤ l ∧ checkM m = goC (seenK m.refs k) (m.refs.drop k) ∧ MapAt rowV (fun ds => ds.length = 32) h' h2.size (kv (seenK m.refs k)) ∧ Ext h h')
        (fun x _ => (l - x).toNat) (((l : Int) - (k : Int)).toNat) (some h2.size) (at0 h4.size) (some q) l c (l : Int) (k : Int) b h6 fun v h' => v = .int .i64 (checkM m) ∧ Ext h h' := by
      intro b hbi
      unfold F11_k5
      refine br_of (fun hbt => ⟨?_, x4.trans x6⟩) (fun hbf => ?_)
      · rw [hgo, goC_at hr, if_pos (hbi.1 hbt)]; rfl
      have hsz : ¬ (r.2 < 0 ∨ r.2 > 2147483647) := fun e => by rw [hbi.2 e] at hbf; cases hbf
      have rowc : CellsAt h6 ((at0 h4.size).add 0) (r.1.map fun n : Nat => Value.int .u8 (n : Int)) := by
        refine row_cells (r := r) fun i v hv => ?_
        rw [at_cell hb6, List.getElem?_toArray]; exact hv
      unfold F11_k6
      refine ⟨(r.1.map fun n : Nat => Value.int .u8 (n : Int)).toArray, by simp [hr32], by simpa using rowc, ?_⟩
      refine semK_lookup keyed48 Tryd.underlying56 zero3' map6 (a := r.1) hr32 ?_
      rw [look_kv]
      refine ⟨if r.1 ∈ seenK m.refs k then 1 else 0, by show (if r.1 ∈ seenK m.refs k then some (Value.int .i64 1) else none).getD (.int .i64 0) = _; split <;> rfl, br_of (fun hin => ⟨?_, x4.trans x6⟩) (fun hout => ?_)⟩
      · have hin' : r.1 ∈ seenK m.refs k := by
          refine Decidable.byContradiction fun hn => ?_
          rw [if_neg hn] at hin; cases hin
        rw [hgo, goC_at hr, if_neg hsz, if_pos hin']; rfl
      have hnot : r.1 ∉ seenK m.refs k := fun hn => by rw [if_pos hn] at hout; cases hout
      unfold F11_k7
      have lookn : (lookA (kv (seenK m.refs k)) r.1).getD (.int .i64 0) = .int .i64 0 := by rw [look_kv, if_neg hnot]; rfl
      refine ⟨fun A B => Only h2.size A B ∧ ((∃ kvs, MapAt rowV (fun ds => ds.length = 32) A h2.size kvs ∧ (lookA kvs r.1).getD (.int .i64 0) = .int .i64 0) → ∃ kvs, MapAt rowV (fun ds => ds.length = 32) B h2.size kvs ∧ (lookA kvs r.1).getD (.int .i64 0) = .int .i64 0),
        fun A => ⟨Only.refl _ A, fun e => e⟩, fun A B C p q => ⟨p.1.trans q.1, fun e => q.2 (p.2 e)⟩, (r.1.map fun n : Nat => Value.int .u8 (n : Int)).toArray, by simp [hr32], ?_, 0, ?_, ?_⟩
      · rintro W ⟨ho, _⟩
        refine load48 (by simp [hr32]) ?_
        intro i v hv
        have hne : h4.size ≠ h2.size := by have := hmap.lt; omega
        have hbW : W.heap[h4.size]? = _ := ho.blk hb6 hne
        have := rowc i v (by simpa using hv)
        rw [Addr.add_zero'] at this ⊢
        rw [add_at0] at this ⊢
        rw [cell_blk hb6] at this
        rw [cell_blk hbW]; exact this
      · rintro W ⟨_, hm⟩
        obtain ⟨kvs, m1, e⟩ := hm ⟨_, map6, lookn⟩
        have := run_lookup keyed48 Tryd.underlying56 zero3' (w := W) m1 (a := r.1) hr32 false
        rw [show lookV (.int .i64 0) false (lookA kvs r.1) = .int .i64 0 from e] at this
        exact this
      · refine semK_entry keyed48 Tryd.underlying56 zero3' map6 (a := r.1) hr32 ?_
        intro n h7 o7 map7 hst
        rw [lookn] at map7 ⊢
        refine ⟨0, n, rfl, ⟨o7, fun _ => ⟨_, map7, ?_⟩⟩, hst _ _ fun h8 map8 o8 => ⟨trivial, ?_⟩⟩
        · rw [look_upd, if_pos rfl]; rfl
        have e1' : IntKind.i64.wrap ((0 : Int) + 1) = 1 := by rw [i64_lt _ (by omega) (by omega)]; rfl
        rw [e1', upd_kv _ _ hnot] at map8
        unfold F11_k8
        rw [e1]
        refine ⟨⟨k + 1, rfl, by omega, by rw [hgo, goC_step hr hsz hnot], ?_, Keep.since (x4.trans x6) (o8.keep rfl : Keep (fun j => j = h2.size) h6 h8) fun j hj e => by omega⟩, by show ((l : Int) - ((k + 1 : Nat) : Int)).toNat < ((l : Int) - (k : Int)).toNat; omega⟩
        have e2 : seenK m.refs (k + 1) = seenK m.refs k ++ [r.1] := by unfold seenK; rw [List.take_add_one, hr]; simp
        rw [e2]; exact map8
    refine ⟨r.2, cell32, br_of (fun hneg => five true ?_) (fun hneg => ⟨r.2, cell32, five _ ?_⟩)⟩
    · have : r.2 < 0 := by simpa using hneg
      simp [this]
    · have : ¬ r.2 < 0 := by simpa using hneg
      rw [decide_eq_true_eq]; omega
  refine ⟨m.name, by rw [at_cell hb1]; rfl, HEnt.use (name_ok _ (by omega) h1) ?_⟩
  rintro _ h2 ⟨rfl, e2⟩
  subst e2
  refine ⟨_, rfl, br_of (fun hb => fin true h2 (Ext.refl _) (fun _ => .inl (by simpa using hb)) (fun e => by cases e)) (fun hb => ?_)⟩
  refine ⟨m.ver, by rw [at_cell hb1]; rfl, HEnt.use (name_ok _ (by omega) h2) ?_⟩
  rintro _ h3 ⟨rfl, e3⟩
  subst e3
  exact ⟨_, rfl, fin _ h3 (Ext.refl _) (fun e => .inr (by simpa using e)) (fun e => ⟨by simpa using hb, by simpa using e⟩)⟩
end Go.Proofs.YtpnbbgcaaogpdaaDoor

namespace Go.Proofs.YtpnbbgcaaogpdaaDoor
open Go.Vc Go.Sha Go.Trail Go.RowKit Go.Man
set_option linter.unusedVariables false
set_option linter.unusedSimpArgs false
set_option maxRecDepth 8000
theorem at_cell2 {h : Heap} {ad : Addr} {i j : Nat} {v : Value} (hc : Vc.cell h ((ad.add i).add j) = some v) : Vc.cell h ((ad.add i).add j) = some v := hc
theorem row_eq (x y : List Nat) (hx : x.length = 32) (hy : y.length = 32) (w : World) : (Op.equal 48 (.agg (x.map fun n : Nat => Value.int .u8 (n : Int)).toArray) (.agg (y.map fun n : Nat => Value.int .u8 (n : Int)).toArray)).run Tryd.prog w = .ok (decide (x = y)) w :=
  keyed48.eq x y hx hy w
theorem refCheck_ok (m : ManV) (a : Option Addr) (l c : Nat) (h : Heap) (w : Tab 33 h a l c (rowsR m.refs)) (hb : Big m) (hl : l < 2 ^ 40) :
    HEnt Tryd.prog 12 #[.agg (manA m a l c)] h fun v h' => v = .int .i64 (checkM m) ∧ Ext h h' := by
  obtain ⟨hn1, hn2, hrefs⟩ := hb
  have hlen : m.refs.length = l := by have := w.len; rwa [rowsR_len] at this
  refine F12_ent _ _ _ _ _ _ _ ?_
  unfold F12
  refine newK_intro fun h1 hb1 x1 _ => ?_
  have sl : Vc.cell h1 ((at0 h.size).add 2) = some (.slice a l c) := by rw [at_cell hb1]; rfl
  have fin : ∀ (b6 : Bool), (b6 = true → nameB (lst m.name) = false ∨ nameB (lst m.ver) = false) → (b6 = false → nameB (lst m.name) = true ∧ nameB (lst m.ver) = true) → F12_k1 (at0 h.size) b6 h1 fun v h' => v = .int .i64 (checkM m) ∧ Ext h h' := by
    intro b6 hbad hgood
    unfold F12_k1
    refine br_of (fun hb => ⟨by unfold checkM; rw [if_pos (hbad hb)]; rfl, x1⟩) (fun hb => ?_)
    have hg := hgood hb
    have hn : ¬ (nameB (lst m.name) = false ∨ nameB (lst m.ver) = false) := by rw [hg.1, hg.2]; simp
    unfold F12_k2
    refine ⟨a, l, c, sl, br_of (fun h0 => ⟨?_, x1⟩) (fun h0 => ?_)⟩
    · have h0' : (l : Int) = 0 := by simpa using h0
      unfold checkM; rw [if_neg hn, if_pos (by omega)]; rfl
    have h0' : ¬ (l : Int) = 0 := by simpa using h0
    unfold F12_k3
    refine ⟨a, l, c, sl, br_of (fun h8 => ⟨?_, x1⟩) (fun h8 => ?_)⟩
    · have h8' : (l : Int) > 8 := by simpa using h8
      unfold checkM; rw [if_neg hn, if_neg (by omega), if_pos (by omega)]; rfl
    have h8' : ¬ (l : Int) > 8 := by simpa using h8
    have hM : checkM m = goC [] m.refs := by unfold checkM; rw [if_neg hn, if_neg (by omega), if_neg (by omega)]
    unfold F12_k4
    rintro _ rfl
    refine ⟨fun x h' => ∃ k : Nat, x = k ∧ k ≤ l ∧ checkM m = goC (seenK m.refs k) (m.refs.drop k) ∧ h' = h1, fun x _ => (l - x).toNat, ⟨0, rfl, by omega, by rw [hM]; rfl, rfl⟩, ?_⟩
    rintro h4 _ ⟨k, rfl, hk, hgo, rfl⟩
    unfold F12_b5
    refine ⟨a, l, c, sl, br_of (fun ht => ?_) (fun hf => ?_)⟩
    rotate_left
    · have hk' : k = l := by
        have : ¬ (k : Int) < (l : Int) := by simpa using hf
        omega
      unfold F12_k13
      refine ⟨?_, x1⟩
      rw [hgo, List.drop_of_length_le (by omega)]; rfl
    have hk' : k < l := by
      have : (k : Int) < (l : Int) := by simpa using ht
      omega
    obtain ⟨r, hr⟩ : ∃ r, m.refs[k]? = some r := ⟨m.refs[k]'(by omega), List.getElem?_eq_getElem (by omega)⟩
    obtain ⟨hr32, hr256, hrlo, hrhi⟩ := hrefs r (List.mem_of_getElem? hr)
    obtain ⟨q, rfl, _, hcell⟩ := (w.grow x1).get (i := k) (r := refC r) (by simp [rowsR, hr])
    have e1 : IntKind.i64.wrap ((k : Int) + 1) = ((k + 1 : Nat) : Int) := by rw [i64_lt _ (by omega) (by omega)]; omega
    have c32 := hcell 32 _ (refC_get_last r hr32)
    have five : ∀ b : Bool, (b = true ↔ (r.2 < 0 ∨ r.2 > 2147483647)) → F12_k7 (fun x h' => ∃ k : Nat, x = k ∧ k ≤ l ∧ checkM m = goC (seenK m.refs k) (m.refs.drop k) ∧ h' = h4) (fun x _ => (l - x).toNat) (((l : Int) - (k : Int)).toNat) (at0 h.size) (k : Int) b h4 fun v h' => v = .int .i64 (checkM m) ∧ Ext h h' := by
      intro b hbi
      unfold F12_k7
      refine br_of (fun hbt => ⟨?_, x1⟩) (fun hbf => ?_)
      · rw [hgo, goC_at hr, if_pos (hbi.1 hbt)]; rfl
      have hsz : ¬ (r.2 < 0 ∨ r.2 > 2147483647) := fun e => by rw [hbi.2 e] at hbf; cases hbf
      unfold F12_k8
      rintro _ rfl
      refine ⟨fun x h' => ∃ j : Nat, x = j ∧ j ≤ k ∧ (∀ i s, i < j → m.refs[i]? = some s → s.1 ≠ r.1) ∧ h' = h4, fun x _ => (k - x).toNat, ⟨0, rfl, by omega, fun i s hi => by omega, rfl⟩, ?_⟩
      rintro h5 _ ⟨j, rfl, hj, hne, rfl⟩
      unfold F12_b9
      refine br_of (fun ht2 => ?_) (fun hf2 => ?_)
      · have hj' : j < k := by
          have : (j : Int) < (k : Int) := by simpa using ht2
          omega
        obtain ⟨s, hs⟩ : ∃ s, m.refs[j]? = some s := ⟨m.refs[j]'(by omega), List.getElem?_eq_getElem (by omega)⟩
        obtain ⟨hs32, _⟩ := hrefs s (List.mem_of_getElem? hs)
        obtain ⟨q', e', _, hcell'⟩ := (w.grow x1).get (i := j) (r := refC s) (by simp [rowsR, hs])
        cases e'
        have e1j : IntKind.i64.wrap ((j : Int) + 1) = ((j + 1 : Nat) : Int) := by rw [i64_lt _ (by omega) (by omega)]; omega
        unfold F12_k10
        refine ⟨_, l, c, sl, q, rfl, by omega, by omega, (s.1.map fun n : Nat => Value.int .u8 (n : Int)).toArray, by simp [hs32], by rw [Int.toNat_natCast]; simpa using row_cells (r := s) hcell', _, l, c, sl, q, rfl, by omega, by omega,
          (r.1.map fun n : Nat => Value.int .u8 (n : Int)).toArray, by simp [hr32], by rw [Int.toNat_natCast]; simpa using row_cells (r := r) hcell, decide (s.1 = r.1), fun w => row_eq _ _ hs32 hr32 w, eqg48, ?_⟩
        intro h6 hcl; obtain rfl := hcl.eq
        refine br_of (fun heq => ⟨?_, x1⟩) (fun hneq => ?_)
        · have heq' : s.1 = r.1 := by simpa using heq
          have hin : r.1 ∈ seenK m.refs k := by
            unfold seenK
            rw [← heq']
            refine List.mem_map.2 ⟨s, ?_, rfl⟩
            refine List.mem_of_getElem? (i := j) ?_
            rw [List.getElem?_take_of_lt hj']; exact hs
          rw [hgo, goC_at hr, if_neg hsz, if_pos hin]; rfl
        · have hneq' : s.1 ≠ r.1 := by simpa using hneq
          unfold F12_k11
          rintro _ rfl
          rw [e1j]
          refine ⟨⟨j + 1, rfl, by omega, fun i s' hi hs' => ?_, rfl⟩, by show ((k : Int) - ((j + 1 : Nat) : Int)).toNat < ((k : Int) - (j : Int)).toNat; omega⟩
          by_cases hij : i = j
          · subst hij; rw [hs] at hs'; cases hs'; exact hneq'
          · exact hne i s' (by omega) hs'
      · have hj' : j = k := by
          have : ¬ (j : Int) < (k : Int) := by simpa using hf2
          omega
        subst hj'
        have hnot : r.1 ∉ seenK m.refs j := fun hn => by
          unfold seenK at hn
          obtain ⟨s, hs, e⟩ := List.mem_map.1 hn
          obtain ⟨i, hi⟩ := List.getElem?_of_mem hs
          have hil : i < j := by
            have := (List.getElem?_eq_some_iff.1 hi).1
            rw [List.length_take] at this; omega
          rw [List.getElem?_take_of_lt hil] at hi
          exact hne i s hil hi e
        unfold F12_k12
        rintro _ rfl
        rw [e1]
        exact ⟨⟨j + 1, rfl, by omega, by rw [hgo, goC_step hr hsz hnot], rfl⟩, by show ((l : Int) - ((j + 1 : Nat) : Int)).toNat < ((l : Int) - (j : Int)).toNat; omega⟩
    unfold F12_k6
    refine ⟨_, l, c, sl, q, rfl, by omega, by omega, r.2, by rw [Int.toNat_natCast]; exact c32, br_of (fun hneg => five true ?_) (fun hneg => ⟨_, l, c, sl, q, rfl, by omega, by omega, r.2, by rw [Int.toNat_natCast]; exact c32, five _ ?_⟩)⟩
    · have : r.2 < 0 := by simpa using hneg
      simp [this]
    · have : ¬ r.2 < 0 := by simpa using hneg
      rw [decide_eq_true_eq]; omega
  refine ⟨m.name, by rw [at_cell hb1]; rfl, HEnt.use (refName_ok _ (by omega) h1) ?_⟩
  rintro _ h2 ⟨rfl, e2⟩
  subst e2
  refine ⟨_, rfl, br_of (fun hb => fin true (fun _ => .inl (by simpa using hb)) (fun e => by cases e)) (fun hb => ?_)⟩
  refine ⟨m.ver, by rw [at_cell hb1]; rfl, HEnt.use (refName_ok _ (by omega) h2) ?_⟩
  rintro _ h3 ⟨rfl, e3⟩
  subst e3
  exact ⟨_, rfl, fin _ (fun e => .inr (by simpa using e)) (fun e => ⟨by simpa using hb, by simpa using e⟩)⟩
/-! ### sizes -/
def sumR (rs : List RefV) : Int := (rs.map Prod.snd).sum
def sizeM (m : ManV) : Int := if checkM m = 0 then sumR m.refs else 0
theorem goC_zero : ∀ (rs : List RefV) (seen : List (List Nat)), goC seen rs = 0 → (∀ r ∈ rs, 0 ≤ r.2 ∧ r.2 ≤ 2147483647) ∧ (rs.map Prod.fst).Nodup ∧ ∀ r ∈ rs, r.1 ∉ seen
  | [], seen, _ => by simp
  | r :: rs, seen, h => by
    unfold goC at h
    split at h
    · cases h
    · split at h
      · cases h
      · rename_i h1 h2
        obtain ⟨g1, g2, g3⟩ := goC_zero rs _ h
        refine ⟨fun x hx => ?_, ?_, fun x hx => ?_⟩
        · rcases List.mem_cons.1 hx with rfl | hx
          · omega
          · exact g1 x hx
        · rw [List.map_cons, List.nodup_cons]
          refine ⟨fun hm => ?_, g2⟩
          obtain ⟨x, hx, e⟩ := List.mem_map.1 hm
          have := g3 x hx
          apply this; rw [e]; simp
        · rcases List.mem_cons.1 hx with rfl | hx
          · exact h2
          · exact fun hs => g3 x hx (List.mem_append_left _ hs)
theorem check_zero {m : ManV} (h : checkM m = 0) : nameB (lst m.name) = true ∧ nameB (lst m.ver) = true ∧ 0 < m.refs.length ∧ m.refs.length ≤ 8 ∧ (∀ r ∈ m.refs, 0 ≤ r.2 ∧ r.2 ≤ 2147483647) ∧ (m.refs.map Prod.fst).Nodup := by
  unfold checkM at h
  split at h
  · cases h
  · rename_i hn
    split at h
    · cases h
    · split at h
      · cases h
      · obtain ⟨g1, g2, _⟩ := goC_zero _ _ h
        simp only [not_or, Bool.not_eq_false] at hn
        exact ⟨hn.1, hn.2, by omega, by omega, g1, g2⟩
theorem sumR_take {rs : List RefV} {k : Nat} {r : RefV} (h : rs[k]? = some r) : sumR (rs.take (k + 1)) = sumR (rs.take k) + r.2 := by
  unfold sumR; rw [List.take_add_one, h]; simp
theorem sumR_bound : ∀ (rs : List RefV), (∀ r ∈ rs, 0 ≤ r.2 ∧ r.2 ≤ 2147483647) → 0 ≤ sumR rs ∧ sumR rs ≤ rs.length * 2147483647
  | [], _ => by simp [sumR]
  | r :: rs, h => by
    have h1 := h r (List.mem_cons_self ..)
    obtain ⟨h2, h3⟩ := sumR_bound rs fun x hx => h x (List.mem_cons_of_mem _ hx)
    unfold sumR at *
    simp only [List.map_cons, List.sum_cons, List.length_cons]
    omega
theorem size_ok (m : ManV) (a : Option Addr) (l c : Nat) (h : Heap) (w : Tab 33 h a l c (rowsR m.refs)) (hb : Big m) (hl : l < 2 ^ 40) :
    HEnt Tryd.prog 13 #[.agg (manA m a l c)] h fun v h' => v = .int .i64 (sizeM m) ∧ Ext h h' := by
  have hlen : m.refs.length = l := by have := w.len; rwa [rowsR_len] at this
  refine F13_ent _ _ _ _ _ _ _ ?_
  unfold F13
  refine newK_intro fun h1 hb1 x1 _ => ⟨m.name, m.ver, a, l, c, by rw [at_cell hb1]; rfl, by rw [at_cell hb1]; rfl, by rw [at_cell hb1]; rfl, rfl, HEnt.use (check_ok m a l c h1 (w.grow x1) hb hl) ?_⟩
  rintro _ h2 ⟨rfl, x2⟩
  refine ⟨_, rfl, br_of (fun hne => ⟨?_, x1.trans x2⟩) (fun heq => ?_)⟩
  · have : (checkM m : Int) ≠ 0 := by simpa using hne
    unfold sizeM; rw [if_neg (by omega)]
  have h0 : checkM m = 0 := by
    have : (checkM m : Int) = 0 := by simpa using heq
    omega
  obtain ⟨_, _, _, h8, hrng, _⟩ := check_zero h0
  unfold F13_k1
  rintro _ rfl
  refine ⟨a, l, c, by rw [at_cell (x2.blk hb1)]; rfl, fun s x h' => ∃ k : Nat, x = k ∧ k ≤ l ∧ s = sumR (m.refs.take k) ∧ Ext h h', fun _ x _ => (l - x).toNat, ⟨0, rfl, by omega, rfl, x1.trans x2⟩, ?_⟩
  rintro h4 _ _ ⟨k, rfl, hk, rfl, x4⟩
  unfold F13_b2
  refine br_of (fun ht => ?_) (fun hf => ?_)
  rotate_left
  · have hk' : k = l := by
      have : ¬ (k : Int) < (l : Int) := by simpa using hf
      omega
    unfold F13_k4
    refine ⟨?_, x4⟩
    unfold sizeM; rw [if_pos h0, List.take_of_length_le (by omega)]
  have hk' : k < l := by
    have : (k : Int) < (l : Int) := by simpa using ht
    omega
  obtain ⟨r, hr⟩ : ∃ r, m.refs[k]? = some r := ⟨m.refs[k]'(by omega), List.getElem?_eq_getElem (by omega)⟩
  obtain ⟨hr32, hr256, hrlo, hrhi⟩ := hb.2.2 r (List.mem_of_getElem? hr)
  obtain ⟨q, rfl, _, hcell⟩ := (w.grow x4).get (i := k) (r := refC r) (by simp [rowsR, hr])
  have e1 : IntKind.i64.wrap ((k : Int) + 1) = ((k + 1 : Nat) : Int) := by rw [i64_lt _ (by omega) (by omega)]; omega
  have hrl : (refC r).length = 33 := by rw [refC_len, hr32]
  have hbd := sumR_bound (m.refs.take (k + 1)) fun x hx => hrng x (List.mem_of_mem_take hx)
  rw [List.length_take] at hbd
  unfold F13_k3
  refine ⟨q, rfl, by omega, by omega, (refC r).toArray, by simp [hrl], by rw [Int.toNat_natCast]; exact hcell, newK_intro fun h5 hb5 x5 _ => ?_⟩
  refine storeK_whole hb5 (by simp [hrl]) zsize54 (fun u hu => refC_one r u (by simpa using hu)) fun h6 hb6 o6 => ?_
  have x6 : Ext h4 h6 := Keep.since x5 (o6.keep rfl : Keep (fun j => j = h4.size) h5 h6) fun j hj e => by omega
  refine ⟨r.2, by rw [at_cell hb6, List.getElem?_toArray]; exact refC_get_last r hr32, ?_⟩
  rintro _ rfl
  rw [e1, ← sumR_take hr, i64_lt _ (by omega) (by omega)]
  exact ⟨⟨k + 1, rfl, by omega, rfl, x4.trans x6⟩, by show ((l : Int) - ((k + 1 : Nat) : Int)).toNat < ((l : Int) - (k : Int)).toNat; omega⟩
theorem refSize_ok (m : ManV) (a : Option Addr) (l c : Nat) (h : Heap) (w : Tab 33 h a l c (rowsR m.refs)) (hb : Big m) (hl : l < 2 ^ 40) :
    HEnt Tryd.prog 14 #[.agg (manA m a l c)] h fun v h' => v = .int .i64 (sizeM m) ∧ Ext h h' := by
  have hlen : m.refs.length = l := by have := w.len; rwa [rowsR_len] at this
  refine F14_ent _ _ _ _ _ _ _ ?_
  unfold F14
  refine newK_intro fun h1 hb1 x1 _ => ?_
  rintro _ rfl _ rfl
  refine ⟨fun s x h' => ∃ k : Nat, x = k ∧ k ≤ l ∧ s = sumR (m.refs.take k) ∧ (0 < k → checkM m = 0) ∧ Ext h1 h', fun _ x _ => (l - x).toNat, ⟨0, rfl, by omega, rfl, by omega, Ext.refl _⟩, ?_⟩
  rintro h4 _ _ ⟨k, rfl, hk, rfl, hpos, x4⟩
  have hb4 := x4.blk hb1
  have sl : Vc.cell h4 ((at0 h.size).add 2) = some (.slice a l c) := by rw [at_cell hb4]; rfl
  unfold F14_b1
  refine ⟨a, l, c, sl, br_of (fun ht => ?_) (fun hf => ?_)⟩
  rotate_left
  · have hk' : k = l := by
      have : ¬ (k : Int) < (l : Int) := by simpa using hf
      omega
    unfold F14_k2
    refine br_of (fun e => by cases e) (fun _ => ?_)
    unfold F14_k4
    refine ⟨?_, x1.trans x4⟩
    unfold sizeM
    by_cases h0 : checkM m = 0
    · rw [if_pos h0, List.take_of_length_le (by omega)]
    · have hk0 : k = 0 := Nat.eq_zero_of_not_pos fun hp => h0 (hpos hp)
      rw [if_neg h0, hk0]; rfl
  have hk' : k < l := by
    have : (k : Int) < (l : Int) := by simpa using ht
    omega
  refine ⟨m.name, m.ver, a, l, c, by rw [at_cell hb4]; rfl, by rw [at_cell hb4]; rfl, sl, rfl, HEnt.use (refCheck_ok m a l c h4 (w.grow (x1.trans x4)) hb hl) ?_⟩
  rintro _ h5 ⟨rfl, x5⟩
  refine ⟨_, rfl, ?_⟩
  unfold F14_k2
  refine br_of (fun hz => ?_) (fun hnz => ?_)
  · have h0 : checkM m = 0 := by
      have : (checkM m : Int) = 0 := by simpa using hz
      omega
    obtain ⟨_, _, _, h8, hrng, _⟩ := check_zero h0
    obtain ⟨r, hr⟩ : ∃ r, m.refs[k]? = some r := ⟨m.refs[k]'(by omega), List.getElem?_eq_getElem (by omega)⟩
    obtain ⟨hr32, hr256, hrlo, hrhi⟩ := hb.2.2 r (List.mem_of_getElem? hr)
    obtain ⟨q, rfl, _, hcell⟩ := (w.grow (x1.trans (x4.trans x5))).get (i := k) (r := refC r) (by simp [rowsR, hr])
    have e1 : IntKind.i64.wrap ((k : Int) + 1) = ((k + 1 : Nat) : Int) := by rw [i64_lt _ (by omega) (by omega)]; omega
    have hbd := sumR_bound (m.refs.take (k + 1)) fun x hx => hrng x (List.mem_of_mem_take hx)
    rw [List.length_take] at hbd
    unfold F14_k3
    refine ⟨_, l, c, x5.some sl, q, rfl, by omega, by omega, r.2, by rw [Int.toNat_natCast]; exact hcell 32 _ (refC_get_last r hr32), ?_⟩
    rintro _ rfl _ rfl
    rw [e1, ← sumR_take hr, i64_lt _ (by omega) (by omega)]
    exact ⟨⟨k + 1, rfl, by omega, rfl, fun _ => h0, x4.trans x5⟩, by show ((l : Int) - ((k + 1 : Nat) : Int)).toNat < ((l : Int) - (k : Int)).toNat; omega⟩
  · have h0 : checkM m ≠ 0 := by
      have : (checkM m : Int) ≠ 0 := by simpa using hnz
      omega
    unfold F14_k4
    refine ⟨?_, x1.trans (x4.trans x5)⟩
    have hk0 : k = 0 := Nat.eq_zero_of_not_pos fun hp => h0 (hpos hp)
    unfold sizeM; rw [if_neg h0, hk0]; rfl
end Go.Proofs.YtpnbbgcaaogpdaaDoor
