import Derived.Test.YtpnbbgcaaogpdaaDoorManB

namespace Go.Proofs.YtpnbbgcaaogpdaaDoor
open Go.Vc Go.Sha Go.Trail Go.RowKit Go.Man
set_option linter.unusedVariables false
set_option linter.unusedSimpArgs false
set_option maxRecDepth 4000
theorem pcs_short (l : List Nat) : (pcs l).length ≤ l.length + 1 := by rw [pcs_len]; have := List.count_le_length (a := 46) (l := l); omega
theorem pcs_each : ∀ (l : List Nat), ∀ p ∈ pcs l, p.length ≤ l.length ∧ ∀ c ∈ p, c ∈ l
  | [] => by simp [pcs]
  | c :: r => by
    obtain ⟨p, ps, hp⟩ := pcs_ne r
    have ih := pcs_each r
    rw [hp] at ih
    rw [pcs_cons hp]
    intro q hq
    split at hq
    · rcases List.mem_cons.1 hq with rfl | hq
      · simp
      · have := ih q hq
        exact ⟨by simp; omega, fun d hd => List.mem_cons_of_mem _ (this.2 d hd)⟩
    · rcases List.mem_cons.1 hq with rfl | hq
      · have := ih p (List.mem_cons_self ..)
        refine ⟨by simp; omega, fun d hd => ?_⟩
        rcases List.mem_cons.1 hd with rfl | hd
        · exact List.mem_cons_self ..
        · exact List.mem_cons_of_mem _ (this.2 d hd)
      · have := ih q (List.mem_cons_of_mem _ hq)
        exact ⟨by simp; omega, fun d hd => List.mem_cons_of_mem _ (this.2 d hd)⟩
theorem getD_mem {ps : List (List Nat)} {i : Nat} (hi : i < ps.length) : ps.getD i [] ∈ ps := by
  rw [List.getD_eq_getElem?_getD, List.getElem?_eq_getElem hi]; exact List.getElem_mem _
theorem lexO_drop {xs ys : List (List Nat)} {k : Nat} (hx : k < xs.length) (hy : k < ys.length) : lexO pieceC (xs.drop k) (ys.drop k) = if pieceC (xs.getD k []) (ys.getD k []) = 0 then lexO pieceC (xs.drop (k + 1)) (ys.drop (k + 1)) else pieceC (xs.getD k []) (ys.getD k []) := by
  rw [List.drop_eq_getElem_cons hx, List.drop_eq_getElem_cons hy, List.getD_eq_getElem?_getD, List.getElem?_eq_getElem hx, List.getD_eq_getElem?_getD, List.getElem?_eq_getElem hy]; rfl
theorem refOrder_ok (s t : ByteArray) (hs : s.size < 2 ^ 31) (ht : t.size < 2 ^ 31) (h : Heap) : HEnt Tryd.prog 18 #[.string s, .string t] h fun v h' => v = .int .i64 (orderC (lst s) (lst t)) ∧ Ext h h' := by
  refine F18_ent _ _ _ _ ?_
  have ls := lst_len s
  have lt_ := lst_len t
  unfold F18
  refine HEnt.use (refPieces_ok s (by omega) h) ?_
  rintro _ h1 ⟨a, l, c, rfl, o1⟩
  refine ⟨a, l, c, rfl, HEnt.use (refPieces_ok t (by omega) h1) ?_⟩
  rintro _ h2 ⟨a', l', c', rfl, o2⟩
  have o1 := o1.grow o2.ext
  have hl := o1.len
  have hl' := o2.len
  rw [vals_len] at hl hl'
  have ps := pcs_short (lst s)
  have pt := pcs_short (lst t)
  refine ⟨a', l', c', rfl, fun x h' => ∃ k : Nat, x = k ∧ k ≤ l ∧ k ≤ l' ∧ orderC (lst s) (lst t) = lexO pieceC ((pcs (lst s)).drop k) ((pcs (lst t)).drop k) ∧ h' = h2, fun x _ => (l - x).toNat, ⟨0, rfl, by omega, by omega, rfl, rfl⟩, ?_⟩
  rintro h3 _ ⟨k, rfl, hk1, hk2, he, rfl⟩
  have ends : ¬ (k < l ∧ k < l') → F18_k11 a l c a' l' c' h3 fun v h' => v = .int .i64 (orderC (lst s) (lst t)) ∧ Ext h h' := fun hn => by
    unfold F18_k11
    refine br_of (fun hlt => ⟨?_, o1.ext⟩) (fun hge => ?_)
    · have hlt' : (l : Int) < (l' : Int) := by simpa using hlt
      rw [he, List.drop_of_length_le (show (pcs (lst s)).length ≤ k by omega), List.drop_eq_getElem_cons (show k < (pcs (lst t)).length by omega)]; rfl
    · have hge' : ¬ (l : Int) < (l' : Int) := by simpa using hge
      unfold F18_k12
      refine br_of (fun hgt => ⟨?_, o1.ext⟩) (fun hle => ?_)
      · have hgt' : (l : Int) > (l' : Int) := by simpa using hgt
        rw [he, List.drop_of_length_le (show (pcs (lst t)).length ≤ k by omega), List.drop_eq_getElem_cons (show k < (pcs (lst s)).length by omega)]; rfl
      · have hle' : ¬ (l : Int) > (l' : Int) := by simpa using hle
        unfold F18_k13
        refine ⟨?_, o1.ext⟩
        rw [he, List.drop_of_length_le (show (pcs (lst t)).length ≤ k by omega), List.drop_of_length_le (show (pcs (lst s)).length ≤ k by omega)]; rfl
  unfold F18_b1
  refine br_of (fun ht1 => ?_) (fun hf1 => ?_)
  rotate_left
  · unfold F18_k2
    refine br_of (fun e => by cases e) (fun _ => ends ?_)
    have : ¬ (k : Int) < (l : Int) := by simpa using hf1
    omega
  have hkl : k < l := by
    have : (k : Int) < (l : Int) := by simpa using ht1
    omega
  unfold F18_k2
  refine br_of (fun ht2 => ?_) (fun hf2 => ends ?_)
  rotate_left
  · have : ¬ (k : Int) < (l' : Int) := by simpa using hf2
    omega
  have hkl' : k < l' := by
    have : (k : Int) < (l' : Int) := by simpa using ht2
    omega
  obtain ⟨b1, rfl, _, hc1⟩ := o1.cell (vals_get (show k < (pcs (lst s)).length by omega))
  obtain ⟨b2, rfl, _, hc2⟩ := o2.cell (vals_get (show k < (pcs (lst t)).length by omega))
  have px := pcs_each (lst s) _ (getD_mem (show k < (pcs (lst s)).length by omega))
  have py := pcs_each (lst t) _ (getD_mem (show k < (pcs (lst t)).length by omega))
  have hd := lexO_drop (k := k) (show k < (pcs (lst s)).length by omega) (show k < (pcs (lst t)).length by omega)
  rw [← he] at hd
  generalize hX : (pcs (lst s)).getD k [] = X at *
  generalize hY : (pcs (lst t)).getD k [] = Y at *
  have x256 : ∀ c ∈ X, c < 256 := fun c hc => lst_lt s c (px.2 c hc)
  have y256 : ∀ c ∈ Y, c < 256 := fun c hc => lst_lt t c (py.2 c hc)
  have sx : (str X).size = X.length := str_size X
  have sy : (str Y).size = Y.length := str_size Y
  have e1 : IntKind.i64.wrap ((k : Int) + 1) = ((k + 1 : Nat) : Int) := by rw [i64_lt _ (by omega) (by omega)]; omega
  have A1 : ∀ h', Ext h3 h' → Vc.cell h' ((⟨b1, 0, none⟩ : Addr).add ((k : Int).toNat * 1)) = some (.string (str X)) := fun h' x => by rw [Int.toNat_natCast, Nat.mul_one, add_mk, Nat.zero_add]; exact x.some hc1
  have A2 : ∀ h', Ext h3 h' → Vc.cell h' ((⟨b2, 0, none⟩ : Addr).add ((k : Int).toNat * 1)) = some (.string (str Y)) := fun h' x => by rw [Int.toNat_natCast, Nat.mul_one, add_mk, Nat.zero_add]; exact x.some hc2
  unfold F18_k3
  refine ⟨_, rfl, by omega, by omega, _, A1 _ (Ext.refl _), _, rfl, by omega, by omega, _, A2 _ (Ext.refl _), ?_⟩
  intro h4 hcl; obtain rfl := hcl.eq
  rw [seq_lst, lst_str X x256, lst_str Y y256]
  refine br_of (fun heq => ?_) (fun hne => ?_)
  · have heq' : X = Y := by simpa using heq
    unfold F18_k4
    rw [e1]
    rw [if_pos ((pieceC_cmp.zero _ _).2 heq')] at hd
    exact ⟨⟨k + 1, rfl, by omega, by omega, hd, rfl⟩, by show ((l : Int) - ((k + 1 : Nat) : Int)).toNat < ((l : Int) - (k : Int)).toNat; omega⟩
  have hne' : X ≠ Y := by simpa using hne
  rw [if_neg (fun e => hne' ((pieceC_cmp.zero _ _).1 e)), ← refP_eq] at hd
  unfold F18_k5
  refine ⟨_, rfl, by omega, by omega, _, A1 _ (Ext.refl _), digs X, ?_, _, rfl, by omega, by omega, _, A2 _ (Ext.refl _), digs Y, ?_, ?_⟩
  · intro h5 hcl; obtain rfl := hcl.eq
    refine HEnt.mono (refDigits_ok (str X) (by omega) h5) ?_
    rintro _ _ ⟨rfl, rfl⟩
    exact ⟨by rw [lst_str X x256], rfl⟩
  · intro h5 hcl; obtain rfl := hcl.eq
    refine HEnt.mono (refDigits_ok (str Y) (by omega) h5) ?_
    rintro _ _ ⟨rfl, rfl⟩
    exact ⟨by rw [lst_str Y y256], rfl⟩
  intro h5 hcl; obtain rfl := hcl.eq
  have last : ∀ h6, Ext h5 h6 → refP X Y = cmpL X Y → F18_k10 (fun x h' => ∃ k : Nat, x = k ∧ k ≤ l ∧ k ≤ l' ∧ orderC (lst s) (lst t) = lexO pieceC ((pcs (lst s)).drop k) ((pcs (lst t)).drop k) ∧ h' = h5) (fun x _ => (l - x).toNat) (((l : Int) - (k : Int)).toNat) (some ⟨b1, 0, none⟩) l c (some ⟨b2, 0, none⟩) l' c' (k : Int) h6 fun v h' => v = .int .i64 (orderC (lst s) (lst t)) ∧ Ext h h' := by
    intro h6 x6 er
    unfold F18_k10
    refine ⟨_, rfl, by omega, by omega, _, A1 _ x6, _, rfl, by omega, by omega, _, A2 _ x6, cmpL X Y, ?_, ?_⟩
    · intro h7 hcl; obtain rfl := hcl.eq
      refine HEnt.mono (less_ok (str X) (str Y) h7) ?_
      rintro _ _ ⟨rfl, rfl⟩
      exact ⟨by rw [lst_str X x256, lst_str Y y256], rfl⟩
    · intro h7 hcl; obtain rfl := hcl.eq
      exact ⟨by rw [hd, er], o1.ext.trans x6⟩
  have four : digs X = digs Y → F18_k9 (fun x h' => ∃ k : Nat, x = k ∧ k ≤ l ∧ k ≤ l' ∧ orderC (lst s) (lst t) = lexO pieceC ((pcs (lst s)).drop k) ((pcs (lst t)).drop k) ∧ h' = h5) (fun x _ => (l - x).toNat) (((l : Int) - (k : Int)).toNat) (some ⟨b1, 0, none⟩) l c (some ⟨b2, 0, none⟩) l' c' (k : Int) (digs X) h5 fun v h' => v = .int .i64 (orderC (lst s) (lst t)) ∧ Ext h h' := by
    intro hdd
    unfold F18_k9
    refine br_of (fun hdx => ?_) (fun hdx => last h5 (Ext.refl _) ?_)
    · have hdy : digs Y = true := hdd ▸ hdx
      have en : IntKind.i64.wrap (((str X).size : Int) + ((str Y).size : Int)) = ((X.length + Y.length : Nat) : Int) := by rw [i64_lt _ (by omega) (by omega)]; omega
      have pad256 : ∀ (Z : List Nat) n, (∀ c ∈ Z, c < 256) → ∀ c ∈ pad Z n, c < 256 := fun Z n hZ c hc => by
        unfold pad at hc
        rcases List.mem_append.1 hc with hc | hc
        · rw [(List.mem_replicate.1 hc).2]; decide
        · exact hZ c hc
      refine ⟨_, rfl, by omega, by omega, _, A1 _ (Ext.refl _), _, rfl, by omega, by omega, _, A2 _ (Ext.refl _), ?_⟩
      intro h6 hcl; obtain rfl := hcl.eq
      rw [en]
      refine ⟨_, rfl, by omega, by omega, _, A1 _ (Ext.refl _), str (pad X (X.length + Y.length)), ?_, _, rfl, by omega, by omega, _, A2 _ (Ext.refl _), str (pad Y (X.length + Y.length)), ?_, cmpL (pad X (X.length + Y.length)) (pad Y (X.length + Y.length)), ?_, ?_⟩
      · intro h7 x7
        refine HEnt.mono (padded_ok (str X) (X.length + Y.length) (by omega) (by omega) h7) ?_
        rintro _ h8 ⟨rfl, x8⟩
        exact ⟨by rw [lst_str X x256], x8⟩
      · intro h7 x7
        refine HEnt.mono (padded_ok (str Y) (X.length + Y.length) (by omega) (by omega) h7) ?_
        rintro _ h8 ⟨rfl, x8⟩
        exact ⟨by rw [lst_str Y y256], x8⟩
      · intro h7 x7
        refine HEnt.mono (less_ok _ _ h7) ?_
        rintro _ _ ⟨rfl, rfl⟩
        exact ⟨by rw [lst_str _ (pad256 X _ x256), lst_str _ (pad256 Y _ y256)], Ext.refl _⟩
      · intro h7 x7
        refine br_of (fun hc => ⟨?_, o1.ext.trans x7⟩) (fun hc => last h7 x7 ?_)
        · have hc' : cmpL (pad X (X.length + Y.length)) (pad Y (X.length + Y.length)) ≠ 0 := by simpa using hc
          rw [hd]; unfold refP; rw [hdx, hdy]; simp [hc']
        · have hc' : cmpL (pad X (X.length + Y.length)) (pad Y (X.length + Y.length)) = 0 := by simpa using hc
          unfold refP; rw [hdx, hdy]; simp [hc']
    · have hdy : digs Y = false := hdd ▸ hdx
      unfold refP; rw [hdx, hdy]; simp
  refine br_of (fun hdx => ?_) (fun hdx => ?_)
  · unfold F18_k6
    refine br_of (fun hdy => ⟨?_, o1.ext⟩) (fun hdy => ?_)
    · have hdy' : digs Y = false := by simpa using hdy
      rw [hd]; unfold refP; rw [hdx, hdy']; simp
    · have hdy' : digs Y = true := by simpa using hdy
      unfold F18_k7
      refine br_of (fun _ => ?_) (fun e => by rw [hdy'] at e; cases e)
      unfold F18_k8
      refine br_of (fun e => by rw [hdx] at e; cases e) (fun _ => four (by rw [hdx, hdy']))
  · unfold F18_k6
    refine br_of (fun e => by cases e) (fun _ => ?_)
    unfold F18_k7
    refine br_of (fun hdy => ?_) (fun hdy => ?_)
    · unfold F18_k8
      refine br_of (fun _ => ⟨?_, o1.ext⟩) (fun e => by rw [hdx] at e; cases e)
      rw [hd]; unfold refP; rw [hdx, hdy]; simp
    · unfold F18_k8
      exact br_of (fun e => by cases e) (fun _ => four (by rw [hdx, hdy]))
end Go.Proofs.YtpnbbgcaaogpdaaDoor
