import Derived.Test.YtcfegbpoailbdaaDoorOvlWb

namespace Go.Proofs.YtcfegbpoailbdaaDoor
open Go.Vc Go.Sha Go.Trail Go.Lay
set_option linter.unusedVariables false
set_option linter.unusedSimpArgs false
set_option maxRecDepth 20000
open Classical in
/-- what is put down while the one list is gone through -/
noncomputable def s3 (A B : Sta) (left : ByteArray → Bool) : Sta := fun p => match B p with
  | some y => if left p = true ∨ A p = some y then none else some y
  | none => none
open Classical in
/-- and while the other is -/
noncomputable def s5 (A B : Sta) (left : ByteArray → Bool) : Sta := fun p => match B p with
  | some y => if A p = some y then none else some y
  | none => match A p with
    | none => none
    | some _ => if left p = false ∧ isDir B (upL (lst p)).1 then some (whiteE p) else none
theorem ite_iff' {P Q : Prop} [Decidable P] [Decidable Q] (h : P ↔ Q) {α : Type} (a b : α) : (if P then a else b) = if Q then a else b := by
  by_cases hp : P
  · rw [if_pos hp, if_pos (h.1 hp)]
  · rw [if_neg hp, if_neg fun hq => hp (h.2 hq)]
theorem s3_start (A B : Sta) (p : ByteArray) : noS p = s3 A B (fun _ => true) p := by
  unfold s3 noS
  cases B p <;> simp
open Classical in
theorem s3_end {A B : Sta} {left : ByteArray → Bool} (h : ∀ p y, B p = some y → left p = false) (p : ByteArray) : s3 A B left p = s5 A B (fun _ => true) p := by
  unfold s3 s5
  cases hb : B p with
  | some y => exact ite_iff' (by rw [h p y hb]; simp) _ _
  | none =>
    cases A p with
    | none => rfl
    | some x => simp
open Classical in
theorem s5_end {A B : Sta} {left : ByteArray → Bool} (h : ∀ p x, A p = some x → left p = false) (p : ByteArray) : s5 A B left p = dS A B p := by
  unfold s5 dS
  cases hb : B p with
  | some y => rfl
  | none =>
    cases ha : A p with
    | none => rfl
    | some x => exact ite_iff' (by rw [h p x ha]; simp) _ _
open Classical in
theorem s3_far {A B : Sta} {left : ByteArray → Bool} {k p : ByteArray} (hp : p ≠ k) : s3 A B left p = s3 A B (fun a => left a && !decide (a = k)) p := by
  unfold s3
  cases B p with
  | none => rfl
  | some z => exact ite_iff' (by simp [hp]) _ _
open Classical in
theorem s5_far {A B : Sta} {left : ByteArray → Bool} {k p : ByteArray} (hp : p ≠ k) : s5 A B left p = s5 A B (fun a => left a && !decide (a = k)) p := by
  unfold s5
  cases B p with
  | some z => rfl
  | none =>
    cases A p with
    | none => rfl
    | some z => exact ite_iff' (by simp [hp]) _ _
theorem s3_put {A B : Sta} {left : ByteArray → Bool} {k : ByteArray} {y : EntV} (hb : B k = some y) (ha : A k ≠ some y) (p : ByteArray) : (if p = k then some y else s3 A B left p) = s3 A B (fun a => left a && !decide (a = k)) p := by
  by_cases hp : p = k
  · rw [if_pos hp, hp]
    unfold s3
    rw [hb]
    simp only
    rw [if_neg]
    rintro (h | h)
    · simp at h
    · exact ha h
  · rw [if_neg hp]; exact s3_far hp
theorem s3_skip {A B : Sta} {left : ByteArray → Bool} {k : ByteArray} {y : EntV} (hb : B k = some y) (ha : A k = some y) (p : ByteArray) : s3 A B left p = s3 A B (fun a => left a && !decide (a = k)) p := by
  by_cases hp : p = k
  · rw [hp]
    unfold s3
    rw [hb]
    simp only
    rw [if_pos (.inr ha), if_pos (.inr ha)]
  · exact s3_far hp
theorem s5_put {A B : Sta} {left : ByteArray → Bool} {k : ByteArray} {x : EntV} (hb : B k = none) (ha : A k = some x) (hd : isDir B (upL (lst k)).1) (p : ByteArray) : (if p = k then some (whiteE k) else s5 A B left p) = s5 A B (fun a => left a && !decide (a = k)) p := by
  by_cases hp : p = k
  · rw [if_pos hp, hp]
    unfold s5
    rw [hb, ha]
    simp only
    rw [if_pos ⟨by simp, hd⟩]
  · rw [if_neg hp]; exact s5_far hp
theorem s5_skip {A B : Sta} {left : ByteArray → Bool} {k : ByteArray} (h : B k ≠ none ∨ ¬ isDir B (upL (lst k)).1) (p : ByteArray) : s5 A B left p = s5 A B (fun a => left a && !decide (a = k)) p := by
  by_cases hp : p = k
  · rw [hp]
    unfold s5
    cases hb : B k with
    | some y => rfl
    | none =>
      have hd := h.resolve_left (fun h => h hb)
      cases A k with
      | none => rfl
      | some x =>
        simp only
        rw [if_neg fun h => hd h.2, if_neg fun h => hd h.2]
  · exact s5_far hp
theorem MapS.look2 {h : Heap} {r : Nat} {S : Sta} (m : MapS h r S) (p : ByteArray) {K : Value → Heap → Prop} (hK : K (.tuple #[eV ((S p).getD e0), .bool (S p).isSome]) h) : semK Tryd.prog (Instr.lookup 55 (.map (some r)) (.string p) true) h K := by
  obtain ⟨kvs, m1, l⟩ := m
  refine semK_lookup keyed9 Tryd.underlying55 zero38e m1 trivial ?_
  rw [l p]
  cases hs : S p with
  | none => rw [hs] at hK; exact hK
  | some e => rw [hs] at hK; exact hK
open Classical in
noncomputable def diffC (xs ys : List EntV) : List EntV × Nat := if ¬ (treeP xs ∧ treeP ys) then ([], 5) else if (refD xs ys).length > 64 then ([], 3) else (refD xs ys, 0)
theorem allD_len (xs ys : List EntV) : (allD xs ys).length ≤ xs.length + ys.length := by
  unfold allD
  have h1 := insAll_len (pathsL ys) (insAll (pathsL xs) [])
  have h2 := insAll_len (pathsL xs) []
  unfold pathsL at *
  rw [List.length_map] at h1 h2
  simp only [List.length_nil] at h2
  omega
open Classical in
theorem diff_ok (a : Option Addr) (l c : Nat) (xs : List EntV) (a1 : Option Addr) (l1 c1 : Nat) (ys : List EntV) (h : Heap) (w : Tab 4 h a l c (ents xs)) (sx : Small xs) (w1 : Tab 4 h a1 l1 c1 (ents ys)) (sy : Small ys) (hl : l < 2 ^ 38) (hl1 : l1 < 2 ^ 38) (hm : MaxAt h) :
    HEnt Tryd.prog 20 #[.slice a l c, .slice a1 l1 c1] h fun v h' => ∃ a' l' c', v = .tuple #[.slice a' l' c', .int .i64 (((diffC xs ys).2 : Nat) : Int)] ∧ OwnR 38 4 h h' a' l' c' (ents (diffC xs ys).1) := by
  have hxl := w.len
  rw [ents_len] at hxl
  have hyl := w1.len
  rw [ents_len] at hyl
  have bad : ¬ (treeP xs ∧ treeP ys) → ∀ h', Ext h h' → F20_k1 a l c a1 l1 c1 true h' fun v h' => ∃ a' l' c', v = .tuple #[.slice a' l' c', .int .i64 (((diffC xs ys).2 : Nat) : Int)] ∧ OwnR 38 4 h h' a' l' c' (ents (diffC xs ys).1) := by
    intro ht h' x'
    unfold F20_k1 diffC
    rw [if_pos ht]
    exact br_of (fun _ => ⟨none, 0, 0, rfl, OwnR.nil _ _ x'⟩) (fun e => by cases e)
  refine F20_ent _ _ _ _ _ _ _ _ ?_
  unfold F20
  refine HEnt.use (tree_ok a l c xs h w sx (by omega) hm) ?_
  rintro _ h1 ⟨rfl, x1⟩
  refine ⟨_, rfl, br_of (fun g => bad (fun t => ?_) h1 x1) (fun g => ?_)⟩
  · rw [decide_eq_true t.1] at g; cases g
  have tx : treeP xs := by simpa using g
  refine HEnt.use (tree_ok a1 l1 c1 ys h1 (w1.grow x1) sy (by omega) (hm.ext x1)) ?_
  rintro _ h2 ⟨rfl, x2⟩
  have x02 := x1.trans x2
  by_cases ty : treeP ys
  rotate_left
  · rw [decide_eq_false ty]
    exact ⟨_, rfl, bad (fun t => ty t.2) h2 x02⟩
  rw [decide_eq_true ty]
  refine ⟨_, rfl, ?_⟩
  have hdc : diffC xs ys = if (refD xs ys).length > 64 then ([], 3) else (refD xs ys, 0) := by
    unfold diffC
    rw [if_neg (fun h => h ⟨tx, ty⟩)]
  rw [hdc]
  have hlist := diff_lists xs ys
  have hpath : ∀ p e, dS (stS xs) (stS ys) p = some e → e.path = p ∧ lst p ∈ allD xs ys := fun p e he => dS_path he
  have hAp : ∀ p e, stS xs p = some e → e.path = p ∧ e ∈ xs := fun p e he => sts_path he
  have hBp : ∀ p e, stS ys p = some e → e.path = p ∧ e ∈ ys := fun p e he => sts_path he
  have hDs : ∀ p e, dS (stS xs) (stS ys) p = some e → e.path.size < 2 ^ 29 := fun p e he => by
    rcases dS_cases he with ⟨h3, _⟩ | ⟨_, ⟨x, h3⟩, _, rfl⟩
    · exact (sy _ (hBp _ _ h3).2).1
    · show p.size < 2 ^ 29
      rw [← (hAp _ _ h3).1]
      exact (sx _ (hAp _ _ h3).2).1
  have hal := allD_len xs ys
  unfold F20_k1
  refine br_of (fun e => by cases e) (fun _ => ?_)
  unfold F20_k2
  refine HEnt.use (by_ok a l c xs h2 (w.grow x02) (tree_lt tx) (by omega)) ?_
  rintro _ h3 ⟨rA, rfl, mA, hrA, x3⟩
  refine ⟨_, rfl, HEnt.use (by_ok a1 l1 c1 ys h3 (w1.grow (x02.trans x3)) (tree_lt ty) (by omega)) ?_⟩
  rintro _ h4 ⟨rB, rfl, mB, hrB, x4⟩
  have x04 := (x02.trans x3).trans x4
  have mA4 := mA.grow x4
  have hAlt := mA.lt
  have hBlt := mB.lt
  have x02s := x02.size
  have x3s := x3.size
  have x4s := x4.size
  generalize stS xs = A at *
  generalize stS ys = B at *
  refine ⟨_, rfl, newK_intro fun h5 hb5 x5 z5 => ?_⟩
  have mO5 : MapS h5 h4.size noS := MapS.new hb5
  obtain ⟨kvB, mB5, lB⟩ := mB.grow x5
  refine semK_range Tryd.underlying55 mB5 fun h6 x6 z6 it6 => ⟨h5.size, rfl, ?_⟩
  refine ⟨fun hh => ∃ left, IterAt Value.string (fun _ : ByteArray => True) hh h5.size rB kvB left ∧ Ext h hh ∧ MapS hh rA A ∧ MapS hh h4.size (s3 A B left),
    fun hh => leftN hh h5.size rB, ⟨_, it6, (x04.trans x5).trans x6, (mA4.grow x5).grow x6, (mO5.grow x6).congr (s3_start A B)⟩, ?_⟩
  rintro h7 ⟨left, it7, x07, mA7, mO7⟩
  have lt7 := it7.lt
  unfold F20_b3
  refine semK_next it7 0 (fun hov => .inl ⟨rfl, ?_⟩) fun pr h8 hmem hleft o8 hlt on => .inr ⟨_, _, rfl, ?_⟩
  · -- the other list
    have mB7 : MapS h7 rB B := ⟨kvB, it7.map, lB⟩
    have hov' : ∀ p y, B p = some y → left p = false := fun p y hy => by
      have : lookA kvB p = some (eV y) := by rw [lB, hy]; rfl
      exact hov _ (lookA_mem this)
    have mO7' := mO7.congr (s3_end hov')
    unfold F20_k4
    obtain ⟨kvA, mA7', lA⟩ := mA7
    refine semK_range Tryd.underlying55 mA7' fun h8 x8 z8 it8 => ⟨h7.size, rfl, ?_⟩
    have hO7 := mO7.lt
    refine ⟨fun hh => ∃ left, IterAt Value.string (fun _ : ByteArray => True) hh h7.size rA kvA left ∧ Ext h hh ∧ MapS hh rB B ∧ MapS hh h4.size (s5 A B left),
      fun hh => leftN hh h7.size rA, ⟨_, it8, x07.trans x8, mB7.grow x8, mO7'.grow x8⟩, ?_⟩
    rintro h9 ⟨left9, it9, x09, mB9, mO9⟩
    have lt9 := it9.lt
    unfold F20_b5
    refine semK_next it9 0 (fun hov => .inl ⟨rfl, ?_⟩) fun pr h10 hmem hleft o10 hlt on => .inr ⟨_, _, rfl, ?_⟩
    · have hov9 : ∀ p x, A p = some x → left9 p = false := fun p x hx => by
        have : lookA kvA p = some (eV x) := by rw [lA, hx]; rfl
        exact hov _ (lookA_mem this)
      have mD := mO9.congr (s5_end hov9)
      unfold F20_k6
      refine mD.len (fun p e he => (hpath p e he).1) hlist ⟨_, rfl, br_of (fun g => ?_) (fun g => ?_)⟩
      · have g : (refD xs ys).length > 64 := by
          have : (((refD xs ys).length : Nat) : Int) > 64 := by simpa using g
          omega
        rw [if_pos g]
        exact ⟨none, 0, 0, rfl, OwnR.nil _ _ x09⟩
      · have g : ¬ (refD xs ys).length > 64 := by
          have : ¬ (((refD xs ys).length : Nat) : Int) > 64 := by simpa using g
          omega
        rw [if_neg g]
        unfold F20_k7
        refine HEnt.use (sorted_ok h4.size (dS A B) ((allD xs ys).map str) h9 mD (fun p e he => ⟨(hpath p e he).1, Nat.lt_trans (hDs p e he) (by decide)⟩) (fun p e he => List.mem_map.2 ⟨lst p, (hpath p e he).2, str_lst p⟩) (by rw [List.length_map]; omega)) ?_
        rintro _ h10 ⟨a', l', c', es, rfl, hes, o10⟩
        rw [hes.one hlist] at o10
        exact ⟨a', l', c', rfl, a', l', c', rfl, ow_since o10 x09⟩
    · obtain ⟨x, hx, hpx⟩ : ∃ x : EntV, A pr.1 = some x ∧ pr.2 = eV x := by
        have h1 := mem_lookA it9.keys (show (pr.1, pr.2) ∈ kvA from hmem)
        rw [lA] at h1
        cases hs : A pr.1 with
        | none => rw [hs] at h1; cases h1
        | some e => rw [hs] at h1; exact ⟨e, rfl, (Option.some.inj h1).symm⟩
      have hsz : pr.1.size < 2 ^ 29 := by
        rw [← (hAp _ _ hx).1]
        exact (sx _ (hAp _ _ hx).2).1
      have mB10 := mB9.block (o10.block rB (by omega))
      have mO10 := mO9.block (o10.block h4.size (by omega))
      have x010 : Ext h h10 := Keep.since x09 (o10.keep (S := (· = h7.size)) rfl) fun k hk e => by have := x07.size; omega
      unfold F20_k8
      refine semK_told on ⟨pr.1, x.path, x.kind, x.mode, x.body, by rw [hpx]; rfl, mB10.look2 pr.1 ⟨((B pr.1).getD e0).path, ((B pr.1).getD e0).kind, ((B pr.1).getD e0).mode, ((B pr.1).getD e0).body, (B pr.1).isSome, rfl, newK_intro fun h11 hb11 x11 z11 => ?_⟩⟩
      refine storeK_whole (vs := entA ((B pr.1).getD e0)) hb11 rfl zeroC38 (entA_one _) fun h12 hb12 o12 => ?_
      have x1012 : Ext h10 h12 := Keep.since x11 (o12.keep rfl : Keep (· = h10.size) h11 h12) fun j hj e => by omega
      have skip : ∀ hh, Ext h10 hh → (B pr.1 ≠ none ∨ ¬ isDir B (upL (lst pr.1)).1) → (∃ left, IterAt Value.string (fun _ : ByteArray => True) hh h7.size rA kvA left ∧ Ext h hh ∧ MapS hh rB B ∧ MapS hh h4.size (s5 A B left)) ∧ leftN hh h7.size rA < leftN h9 h7.size rA := by
        intro hh xh hk
        refine ⟨⟨_, on.at_.grow xh, x010.trans xh, mB10.grow xh, (mO10.grow xh).congr (s5_skip hk)⟩, ?_⟩
        rw [leftN_same (xh.block _ on.at_.lt.1) (xh.block _ on.at_.lt.2.1)]
        exact hlt
      refine br_of (fun g => skip h12 x1012 (.inl fun e => by rw [e] at g; cases g)) (fun g => ?_)
      have hbn : B pr.1 = none := by
        cases hb : B pr.1 with
        | none => rfl
        | some y => rw [hb] at g; cases g
      unfold F20_k9
      refine HEnt.use (up_ok pr.1 (by omega) h12 (hm.ext (x010.trans x1012))) ?_
      rintro _ h13 ⟨rfl, x13⟩
      have x1013 := x1012.trans x13
      have hul := lst_str _ (up_lt (lst pr.1))
      have put : isDir B (upL (lst pr.1)).1 → ∀ hh, Ext h10 hh → F20_k10 (fun hh => ∃ left, IterAt Value.string (fun _ : ByteArray => True) hh h7.size rA kvA left ∧ Ext h hh ∧ MapS hh rB B ∧ MapS hh h4.size (s5 A B left)) (fun hh => leftN hh h7.size rA) (leftN h9 h7.size rA) (some rB) (some h4.size) pr.1 (at0 h7.size) true hh
          fun v h' => ∃ a' l' c', v = .tuple #[.slice a' l' c', .int .i64 (((if (refD xs ys).length > 64 then (([] : List EntV), 3) else (refD xs ys, 0)).2 : Nat) : Int)] ∧ OwnR 38 4 h h' a' l' c' (ents (if (refD xs ys).length > 64 then (([] : List EntV), 3) else (refD xs ys, 0)).1) := by
        intro hd hh xh
        unfold F20_k10
        refine br_of (fun _ => ?_) (fun e => by cases e)
        have itx := on.at_.grow xh
        have ltx := itx.lt
        have mBx := mB10.grow xh
        refine (mO10.grow xh).upd pr.1 (whiteE pr.1) fun hi mi oi => ⟨⟨_, itx.keep (S := (· = h4.size)) (oi.keep rfl) (by omega) (by omega), ?_, mBx.block (oi.block rB (by omega)), mi.congr (s5_put hbn hx hd)⟩, ?_⟩
        · exact Keep.since (x010.trans xh) (oi.keep (S := (· = h4.size)) rfl) fun k hk e => by have := x04.size; omega
        · show leftN hi h7.size rA < leftN h9 h7.size rA
          rw [leftN_same (oi.block _ (by omega)) (oi.block _ (by omega)), leftN_same (xh.block _ on.at_.lt.1) (xh.block _ on.at_.lt.2.1)]
          exact hlt
      refine ⟨_, _, rfl, ?_⟩
      rw [seq_nil, hul]
      refine br_of (fun g2 => put (.inl (by simpa using g2)) h13 x1013) (fun g2 => ?_)
      have g2 : (upL (lst pr.1)).1 ≠ [] := by simpa using g2
      refine (mB10.grow x1013).look (str (upL (lst pr.1)).1) ?_
      cases hbu : B (str (upL (lst pr.1)).1) with
      | none =>
        refine ⟨e0.path, e0.kind, e0.mode, e0.body, rfl, ?_⟩
        unfold F20_k10
        refine br_of (fun e => by cases e) (fun _ => skip h13 x1013 (.inr ?_))
        rintro (h14 | ⟨d, hd, _⟩)
        · exact g2 h14
        · rw [hbu] at hd; cases hd
      | some d =>
        refine ⟨d.path, d.kind, d.mode, d.body, rfl, ?_⟩
        by_cases k2 : d.kind = 2
        · rw [show (d.kind == 2) = true by simp [k2]]
          exact put (.inr ⟨d, hbu, k2⟩) h13 x1013
        · rw [show (d.kind == 2) = false by simp [k2]]
          unfold F20_k10
          refine br_of (fun e => by cases e) (fun _ => skip h13 x1013 (.inr ?_))
          rintro (h14 | ⟨d2, hd, kd⟩)
          · exact g2 h14
          · rw [hbu] at hd
            have := Option.some.inj hd
            subst this
            exact k2 kd
  · obtain ⟨y, hy, hpy⟩ : ∃ y : EntV, B pr.1 = some y ∧ pr.2 = eV y := by
      have h1 := mem_lookA it7.keys (show (pr.1, pr.2) ∈ kvB from hmem)
      rw [lB] at h1
      cases hs : B pr.1 with
      | none => rw [hs] at h1; cases h1
      | some e => rw [hs] at h1; exact ⟨e, rfl, (Option.some.inj h1).symm⟩
    have mA8 := mA7.block (o8.block rA (by omega))
    have mO8 := mO7.block (o8.block h4.size (by omega))
    have x08 : Ext h h8 := Keep.since x07 (o8.keep (S := (· = h5.size)) rfl) fun k hk e => by have := x04.size; omega
    have hup := s3_put (A := A) (left := left) hy
    have hsk := s3_skip (A := A) (left := left) hy
    generalize hAk : A pr.1 = ox at *
    unfold F20_k11
    refine semK_told on ⟨pr.1, y.path, y.kind, y.mode, y.body, by rw [hpy]; rfl, newK_intro fun h9 hb9 x9 z9 => ?_⟩
    refine storeK_whole (vs := entA y) hb9 rfl zeroC38 (entA_one _) fun h10 hb10 o10 => ?_
    have x810 : Ext h8 h10 := Keep.since x9 (o10.keep rfl : Keep (· = h8.size) h9 h10) fun j hj e => by omega
    refine (mA8.grow x810).look2 pr.1 ?_
    rw [hAk]
    refine ⟨(ox.getD e0).path, (ox.getD e0).kind, (ox.getD e0).mode, (ox.getD e0).body, ox.isSome, rfl, newK_intro fun h11 hb11 x11 z11 => ?_⟩
    refine storeK_whole (vs := entA (ox.getD e0)) hb11 rfl zeroC38 (entA_one _) fun h12 hb12 o12 => ?_
    have x1012 : Ext h10 h12 := Keep.since x11 (o12.keep rfl : Keep (· = h10.size) h11 h12) fun j hj e => by omega
    have x812 := x810.trans x1012
    have ecy := ent_cells (x1012.blk hb10)
    have ecx := ent_cells hb12
    have it12 := on.at_.grow x812
    have lt12 := it12.lt
    have mA12 := mA8.grow x812
    have k12 : ∀ b, (b = true ↔ ox ≠ some y) → F20_k12 (fun hh => ∃ left, IterAt Value.string (fun _ : ByteArray => True) hh h5.size rB kvB left ∧ Ext h hh ∧ MapS hh rA A ∧ MapS hh h4.size (s3 A B left)) (fun hh => leftN hh h5.size rB) (leftN h7 h5.size rB) (some rA) (some rB) (some h4.size) pr.1 (at0 h8.size) (at0 h5.size) b h12
        fun v h' => ∃ a' l' c', v = .tuple #[.slice a' l' c', .int .i64 (((if (refD xs ys).length > 64 then (([] : List EntV), 3) else (refD xs ys, 0)).2 : Nat) : Int)] ∧ OwnR 38 4 h h' a' l' c' (ents (if (refD xs ys).length > 64 then (([] : List EntV), 3) else (refD xs ys, 0)).1) := by
      intro b hb
      unfold F20_k12
      refine br_of (fun g => ⟨y.path, y.kind, y.mode, y.body, ecy.1, ecy.2.1, ecy.2.2.1, ecy.2.2.2, rfl, ?_⟩) (fun g => ?_)
      · refine (mO8.grow x812).upd pr.1 y fun hi mi oi => ⟨⟨_, it12.keep (S := (· = h4.size)) (oi.keep rfl) (by omega) (by omega), ?_, mA12.block (oi.block rA (by omega)), mi.congr (hup (hb.1 g))⟩, ?_⟩
        · exact Keep.since (x08.trans x812) (oi.keep (S := (· = h4.size)) rfl) fun k hk e => by have := x04.size; omega
        · show leftN hi h5.size rB < leftN h7 h5.size rB
          rw [leftN_same (oi.block _ (by omega)) (oi.block _ (by omega)), leftN_same (x812.block _ on.at_.lt.1) (x812.block _ on.at_.lt.2.1)]
          exact hlt
      · have hox : ox = some y := Classical.byContradiction fun h => by rw [hb.2 h] at g; cases g
        refine ⟨⟨_, it12, x08.trans x812, mA12, (mO8.grow x812).congr (hsk hox)⟩, ?_⟩
        show leftN h12 h5.size rB < leftN h7 h5.size rB
        rw [leftN_same (x812.block _ on.at_.lt.1) (x812.block _ on.at_.lt.2.1)]
        exact hlt
    refine br_of (fun g => k12 true ⟨fun _ e => (by rw [e] at g; cases g), fun _ => rfl⟩) (fun g => ⟨y.path, y.kind, y.mode, y.body, ecy.1, ecy.2.1, ecy.2.2.1, ecy.2.2.2, rfl, (ox.getD e0).path, (ox.getD e0).kind, (ox.getD e0).mode, (ox.getD e0).body, ecx.1, ecx.2.1, ecx.2.2.1, ecx.2.2.2, rfl, eqE y (ox.getD e0), fun w => run_equal_ent y (ox.getD e0) w, eqg30, k12 _ ?_⟩)
    have hq := eqE_iff y (ox.getD e0)
    cases hoe : ox with
    | none => rw [hoe] at g; cases g
    | some x =>
      rw [hoe] at hq
      have hq : eqE y x = true ↔ y = x := hq
      show (!(eqE y x)) = true ↔ some x ≠ some y
      by_cases hxy : y = x
      · rw [hq.2 hxy, hxy]; simp
      · have : eqE y x = false := by
          cases he : eqE y x with
          | false => rfl
          | true => exact absurd (hq.1 he) hxy
        rw [this]
        simp [Ne.symm hxy]
end Go.Proofs.YtcfegbpoailbdaaDoor
