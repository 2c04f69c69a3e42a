import Derived.Test.YtpehbcfoddggoaaDoorTrailV

set_option linter.unusedVariables false
set_option linter.unusedSimpArgs false
namespace Go.Proofs.YtpehbcfoddggoaaDoor
open Go.Vc Go.Sha Go.Trail Go.RowKit
theorem keep_set {h : Heap} {l : Nat} (o : Obj) : Keep (fun j => j = l) h (h.setIfInBounds l o) :=
  ⟨by simp, fun k hk hn => by rw [Array.getElem?_setIfInBounds_ne (fun e => hn e.symm)]⟩
theorem set_same {h : Heap} {l : Nat} {o o' : Obj} (hl : h[l]? = some o) : (h.setIfInBounds l o')[l]? = some o' := Array.getElem?_setIfInBounds_self_of_lt (blk_lt hl)
theorem cell_of {h : Heap} {b : Nat} {v : Value} {t : TypeId} {fr : Nat × Nat} (hb : h[b]? = some (.cells #[v] t fr)) : Vc.cell h (at0 b) = some v := by
  rw [at0_mk, cell_blk hb]; rfl
theorem store1 {h : Heap} {b : Nat} {v u : Value} {t : TypeId} {K : Heap → Prop} (hb : h[b]? = some (.cells #[u] t (0, 0))) (h1 : one v = true)
    (hK : ∀ h', Keep (fun j => j = b) h h' → h'.size = h.size → h'[b]? = some (.cells #[v] t (0, 0)) → K h') : storeK 1 h (at0 b) v K := by
  refine storeK_one hb (by simp) (.inr (Nat.le_refl _)) h1 ?_
  intro h' x y
  exact hK h' (y.keep rfl) y.size (by simpa using x)
theorem zero31 : zeroC Tryd.prog 31 = #[.slice none 0 0] := by kernel_rfl
theorem zero3 : zeroC Tryd.prog 3 = #[.int .i64 0] := by kernel_rfl
structure St (H : Heap) (rec_ : LoopState → Option Code → Obj) (l b7 b8 : Nat) (W : List (List Nat)) (x1 : Int) (k : Nat) (h : Heap) : Prop where
  keep : Keep (fun j => j = l ∨ j = b7 ∨ j = b8) H h
  recd : h[l]? = some (rec_ .ready none)
  cnt : h[b8]? = some (.cells #[.int .i64 k] 3 (0, 0))
  got : ∃ a c, h[b7]? = some (.cells #[.slice a k c] 31 (0, 0)) ∧ OwnN 9 h a k c (vals (W.take k)) ∧ ∀ bb, a = some ⟨bb, 0, none⟩ → H.size ≤ bb
  le : k ≤ W.length
  stop : x1 ≤ 0 ∨ (k : Int) < x1
structure Dn (H : Heap) (rec_ : LoopState → Option Code → Obj) (l b7 b8 : Nat) (W : List (List Nat)) (x1 : Int) (h : Heap) : Prop where
  keep : Keep (fun j => j = l ∨ j = b7 ∨ j = b8) H h
  recd : h[l]? = some (rec_ .done (some (.exit 0)))
  got : ∃ a n c, h[b7]? = some (.cells #[.slice a n c] 31 (0, 0)) ∧ OwnN 9 h a n c (vals (W.take x1.toNat)) ∧ ∀ bb, a = some ⟨bb, 0, none⟩ → H.size ≤ bb
  stop : 1 ≤ x1
theorem round_ok {H : Heap} {rec_ : LoopState → Option Code → Obj} {l b3 b7 b8 : Nat} {W : List (List Nat)} {x1 : Int} {k : Nat} {h : Heap} {x : List Nat} (st : St H rec_ l b7 b8 W x1 k h) (hx : W[k]? = some x)
    (hb3 : H[b3]? = some (.cells #[.int .i64 x1] 3 (0, 0))) (hl : l < H.size) (h7 : b7 < H.size) (h8 : b8 < H.size) (n1 : b3 ≠ b7) (n2 : b3 ≠ b8) (n3 : b3 ≠ l) (n4 : b7 ≠ b8) (n5 : b7 ≠ l) (n6 : b8 ≠ l) (hW : W.length < 2 ^ 30) :
    F8_r2 rec_ l (at0 b3) (at0 b7) (at0 b8) (str x) h fun v h' => (v = .bool true ∧ St H rec_ l b7 b8 W x1 (k + 1) h') ∨ (v = .bool false ∧ Dn H rec_ l b7 b8 W x1 h') := by
  obtain ⟨kp, hr, hcnt, ⟨a, c, hgot, ow, hnew⟩, hle, hstop⟩ := st
  have hk1 : k < W.length := (List.getElem?_eq_some_iff.1 hx).1
  unfold F8_r2
  refine ⟨hr, hr, ?_⟩
  rintro h1 e1
  have k1 : Keep (fun j => j = l) h h1 := e1 ▸ keep_set _
  have r1 : h1[l]? = some (rec_ .busy none) := e1 ▸ set_same hr
  have c1 := k1.blk hcnt n6
  have g1 := k1.blk hgot n5
  have o1 := OwnN.keep ow k1 fun b e hh => by have := hnew b e; omega
  have s1 : h1.size = h.size := by rw [e1]; simp
  clear e1
  refine ⟨a, k, c, cell_of g1, by decide, newK_intro fun h2 hb2 x2 e2 => ?_⟩
  have src : srcK h2 1 (.slice (some (at0 h1.size)) 1 1) 1 [.string (str x)] := srcK_slice rfl (fun ad e => by cases e; exact cells_blk0 hb2) (fun e => by cases e)
  have o2 := OwnN.keep o1 (x2.keep fun _ => False) fun _ _ h => h
  refine appK_ownN cells9 zero9 o2 src rfl (fun u hu => by rw [List.mem_singleton] at hu; subst hu; rfl) (by rw [bytes9]; omega) ?_
  intro a3 c3 h3 o3 k3 d3
  have hHh := kp.size
  have keep3 : ∀ {b : Nat} {o : Obj}, h1[b]? = some o → b < H.size → h3[b]? = some o := fun {b o} hb hlt => by
    refine k3.blk (x2.blk hb) ?_
    rintro (e | e)
    · have := hnew b e; omega
    · have := x2.size; omega
  have hnew3 : ∀ bb, a3 = some ⟨bb, 0, none⟩ → H.size ≤ bb := fun bb e => by
    rcases d3 bb e with e | e
    · exact hnew bb e
    · have := x2.size; omega
  refine store1 (keep3 g1 h7) rfl fun h4 k4 s4 g4 => ?_
  have c4 := k4.blk (keep3 c1 h8) (Ne.symm n4)
  refine ⟨_, cell_of c4, store1 c4 rfl fun h5 k5 s5 c5 => ?_⟩
  have kall : Keep (fun j => j = l ∨ j = b7 ∨ j = b8) H h5 := by
    refine ⟨?_, fun j hj hn => ?_⟩
    · have := x2.size; have := k3.size; omega
    · simp only [not_or] at hn
      rw [k5.block j (by have := x2.size; have := k3.size; omega) hn.2.2, k4.block j (by have := x2.size; have := k3.size; omega) hn.2.1]
      rw [k3.block j (by have := x2.size; omega) (by
        rintro (e | e)
        · have := hnew j e; omega
        · have := x2.size; omega), x2.block j (by omega), k1.block j (by omega) hn.1, kp.block j hj (by simp [hn])]
  have hb35 := kall.blk hb3 (by simp [n1, n2, n3])
  have ew : IntKind.i64.wrap ((k : Int) + 1) = ((k + 1 : Nat) : Int) := by rw [i64_lt _ (by omega) (by omega)]; omega
  rw [ew] at c5
  have g5 := k5.blk g4 n4
  have r5 := k5.blk (k4.blk (keep3 r1 hl) (Ne.symm n5)) (Ne.symm n6)
  have o5 := OwnN.keep (OwnN.keep o3 k4 fun b e hh => by have := hnew3 b e; omega) k5 fun b e hh => by have := hnew3 b e; omega
  have etk : vals (W.take k) ++ [Value.string (str x)] = vals (W.take (k + 1)) := by rw [take_snoc hx, vals_append]; rfl
  rw [etk] at o5
  have fin : ∀ {o : Obj} {h6 : Heap}, h6 = h5.setIfInBounds l o → Keep (fun j => j = l ∨ j = b7 ∨ j = b8) H h6 ∧ h6[l]? = some o ∧ h6[b8]? = some (.cells #[.int .i64 ((k + 1 : Nat) : Int)] 3 (0, 0)) ∧ h6[b7]? = some (.cells #[.slice a3 (k + 1) c3] 31 (0, 0)) ∧ OwnN 9 h6 a3 (k + 1) c3 (vals (W.take (k + 1))) := fun {o h6} e => by
    have k6 : Keep (fun j => j = l) h5 h6 := e ▸ keep_set _
    refine ⟨kall.trans (k6.mono fun j _ hj => .inl hj), e ▸ set_same r5, k6.blk c5 n6, k6.blk g5 n5, OwnN.keep o5 k6 fun b e hh => by have := hnew3 b e; omega⟩
  refine ⟨_, cell_of c5, _, cell_of hb35, br_of (fun hb => ⟨r5, fun h6 e6 => .inr ⟨rfl, ?_⟩⟩) (fun hb => ⟨r5, fun h6 e6 => .inl ⟨rfl, ?_⟩⟩)⟩
  · obtain ⟨f1, f2, f3, f4, f5⟩ := fin e6
    have hx1 : ((k + 1 : Nat) : Int) = x1 := by simpa using hb
    refine ⟨f1, f2, ⟨a3, k + 1, c3, f4, ?_, hnew3⟩, by omega⟩
    rw [← hx1, Int.toNat_natCast]; exact f5
  · obtain ⟨f1, f2, f3, f4, f5⟩ := fin e6
    have hx1 : ¬ ((k + 1 : Nat) : Int) = x1 := by simpa using hb
    exact ⟨f1, f2, f3, ⟨a3, c3, f4, f5, hnew3⟩, hk1, by omega⟩
theorem ways_small (l : List Nat) : (ways l).length ≤ 9 := by
  unfold ways
  split
  · have := (parts_all l).2; simp [heads_len]; omega
  · simp
theorem set_ext {h0 h : Heap} {b : Nat} (x : Ext h0 h) (hb : h0.size ≤ b) (o : Obj) : Ext h0 (h.setIfInBounds b o) :=
  Keep.since x (keep_set o) fun k hk e => by omega
theorem walks_ok (s : ByteArray) (x1 : Int) (hs : s.size < 2 ^ 30) (h : Heap) (hm : MaxAt h) : HEnt Tryd.prog 8 #[.string s, .int .i64 x1] h (yes h) := by
  refine F8_ent _ _ _ _ ?_
  unfold F8
  refine newK_intro fun h1 hb1 y1 e1 => ?_
  refine HEnt.use (refWalk_ok s hs h1) ?_
  rintro _ h2 ⟨a, l, c, rfl, ow⟩
  refine ⟨a, l, c, rfl, HEnt.use (F21_ent s h2 (fun v h' => v = .func (.func 35) #[] #[.pointer (some (at0 h2.size))] ∧ Ext h2 h' ∧ h'[h2.size]? = some (.cells #[.string s] 9)) ?_) ?_⟩
  · unfold F21
    exact newK_intro fun h3 hb3 y3 e3 => ⟨rfl, y3, hb3⟩
  rintro _ h3 ⟨rfl, y3, hbq⟩
  have hlw := ow.len
  rw [vals_len] at hlw
  have hw9 := ways_small (lst s)
  refine ⟨_, rfl, at0 h2.size, rfl, ?_⟩
  unfold F8_k1
  rw [zero31, zero3]
  refine newK_intro fun h4 hb4 y4 e4 => newK_intro fun h5 hb5 y5 e5 => store1 hb5 rfl fun h6 k6 s6 c6 => ?_
  rintro rec_ b lp h7 hb hl y7 hmark hrec hno hyl
  have z1 := y1.size
  have z2 := ow.ext.size
  have z3 := y3.size
  have z7 := y7.size
  have q3 := blk_lt hbq
  have bq6 : h6[h2.size]? = some (.cells #[.string s] 9) := k6.blk (y5.blk (y4.blk hbq)) (by omega)
  have b36 : h6[h.size]? = some (.cells #[.int .i64 x1] 3) := k6.blk (y5.blk (y4.blk (y3.blk (ow.ext.blk hb1)))) (by omega)
  have b46 : h6[h3.size]? = some (.cells #[.slice none 0 0] 31) := k6.blk (y5.blk hb4) (by omega)
  have ow6 : OwnN 9 h6 a l c (vals (ways (lst s))) := by
    refine OwnN.keep (OwnAt.grow (OwnAt.grow (OwnAt.grow ow y3) y4) y5).own k6 fun bb e hh => ?_
    have := own_blk ow.own e
    omega
  have ext6 : Ext h h6 := Keep.since ((((y1.trans ow.ext).trans y3).trans y4).trans y5) k6 fun k hk e => by omega
  have b37 := y7.blk b36
  have bq7 := y7.blk bq6
  have b47 := y7.blk b46
  have b57 := y7.blk c6
  have ow7 := OwnN.keep ow6 (y7.keep fun _ => False) fun _ _ h => h
  have ext7 := ext6.trans y7
  have lt7 := blk_lt hrec
  have ltm := blk_lt hmark
  -- what the loop's yield does
  have hyield : ∀ k h' x, St h7 rec_ lp h3.size h4.size (ways (lst s)) x1 k h' → (ways (lst s))[k]? = some x → HYield Tryd.prog lp #[.string (str x)] h' fun v h'' => (v = .bool true ∧ St h7 rec_ lp h3.size h4.size (ways (lst s)) x1 (k + 1) h'') ∨ (v = .bool false ∧ Dn h7 rec_ lp h3.size h4.size (ways (lst s)) x1 h'') := fun k h' x st hx =>
    hyl (str x) h' _ (round_ok st hx b37 lt7 (by omega) (by omega) (by omega) (by omega) (by omega) (by omega) (by omega) (by omega) (by omega))
  have st0 : ∀ hx0 : x1 ≤ 0 ∨ (0 : Int) < x1, St h7 rec_ lp h3.size h4.size (ways (lst s)) x1 0 h7 := fun hx0 =>
    ⟨Keep.refl _ _, hrec, b57, ⟨none, 0, b47, .inl ⟨rfl, rfl, rfl, by simp [vals]⟩, fun bb e => by cases e⟩, Nat.zero_le _, by simpa using hx0⟩
  have stx : ∀ k h' h'', St h7 rec_ lp h3.size h4.size (ways (lst s)) x1 k h' → Ext h' h'' → St h7 rec_ lp h3.size h4.size (ways (lst s)) x1 k h'' := fun k h' h'' ⟨p1, p2, p3, ⟨a', c', p4, p5, p6⟩, p7, p8⟩ y =>
    ⟨p1.trans (y.keep _), y.blk p2, y.blk p3, ⟨a', c', y.blk p4, OwnN.keep p5 (y.keep fun _ => False) fun _ _ h => h, p6⟩, p7, p8⟩
  have old : ∀ {h' : Heap}, Keep (fun j => j = lp ∨ j = h3.size ∨ j = h4.size) h7 h' → MaxAt h' ∧ Ext h h' ∧ h'[b]? = some (.deferred (some [])) ∧ h'[h.size]? = some (.cells #[.int .i64 x1] 3) ∧ h'[h2.size]? = some (.cells #[.string s] 9) ∧ OwnN 9 h' a l c (vals (ways (lst s))) := fun {h'} k => by
    have xx : Ext h h' := Keep.since ext7 k fun j hj e => by omega
    refine ⟨hm.ext xx, xx, k.blk hmark (by omega), k.blk b37 (by omega), k.blk bq7 (by omega), OwnN.keep ow7 k fun bb e hh => ?_⟩
    have := own_blk ow.own e
    omega
  -- behind the loop
  have after : ∀ (h' h'' : Heap) (o : Obj) (a' : Option Addr) (n c' : Nat) (m : Nat), Keep (fun j => j = lp ∨ j = h3.size ∨ j = h4.size) h7 h' → h'' = h'.setIfInBounds lp o → h'[h3.size]? = some (.cells #[.slice a' n c'] 31 (0, 0)) → OwnN 9 h' a' n c' (vals ((ways (lst s)).take m)) →
      (∀ bb, a' = some ⟨bb, 0, none⟩ → h7.size ≤ bb) → (ways (lst s)).take m = (if 1 ≤ x1 ∧ x1 < (ways (lst s)).length then (ways (lst s)).take x1.toNat else ways (lst s)) →
      F8_k3 b (at0 h.size) a l c (at0 h3.size) h'' (yes h) := by
    intro h' h'' o a' n c' m kp e hgot og hnew hm'
    have ks : Keep (fun j => j = lp) h' h'' := e ▸ keep_set _
    have kp2 := kp.trans (ks.mono fun j _ hj => .inl hj : Keep (fun j => j = lp ∨ j = h3.size ∨ j = h4.size) h' h'')
    obtain ⟨w1, w2, w3, w4, w5, w6⟩ := old kp2
    have g2 := ks.blk hgot (show h3.size ≠ lp by omega)
    have og2 := OwnN.keep og ks fun bb e hh => by have := hnew bb e; omega
    have last : ∀ (av : Option Addr) (nv cv : Nat), OwnN 9 h'' av nv cv (vals ((ways (lst s)).take m)) → F8_k5 b av nv cv (at0 h3.size) h'' (yes h) := by
      intro av nv cv ov
      unfold F8_k5
      refine ⟨a', n, c', cell_of g2, HEnt.use (same_ok a' av n c' nv cv _ h'' (own_any og2) (own_any ov) (by rw [List.length_take]; omega)) ?_⟩
      rintro _ _ ⟨rfl, rfl⟩
      refine ⟨_, rfl, br_of (fun _ => ?_) (fun e => by cases e)⟩
      refine HEnt.use (works_ok _ w1) ?_
      rintro _ h8 ⟨rfl, y8⟩
      refine ⟨_, rfl, y8.blk w3, ?_⟩
      rintro h9 rfl
      exact ⟨rfl, set_ext (w2.trans y8) (by omega) _⟩
    unfold F8_k3
    refine ⟨x1, cell_of w4, br_of (fun ht => ⟨x1, cell_of w4, ?_⟩) (fun hf => ?_)⟩
    · have h1 : 1 ≤ x1 := by simpa using ht
      unfold F8_k4
      refine br_of (fun hlt => ?_) (fun hge => ?_)
      · have h2 : x1 < (l : Int) := by simpa using hlt
        have hcl : l ≤ c := by
          rcases w6 with ⟨_, e, _⟩ | op
          · omega
          · exact op.cap
        refine ⟨x1, cell_of w4, by omega, by omega, by omega, last _ _ _ ?_⟩
        rw [if_pos ⟨h1, by omega⟩] at hm'
        rw [hm', Nat.sub_zero, Nat.sub_zero]
        have := own_take w6 (show x1.toNat ≤ l by omega)
        obtain ⟨pb, rfl⟩ : ∃ pb, a = some ⟨pb, 0, none⟩ := by
          rcases w6 with ⟨_, e, _⟩ | ⟨_, _, b, _, e, _⟩
          · omega
          · exact ⟨b, e⟩
        rw [cut0]
        rw [vals, ← List.map_take] at this
        exact this
      · have h2 : ¬ x1 < (l : Int) := by simpa using hge
        rw [if_neg (by omega)] at hm'
        exact last _ _ _ (by rw [hm']; exact w6)
    · have h1 : ¬ 1 ≤ x1 := by simpa using hf
      unfold F8_k4
      refine br_of (fun e => by cases e) (fun _ => ?_)
      rw [if_neg (by omega)] at hm'
      exact last _ _ _ (by rw [hm']; exact w6)
  refine HEnt.mono (walkIt_ok s hs (St h7 rec_ lp h3.size h4.size (ways (lst s)) x1) (Dn h7 rec_ lp h3.size h4.size (ways (lst s)) x1) (fun k h' st => cell_of (old st.keep).2.2.2.2.1) (fun k h' st => (old st.keep).1) stx hyield h7 (st0 (by omega))) ?_
  rintro v h8 (dn | st)
  · obtain ⟨kp, r, ⟨a', n, c', g, o, hn⟩, h1⟩ := dn
    refine ⟨.done, some (.exit 0), r, by simp, fun h9 e9 => ?_⟩
    show F8_k3 b (at0 h.size) a l c (at0 h3.size) h9 (yes h)
    refine after h8 h9 _ a' n c' x1.toNat kp e9 g o hn ?_
    split
    · rfl
    · exact List.take_of_length_le (by omega)
  · obtain ⟨kp, r, _, ⟨a', c', g, o, hn⟩, _, hst⟩ := st
    refine ⟨.ready, none, r, by simp, fun h9 e9 => ?_⟩
    show F8_k3 b (at0 h.size) a l c (at0 h3.size) h9 (yes h)
    refine after h8 h9 _ a' _ c' _ kp e9 g o hn ?_
    rw [if_neg (by omega), List.take_of_length_le (Nat.le_refl _)]
end Go.Proofs.YtpehbcfoddggoaaDoor
