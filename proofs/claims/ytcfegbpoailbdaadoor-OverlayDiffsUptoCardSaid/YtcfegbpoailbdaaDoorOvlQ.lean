import Derived.Test.YtcfegbpoailbdaaDoorOvlP

namespace Go.Proofs.YtcfegbpoailbdaaDoor
open Go.Vc Go.Sha Go.Trail Go.Lay
set_option linter.unusedVariables false
set_option linter.unusedSimpArgs false
set_option maxRecDepth 20000
theorem tab_drop {n : Nat} {h : Heap} {a : Option Addr} {l c : Nat} {rows : List (List Value)} (w : Tab n h a l c rows) (k : Nat) (hk : k ≤ l) : Tab n h (cutAt c k n a) (l - k) (c - k) (rows.drop k) := by
  have hlen := w.len
  have hcap := w.cap
  refine ⟨by rw [List.length_drop, hlen], by omega, fun r hr => w.row r (List.mem_of_mem_drop hr), fun hne => ?_, fun e => ?_⟩
  · have hlt : k < rows.length := by
      refine Nat.lt_of_not_le fun hle => hne (List.drop_eq_nil_of_le hle)
    obtain ⟨b, o, e, hb, hc⟩ := w.at_ (fun e => by rw [e] at hlt; simp at hlt)
    refine ⟨b, o + k * n, ?_, hb, fun i r hi j v hj => ?_⟩
    · unfold cutAt; rw [if_neg (by omega), e]; simp [add_mk]
    · rw [List.getElem?_drop] at hi
      have := hc (k + i) r hi j v hj
      rw [Nat.add_mul] at this
      rw [← this]; congr 2; omega
  · unfold cutAt at e
    split at e
    · rw [w.nil e]; simp
    · rw [w.nil (by cases a <;> simp_all)]; simp
/-- more layers behind the others, out of a slice -/
theorem StackO.more {h0 h : Heap} {a : Option Addr} {l c m : Nat} {x : Value} {stk ls : List (List EntV)} {hs ds : List HdE} {K : Option Addr → Nat → Nat → Heap → Prop} (t : StackO h0 h a l c stk hs) (hls : ds.length = ls.length) (hds : ds.length = m)
    (hl : ∀ (i : Nat) (es : List EntV) (d : HdE), ls[i]? = some es → ds[i]? = some d → LayE h0 h d es) (src : srcK h 1 x m (ds.map sliceE).flatten) (room : l + m < 1099511627776)
    (hK : ∀ a' c' h', StackO h0 h' a' (l + m) c' (stk ++ ls) (hs ++ ds) → K a' (l + m) c' h') : appK Tryd.prog 26 h a l c x K := by
  have hrow : ∀ r ∈ ds.map sliceE, r.length = 1 := by
    intro r hr
    obtain ⟨d, _, rfl⟩ := List.mem_map.1 hr
    rfl
  refine appK_R (new := ds.map sliceE) (m := m) size26 t.rows src (by rw [List.length_map, hds]) hrow (by
    intro r hr u hu
    obtain ⟨d, _, rfl⟩ := List.mem_map.1 hr
    simp [sliceE] at hu; subst hu; rfl) (by rw [bytes26]; omega) z26 fun a' c' h' o' k' _ => hK a' c' h' ⟨by rw [List.length_append, List.length_append, t.len, hls], by rw [List.map_append]; exact o', fun i es d h1 h2 => ?_⟩
  have keepL : ∀ {d : HdE} {es : List EntV}, LayE h0 h d es → LayE h0 h' d es := fun g => by
    refine ⟨g.1, g.2.1, g.2.2.imp (fun o => own_keepT o k' (fun k hk e => ?_) fun k cs hbk e => ?_) id⟩
    · have := t.rows.ext.size
      rcases e with e | e
      · have := (t.rows.lt k e).1; omega
      · omega
    · rcases e with e | e
      · exact absurd (own_elem t.rows e hbk).1 (by decide)
      · have := blk_lt hbk; omega
  have hlen := t.len
  by_cases hi : i < stk.length
  · rw [List.getElem?_append_left (by omega)] at h1 h2
    exact keepL (t.lays i es d h1 h2)
  · rw [List.getElem?_append_right (by omega)] at h1 h2
    rw [hlen] at h2
    exact keepL (hl _ es d h1 h2)
theorem StackE.take {h : Heap} {a : Option Addr} {l c : Nat} {stk : List (List EntV)} {hs : List HdE} (t : StackE h a l c stk hs) (k : Nat) (hk : k ≤ l) : StackE h a k c (stk.take k) (hs.take k) := by
  refine ⟨by rw [List.length_take, List.length_take, t.len], by rw [List.map_take]; exact t.rows.take k hk, fun i es d h1 h2 => ?_⟩
  rw [List.getElem?_take] at h1 h2
  split at h1
  · rename_i hik
    rw [if_pos hik] at h2
    exact t.lays i es d h1 h2
  · cases h1
/-! ### the plain law -/
theorem tree_good {S : Sta} {es : List EntV} (o : StOK S) (h : Lists S es) (hl : es.length ≤ 64) : Good es := by
  refine ⟨hl, fun e he => o.ok _ _ ((h.2 e).1 he), ?_⟩
  refine (List.Pairwise.and_mem.1 h.1).imp fun {e f} hef => ⟨hef.2.2, fun hh => ?_⟩
  have he := (h.2 e).1 hef.1
  have hf := (h.2 f).1 hef.2.1
  cases hb : inP (lst e.path) (lst f.path) with
  | false => rfl
  | true =>
    obtain ⟨d, hd, kd⟩ := o.tree _ _ e.path hf hb (fun e2 => ltP_irr _ (by have := hef.2.2; rw [e2] at this; exact this)) (o.ne he).1
    rw [he] at hd
    obtain rfl := Option.some.inj hd
    have hk := o.kind _ _ he
    unfold hides at hh
    omega
theorem fold_point : ∀ (t : List (List EntV)) {A B : Sta} {p : ByteArray}, A p = B p → (t.foldl stepL A) p = (t.foldl stepL B) p
  | [], A, B, p, h => h
  | l :: t, A, B, p, h => fold_point t (A := stepL A l) (B := stepL B l) (by unfold stepL; rw [h])
/-- a tree, as one layer, is what it was -/
theorem tree_step {S : Sta} {es : List EntV} (o : StOK S) (h : Lists S es) {p : ByteArray} (hp : lst p ≠ []) : stepL noS es p = S p := by
  unfold stepL
  cases hf : es.find? (fun e => decide (e.path = p)) with
  | some e =>
    have hm := (h.2 e).1 (List.mem_of_find?_eq_some hf)
    have hep : e.path = p := by simpa using List.find?_some hf
    rw [hep] at hm
    have hk := o.kind _ _ hm
    simp only
    rw [if_neg (by omega), hm]
    unfold unB
    rw [if_neg (by omega)]
  | none =>
    have hn : S p = none := by
      cases hs : S p with
      | none => rfl
      | some e =>
        have hep := o.path _ _ hs
        have hm := (h.2 e).2 (by rw [hep]; exact hs)
        rw [List.find?_eq_none] at hf
        exact absurd hep (by simpa using hf e hm)
    simp only
    rw [hn]
    have hw : es.any (fun e => inB p e.path && decide (e.kind ≠ 3)) = false := by
      rw [List.any_eq_false]
      intro f hfm
      have hfs := (h.2 f).1 hfm
      cases hb : inB p f.path with
      | false => simp
      | true =>
        exfalso
        by_cases e2 : p = f.path
        · rw [← e2, hn] at hfs; cases hfs
        · obtain ⟨d, hd, _⟩ := o.tree _ _ p hfs hb e2 hp
          rw [hn] at hd; cases hd
    rw [hw]
    unfold overS noS
    simp
theorem flat_law {stk : List (List EntV)} {k : Nat} {all hd flat : List EntV} {g : Nat} (hl : stk.length ≤ 16) (ga : ∀ l ∈ stk, Good l) (h1 : Lists (topS stk) all) (h2 : Lists (topS (stk.take k)) hd) (h64 : hd.length ≤ 64) (hk : 0 < k) (hkl : k ≤ stk.length) (h3 : MergeR ([hd] ++ stk.drop k) flat g) : g = 0 ∧ flat = all := by
  have gt : ∀ l ∈ stk.take k, Good l := fun l h => ga l (List.mem_of_mem_take h)
  have gd : ∀ l ∈ stk.drop k, Good l := fun l h => ga l (List.mem_of_mem_drop h)
  have gh := tree_good (top_ok gt) h2 h64
  have gall : ∀ l ∈ [hd] ++ stk.drop k, Good l := fun l h => by
    rcases List.mem_append.1 h with h | h
    · rw [List.mem_singleton] at h; subst h; exact gh
    · exact gd l h
  have ref : MergeR stk all 0 := .inr (.inr ⟨hl, ga, rfl, h1⟩)
  have hlen : ([hd] ++ stk.drop k).length ≤ 16 := by rw [List.length_append, List.length_drop]; simp; omega
  refine h3.same ref hlen hl ⟨fun _ => ga, fun _ => gall⟩ fun _ p hp => ?_
  have e1 : stk = stk.take k ++ stk.drop k := (List.take_append_drop k stk).symm
  rw [seenS_app]
  conv => rhs; rw [e1, seenS_app]
  refine fold_point _ ?_
  show stepL noS hd p = _
  rw [tree_step (top_ok gt) h2 hp, top_seen gt hp]
theorem i64_rng {z : Int} (hw : (Lit.int .i64 z).wf = true) : -9223372036854775808 ≤ z ∧ z < 9223372036854775808 := by
  simp [Lit.wf, IntKind.min, IntKind.max, IntKind.signed, IntKind.bits] at hw
  omega
theorem flat_ok (a : Option Addr) (l c : Nat) (stk : List (List EntV)) (hs : List HdE) (x1 : Int) (hx : -9223372036854775808 ≤ x1 ∧ x1 < 9223372036854775808) (h : Heap) (t : StackE h a l c stk hs) (hm : MaxAt h) :
    HEnt Tryd.prog 4 #[.slice a l c, .int .i64 x1] h (yes h) := by
  have hl := t.length
  refine F4_ent _ _ _ _ _ _ ?_
  unfold F4
  refine HEnt.use (few_ok a l c stk hs h t) ?_
  rintro _ h1 ⟨rfl, rfl⟩
  refine ⟨_, rfl, br_of (fun _ => ?_) (fun hf => ?_)⟩
  · unfold F4_k1
    exact br_of (fun _ => works_yes (Ext.refl h1) hm) (fun e => by cases e)
  unfold F4_k1
  refine br_of (fun _ => works_yes (Ext.refl h1) hm) (fun g16 => ?_)
  have g16 : l ≤ 16 := by
    have : ¬ (l : Int) > 16 := by simpa using g16
    omega
  -- the place
  have w1 : IntKind.i64.wrap ((l : Int) + 1) = (l : Int) + 1 := i64_lt _ (by omega) (by omega)
  have b1 := Int.lt_tmod_of_pos x1 (show (0 : Int) < (l : Int) + 1 by omega)
  have b2 := Int.tmod_lt_of_pos x1 (show (0 : Int) < (l : Int) + 1 by omega)
  obtain ⟨k, hk, hkl⟩ : ∃ k : Nat, (IntKind.i64.wrap ((IntKind.i64.wrap ((x1.tmod (IntKind.i64.wrap ((l : Int) + 1))) + (l : Int))) + 1)).tmod (IntKind.i64.wrap ((l : Int) + 1)) = k ∧ k ≤ l := by
    rw [w1, i64_lt (x1.tmod ((l : Int) + 1) + (l : Int)) (by omega) (by omega), i64_lt (x1.tmod ((l : Int) + 1) + (l : Int) + 1) (by omega) (by omega)]
    have b3 := Int.tmod_nonneg (a := x1.tmod ((l : Int) + 1) + l + 1) ((l : Int) + 1) (by omega)
    have b4 := Int.tmod_lt_of_pos (x1.tmod ((l : Int) + 1) + l + 1) (show (0 : Int) < (l : Int) + 1 by omega)
    exact ⟨((x1.tmod ((l : Int) + 1) + l + 1).tmod ((l : Int) + 1)).toNat, by omega, by omega⟩
  unfold F4_k2
  rw [hk, w1]
  refine ⟨by omega, by omega, HEnt.use (merge_ok a l c stk hs h1 t hm) ?_⟩
  rintro _ h2 ⟨a2, l2, c2, all, e, rfl, mr, o2⟩
  have x2 := o2.ext
  have hcap := t.rows.cap
  refine ⟨_, _, _, _, rfl, by omega, by omega, by omega, ?_⟩
  rw [cutAt0, Int.toNat_natCast, Nat.sub_zero, Nat.sub_zero]
  refine HEnt.use (merge_ok a k c (stk.take k) (hs.take k) h2 ((t.take k hkl).grow x2) (hm.ext x2)) ?_
  rintro _ h3 ⟨a3, l3, c3, hd, f, rfl, mr3, o3⟩
  have x3 := x2.trans o3.ext
  have hlen3 := o3.len
  rw [ents_len] at hlen3
  have wk : F4_k3 a l c k a2 l2 c2 a3 l3 c3 true h3 (yes h1) := by
    unfold F4_k3
    exact br_of (fun _ => works_yes x3 hm) (fun e => by cases e)
  refine ⟨_, _, _, _, rfl, br_of (fun _ => wk) (fun g1 => br_of (fun _ => wk) (fun g2 => br_of (fun _ => wk) (fun g3 => ?_)))⟩
  have g1 : (e : Int) = 0 := by simpa using g1
  have g2 : (f : Int) = 0 := by simpa using g2
  have g3 : l3 ≤ 64 := by
    have : ¬ (l3 : Int) > 64 := by simpa using g3
    omega
  unfold F4_k3
  refine br_of (fun _ => works_yes x3 hm) (fun g4 => ?_)
  have hk0 : 0 < k := by
    have : ¬ (k : Int) = 0 := by simpa using g4
    omega
  obtain ⟨ga, la⟩ : (∀ l ∈ stk, Good l) ∧ Lists (topS stk) all := by
    rcases mr with ⟨_, b, _⟩ | ⟨_, _, b, _⟩ | ⟨_, b1, _, b2⟩
    · omega
    · omega
    · exact ⟨b1, b2⟩
  have lh : Lists (topS (stk.take k)) hd := by
    rcases mr3 with ⟨_, b, _⟩ | ⟨_, _, b, _⟩ | ⟨_, b1, _, b2⟩
    · omega
    · omega
    · exact b2
  have trh := mr3.tree
  unfold F4_k4
  refine ⟨by decide, newK_intro fun h4 hb4 x4 z4 => ⟨by omega, by omega, ?_⟩⟩
  rw [Int.toNat_natCast]
  have x24 := o3.ext.trans x4
  have o4 : StackO h2 h4 (some (at0 h3.size)) 1 1 [hd] [⟨a3, l3, c3⟩] := by
    refine ⟨rfl, OwnR.new_ (rows := [sliceE ⟨a3, l3, c3⟩]) hb4 x24 o3.ext.size (by simp [sliceE]) rfl, fun i es d e1 e2 => ?_⟩
    match i, e1, e2 with
    | 0, e1, e2 => cases e1; cases e2; exact ⟨trh.1, (by show l3 < 2 ^ 40; omega), .inl (o3.grow x4)⟩
  have hdl := t.len
  refine o4.more (m := l - k) (ls := stk.drop k) (ds := hs.drop k) (by rw [List.length_drop, List.length_drop, t.len]) (by rw [List.length_drop]; omega) (fun i es d e1 e2 => ?_) ?_ (by omega) fun a5 c5 h5 o5 => ?_
  · rw [List.getElem?_drop] at e1 e2
    obtain ⟨q1, q2, q3⟩ := (t.grow x2).lays _ es d e1 e2
    exact ⟨q2, q3, .inr q1⟩
  · have := (tab_drop (t.grow (x2.trans x24)).rows k hkl).src
    rw [← List.map_drop] at this
    exact this
  refine HEnt.use (merge_ok a5 _ c5 _ _ h5 o5.stack (hm.ext (x2.trans o5.rows.ext))) ?_
  rintro _ h6 ⟨a6, l6, c6, flat, g, rfl, mr6, o6⟩
  obtain ⟨rfl, rfl⟩ := flat_law (by omega) ga la lh (by omega) hk0 (by omega) mr6
  have x26 := o5.rows.ext.trans o6.ext
  have x6 := x2.trans x26
  have hlen6 := o6.len
  rw [ents_len] at hlen6
  have tra := mr.tree
  refine ⟨_, _, _, _, rfl, br_of (fun _ => ?_) (fun e => by cases e)⟩
  refine HEnt.use (same_ok a6 l6 c6 flat a2 l2 c2 flat h6 o6.rows (o2.grow x26).rows (by omega)) ?_
  rintro _ h7 ⟨⟨b, rfl, hb⟩, rfl⟩
  exact ⟨b, rfl, br_of (fun _ => works_yes x6 hm) (fun e => by rw [hb.2 rfl] at e; cases e)⟩
end Go.Proofs.YtcfegbpoailbdaaDoor
