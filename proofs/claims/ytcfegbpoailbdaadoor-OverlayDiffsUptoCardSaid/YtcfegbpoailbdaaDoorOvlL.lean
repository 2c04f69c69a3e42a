import Derived.Test.YtcfegbpoailbdaaDoorOvlJ

namespace Go.Proofs.YtcfegbpoailbdaaDoor
open Go.Vc Go.Sha Go.Trail Go.Lay
set_option linter.unusedVariables false
set_option linter.unusedSimpArgs false
set_option maxRecDepth 20000
theorem size38 : Tryd.prog.cellsOf 38 = 4 := by kernel_rfl
theorem bytes38' : Tryd.prog.bytesOf 38 = 48 := by kernel_rfl
theorem z38 : (((Tryd.prog.info? 38).bind (·.zero)).getD undef).cells.size = 4 := by kernel_rfl
theorem zeroC38 : (zeroC Tryd.prog 38).size = 4 := by kernel_rfl
theorem nodup_len {α : Type} [DecidableEq α] : ∀ {l m : List α}, l.Nodup → (∀ x ∈ l, x ∈ m) → l.length ≤ m.length
  | [], m, _, _ => Nat.zero_le _
  | a :: t, m, hn, hs => by
    rw [List.nodup_cons] at hn
    have ha := hs a (by simp)
    have := nodup_len (l := t) (m := m.erase a) hn.2 fun x hx => (List.mem_erase_of_ne (fun e => by subst e; exact hn.1 hx)).2 (hs x (List.mem_cons_of_mem _ hx))
    rw [List.length_erase_of_mem ha] at this
    have := List.length_pos_of_mem ha
    rw [List.length_cons]; omega
/-- one's own row of entries, one more -/
theorem own_app {h0 h : Heap} {a : Option Addr} {l c b : Nat} {es : List EntV} {e : EntV} {K : Option Addr → Nat → Nat → Heap → Prop} (o : OwnR 38 4 h0 h a l c (ents es)) (hb : h[b]? = some (.cells (entA e) 38 (0, 0))) (room : l < 1099511627776)
    (hK : ∀ a' c' h', OwnR 38 4 h0 h' a' (l + 1) c' (ents (es ++ [e])) → Keep (fun k => a = some ⟨k, 0, none⟩ ∨ h.size ≤ k) h h' → K a' (l + 1) c' h') : appK Tryd.prog 38 h a l c (.slice (some (at0 b)) 1 1) K := by
  refine appK_R (new := [entC e]) (m := 1) size38 o (srcK_slice rfl (fun ad e' => by cases e'; exact cells_blk0 hb) (by rintro ⟨⟩)) rfl (by intro r hr; simp at hr; subst hr; rfl) (by intro r hr; simp at hr; subst hr; exact entC_one e) (by rw [bytes38']; omega) z38 fun a' c' h' o' k' _ => hK a' c' h' ?_ k'
  rw [ents, List.map_append]; exact o'
theorem own_not_obj {h0 h : Heap} {a : Option Addr} {l c k : Nat} {es : List EntV} (o : OwnR 38 4 h0 h a l c (ents es)) (hk : ∀ cs t fr, h[k]? ≠ some (.cells cs t fr)) : ¬ (a = some ⟨k, 0, none⟩) := by
  intro e
  rcases o.own with ⟨e2, _⟩ | ⟨b, cs, e2, _, hb, _⟩
  · rw [e] at e2; cases e2
  · rw [e] at e2; injection e2 with e2; injection e2 with e2
    subst e2; exact hk _ _ _ hb
theorem iter_objs {enc : ByteArray → Value} {ok : ByteArray → Prop} {h : Heap} {ri r : Nat} {kvs : List (ByteArray × Value)} {left : ByteArray → Bool} (it : IterAt enc ok h ri r kvs left) : (∀ cs t fr, h[ri]? ≠ some (.cells cs t fr)) ∧ ∀ cs t fr, h[r]? ≠ some (.cells cs t fr) := by
  obtain ⟨⟨es, clock, since, seen, last, h1, h2, h3, h4, h5, _⟩, _⟩ := it
  exact ⟨fun _ _ _ e => (by rw [h5] at e; cases e), fun _ _ _ e => (by rw [h1] at e; cases e)⟩
theorem sorted_ok (r : Nat) (S : Sta) (ps : List ByteArray) (h : Heap) (m : MapS h r S) (hP : ∀ p e, S p = some e → e.path = p ∧ e.path.size < 2 ^ 62) (hps : ∀ p e, S p = some e → p ∈ ps) (hlen : ps.length < 1099511627776) :
    HEnt Tryd.prog 28 #[.map (some r)] h fun v h' => ∃ a l c es, v = .slice a l c ∧ Lists S es ∧ OwnR 38 4 h h' a l c (ents es) := by
  obtain ⟨kvs, m0, l0⟩ := m
  refine F28_ent _ _ _ ?_
  unfold F28
  refine semK_range Tryd.underlying55 m0 fun h1 x1 z1 it1 => ⟨h.size, rfl, ?_⟩
  have hr0 := m0.lt
  refine ⟨fun a l c hh => ∃ left es, IterAt Value.string (fun _ : ByteArray => True) hh h.size r kvs left ∧ OwnR 38 4 h hh a l c (ents es) ∧ (es.map EntV.path).Nodup ∧ ∀ e, e ∈ es ↔ S e.path = some e ∧ left e.path = false,
    fun _ _ _ hh => leftN hh h.size r, ⟨_, [], it1, OwnR.nil _ _ x1, by simp, by simp⟩, ?_⟩
  rintro h2 a l c ⟨left, es, it, o, hnd, hmem⟩
  have hlenE := o.len
  rw [ents_len] at hlenE
  have room : l < 1099511627776 := by
    have := nodup_len (l := es.map EntV.path) (m := ps) hnd fun p hp => by
      obtain ⟨e, he, rfl⟩ := List.mem_map.1 hp
      exact hps _ e ((hmem e).1 he).1
    rw [List.length_map] at this
    omega
  unfold F28_b1
  refine semK_next it 0 (fun hov => .inl ⟨rfl, ?_⟩) fun pr h3 hpm hleft o3 hlt on => .inr ⟨_, _, rfl, ?_⟩
  · have hall : ∀ e, e ∈ es ↔ S e.path = some e := fun e => by
      rw [hmem]
      refine ⟨fun h => h.1, fun he => ⟨he, ?_⟩⟩
      have : lookA kvs e.path = some (eV e) := by rw [l0, he]; rfl
      exact hov _ (lookA_mem this)
    unfold F28_k2
    refine HEnt.use (sort_ok a l c es h h2 o (fun e he => (hP _ e ((hall e).1 he)).2) (by omega)) ?_
    rintro _ h4 ⟨rfl, es', hp, hso, o4, k4⟩
    refine ⟨rfl, a, l, c, es', rfl, ⟨?_, fun e => by rw [hp.mem_iff]; exact hall e⟩, o4⟩
    have hnd' : (es'.map EntV.path).Nodup := (hp.map _).nodup_iff.2 hnd
    rw [List.Nodup, List.pairwise_map] at hnd'
    refine (hso.and hnd').imp fun {e f} hef => ?_
    unfold ltP
    have hne : lst e.path ≠ lst f.path := fun h => hef.2 (lst_inj h)
    have := lexK_total _ _ hne
    rw [hef.1] at this
    cases hl : lexK (lst e.path) (lst f.path) with
    | true => rfl
    | false => exact absurd hl this
  · obtain ⟨e, he, hpe⟩ : ∃ e : EntV, S pr.1 = some e ∧ pr.2 = eV e := by
      have h1 := mem_lookA it.keys (show (pr.1, pr.2) ∈ kvs from hpm)
      rw [l0] at h1
      cases hs : S pr.1 with
      | none => rw [hs] at h1; cases h1
      | some e => rw [hs] at h1; exact ⟨e, rfl, (Option.some.inj h1).symm⟩
    have hep := (hP _ e he).1
    have io := iter_objs it
    have o3' : OwnR 38 4 h h3 a l c (ents es) := o.keep (o3.keep (S := (· = h.size)) rfl) (fun k hk e => by omega) fun k e2 e3 => by
      subst e3
      exact own_not_obj o io.1 e2
    unfold F28_k3
    refine semK_told on ⟨pr.1, e.path, e.kind, e.mode, e.body, by rw [hpe]; rfl, newK_intro fun h4 hb4 x4 z4 => ?_⟩
    refine storeK_whole (vs := entA e) hb4 rfl zeroC38 (entA_one e) fun h5 hb5 o5 => ?_
    have x35 : Ext h3 h5 := Keep.since x4 (o5.keep rfl : Keep (· = h3.size) h4 h5) fun j hj e => by omega
    have ec := ent_cells hb5
    refine ⟨e.path, e.kind, e.mode, e.body, ec.1, ec.2.1, ec.2.2.1, ec.2.2.2, rfl, rfl, by decide, newK_intro fun h6 hb6 x6 z6 => ?_⟩
    have x36 := x35.trans x6
    refine own_app (e := e) (o3'.grow x36) hb6 room fun a' c' h7 o7 k7 => ?_
    have it6 := on.at_.grow x36
    have lt6 := it6.lt
    have n1 : ¬ (a = some ⟨h.size, 0, none⟩ ∨ h6.size ≤ h.size) := fun hh => by
      rcases hh with hh | hh
      · exact own_not_obj (o3'.grow x36) (iter_objs it6).1 hh
      · omega
    have n2 : ¬ (a = some ⟨r, 0, none⟩ ∨ h6.size ≤ r) := fun hh => by
      rcases hh with hh | hh
      · exact own_not_obj (o3'.grow x36) (iter_objs it6).2 hh
      · omega
    refine ⟨⟨_, es ++ [e], it6.keep k7 n1 n2, o7, ?_, fun f => ?_⟩, ?_⟩
    · rw [List.map_append, List.nodup_append]
      refine ⟨hnd, by simp, fun p hp q hq => ?_⟩
      simp at hq
      subst hq
      rintro rfl
      obtain ⟨f, hf, hfe⟩ := List.mem_map.1 hp
      have := ((hmem f).1 hf).2
      rw [hfe, hep, hleft] at this; cases this
    · rw [List.mem_append, List.mem_singleton, hmem]
      constructor
      · rintro (⟨h8, h9⟩ | rfl)
        · exact ⟨h8, by simp [h9]⟩
        · rw [hep]; exact ⟨he, by simp⟩
      · rintro ⟨h8, h9⟩
        by_cases hfe : f.path = pr.1
        · rw [hfe, he] at h8
          exact .inr (Option.some.inj h8).symm
        · exact .inl ⟨h8, by simpa [hfe] using h9⟩
    · show leftN h7 h.size r < leftN h2 h.size r
      have e1 : leftN h6 h.size r = leftN h3 h.size r := leftN_same (x36.block _ on.at_.lt.1) (x36.block _ on.at_.lt.2.1)
      have e2 : leftN h7 h.size r = leftN h6 h.size r := leftN_same (k7.block _ lt6.1 n1) (k7.block _ lt6.2.1 n2)
      omega
end Go.Proofs.YtcfegbpoailbdaaDoor

namespace Go.Proofs.YtcfegbpoailbdaaDoor
open Go.Vc Go.Sha Go.Trail Go.Lay
set_option linter.unusedVariables false
set_option linter.unusedSimpArgs false
set_option maxRecDepth 20000
structure HdE where
  a : Option Addr
  l : Nat
  c : Nat
def sliceE (d : HdE) : List Value := [.slice d.a d.l d.c]
/-- a stack of layers in memory -/
structure StackE (h : Heap) (a : Option Addr) (l c : Nat) (stk : List (List EntV)) (hs : List HdE) : Prop where
  len : hs.length = stk.length
  rows : Tab 1 h a l c (hs.map sliceE)
  lays : ∀ (i : Nat) (es : List EntV) (d : HdE), stk[i]? = some es → hs[i]? = some d → Tab 4 h d.a d.l d.c (ents es) ∧ Small es ∧ d.l < 2 ^ 40
theorem StackE.grow {h h' : Heap} {a : Option Addr} {l c : Nat} {stk : List (List EntV)} {hs : List HdE} (t : StackE h a l c stk hs) (x : Ext h h') : StackE h' a l c stk hs :=
  ⟨t.len, t.rows.grow x, fun i es d h1 h2 => let ⟨g1, g2⟩ := t.lays i es d h1 h2; ⟨g1.grow x, g2⟩⟩
theorem StackE.length {h : Heap} {a : Option Addr} {l c : Nat} {stk : List (List EntV)} {hs : List HdE} (t : StackE h a l c stk hs) : stk.length = l := by
  have := t.rows.len
  rw [List.length_map, t.len] at this; exact this
theorem StackE.get {h : Heap} {a : Option Addr} {l c : Nat} {stk : List (List EntV)} {hs : List HdE} (t : StackE h a l c stk hs) {i : Nat} (hi : i < l) :
    ∃ q es d, stk[i]? = some es ∧ hs[i]? = some d ∧ a = some q ∧ Vc.cell h (q.add (i * 1)) = some (.slice d.a d.l d.c) ∧ Tab 4 h d.a d.l d.c (ents es) ∧ Small es ∧ d.l < 2 ^ 40 := by
  have hl := t.length
  have hle := t.len
  have s1 : stk[i]? = some (stk[i]'(by omega)) := List.getElem?_eq_getElem (by omega)
  have d1 : hs[i]? = some (hs[i]'(by omega)) := List.getElem?_eq_getElem (by omega)
  have hz : (hs.map sliceE)[i]? = some (sliceE (hs[i]'(by omega))) := by rw [List.getElem?_map, d1]; rfl
  obtain ⟨q, e1, _, hc⟩ := t.rows.get hz
  have := hc 0 _ rfl
  refine ⟨q, _, _, s1, d1, e1, ?_, t.lays i _ _ s1 d1⟩
  unfold Addr.add at this ⊢
  simpa using this
/-- what Merge tells -/
def MergeR (stk : List (List EntV)) (es : List EntV) (e : Nat) : Prop :=
  (stk.length > 16 ∧ e = 3 ∧ es = []) ∨ (stk.length ≤ 16 ∧ (∃ l ∈ stk, ¬ Good l) ∧ e = 5 ∧ es = []) ∨ (stk.length ≤ 16 ∧ (∀ l ∈ stk, Good l) ∧ e = 0 ∧ Lists (topS stk) es)
theorem MergeR.one {stk : List (List EntV)} {es fs : List EntV} {e f : Nat} (h : MergeR stk es e) (h2 : MergeR stk fs f) : e = f ∧ es = fs := by
  rcases h with ⟨a, b, c⟩ | ⟨a, ⟨l, hl, ng⟩, b, c⟩ | ⟨a, g, b, c⟩ <;> rcases h2 with ⟨a2, b2, c2⟩ | ⟨a2, ⟨l2, hl2, ng2⟩, b2, c2⟩ | ⟨a2, g2, b2, c2⟩
  · exact ⟨by rw [b, b2], by rw [c, c2]⟩
  · omega
  · omega
  · omega
  · exact ⟨by rw [b, b2], by rw [c, c2]⟩
  · exact absurd (g2 l hl) ng
  · omega
  · exact absurd (g l2 hl2) ng2
  · exact ⟨by rw [b, b2], c.one c2⟩
theorem insP_len (p : List Nat) : ∀ l, (insP p l).length ≤ l.length + 1
  | [] => by simp [insP]
  | q :: t => by
    unfold insP
    split
    · simp
    · split
      · simp
      · have := insP_len p t
        simp; omega
theorem insAll_len : ∀ ps l, (insAll ps l).length ≤ ps.length + l.length
  | [], l => by simp [insAll]
  | p :: ps, l => by
    have h1 := insAll_len ps (insP p l)
    have h2 := insP_len p l
    show (insAll ps (insP p l)).length ≤ _
    rw [List.length_cons]; omega
theorem layP_len {l : List EntV} (h : l.length ≤ 64) : (layP l).length ≤ 512 := by
  have : ∀ l : List EntV, (layP l).length ≤ l.length * 8 := by
    intro l
    induction l with
    | nil => simp [layP]
    | cons e t ih =>
      unfold layP at ih ⊢
      rw [List.flatMap_cons, List.length_append, heads_len, List.length_cons]
      have := (parts_all (lst e.path)).2
      omega
  have := this l
  omega
theorem allP_len {stk : List (List EntV)} (h : stk.length ≤ 16) (g : ∀ l ∈ stk, Good l) : (allP stk).length ≤ 8192 := by
  have h1 := insAll_len (stk.flatMap layP) []
  have h2 : ∀ s : List (List EntV), (∀ l ∈ s, Good l) → (s.flatMap layP).length ≤ s.length * 512 := by
    intro s
    induction s with
    | nil => intro _; simp
    | cons l t ih =>
      intro hg
      rw [List.flatMap_cons, List.length_append, List.length_cons]
      have := ih fun x hx => hg x (List.mem_cons_of_mem _ hx)
      have := layP_len (hg l (by simp)).1
      omega
  have := h2 stk g
  unfold allP
  rw [List.length_nil] at h1
  omega
theorem topS_snoc {stk : List (List EntV)} {i : Nat} {l : List EntV} (h : stk[i]? = some l) : topS (stk.take (i + 1)) = layS (topS (stk.take i)) l := by
  unfold topS
  rw [take_snoc h, List.foldl_append]; rfl
theorem wrapS (k n : Nat) (h : k < n) (h2 : n < 2 ^ 62) : IntKind.i64.wrap ((k : Int) + 1) = ((k + 1 : Nat) : Int) := by rw [i64_lt _ (by omega) (by omega)]; omega
theorem lessS (k n : Nat) (h : k < n) : ((n : Int) - ((k + 1 : Nat) : Int)).toNat < ((n : Int) - (k : Int)).toNat := by omega
theorem top_all {stk : List (List EntV)} (h : ∀ l ∈ stk, Good l) (p : ByteArray) (e : EntV) (he : topS stk p = some e) : p ∈ (allP stk).map str := by
  have o := top_ok h
  have hn := o.ne he
  have := (ref_lists h).2 e
  have hp := o.path _ _ he
  subst hp
  have hm := this.2 he
  unfold refM at hm
  rw [List.mem_filterMap] at hm
  obtain ⟨q, hq, hs⟩ := hm
  have hql := all_lt h hq
  have : e.path = str q := by
    refine o.path (str q) e ?_
    rw [top_seen h (by rw [hql.1]; exact hql.2)]; exact hs
  rw [this]
  exact List.mem_map_of_mem (f := str) hq
theorem size_top {stk : List (List EntV)} (h : ∀ l ∈ stk, Good l) {p : ByteArray} {e : EntV} (he : topS stk p = some e) : e.path.size < 2 ^ 20 := by
  have o := top_ok h
  have := (o.ne he).2
  have h1 := clean_len (lst p)
  rw [clean_good this] at h1
  rw [o.path _ _ he, ← lst_len]
  have h1 : (lst p).length ≤ 200 := h1
  omega
theorem merge_ok (a : Option Addr) (l c : Nat) (stk : List (List EntV)) (hs : List HdE) (h : Heap) (t : StackE h a l c stk hs) (hm : MaxAt h) :
    HEnt Tryd.prog 14 #[.slice a l c] h fun v h' => ∃ a' l' c' es e, v = .tuple #[.slice a' l' c', .int .i64 ((e : Nat) : Int)] ∧ MergeR stk es e ∧ OwnR 38 4 h h' a' l' c' (ents es) := by
  have hl := t.length
  refine F14_ent _ _ _ _ _ ?_
  unfold F14
  refine br_of (fun g => ?_) (fun g => ?_)
  · have g : (l : Int) > 16 := by simpa using g
    exact ⟨none, 0, 0, [], 3, rfl, .inl ⟨by omega, rfl, rfl⟩, OwnR.nil _ _ (Ext.refl h)⟩
  have hl16 : l ≤ 16 := by
    have : ¬ (l : Int) > 16 := by simpa using g
    omega
  unfold F14_k1
  refine newK_intro fun h1 hb1 x1 z1 => ?_
  refine ⟨fun x hh => ∃ i : Nat, x = i ∧ i ≤ l ∧ (∀ es ∈ stk.take i, Good es) ∧ MapS hh h.size (topS (stk.take i)) ∧ Ext h hh, fun x _ => ((l : Int) - x).toNat, ⟨0, rfl, by omega, by simp, MapS.new hb1, x1⟩, ?_⟩
  rintro h2 _ ⟨i, rfl, hi, hg, m2, x2⟩
  unfold F14_b2
  refine br_of (fun gi => ?_) (fun gi => ?_)
  rotate_left
  · have hil : i = l := by
      have : ¬ (i : Int) < (l : Int) := by simpa using gi
      omega
    subst hil
    rw [List.take_of_length_le (by omega)] at hg m2
    have o := top_ok hg
    unfold F14_k8
    refine HEnt.use (sorted_ok h.size (topS stk) ((allP stk).map str) h2 m2 (fun p e he => ⟨o.path p e he, by have := size_top hg he; omega⟩) (top_all hg) (by rw [List.length_map]; have := allP_len (by omega) hg; omega)) ?_
    rintro _ h3 ⟨a', l', c', es, rfl, hls, o3⟩
    exact ⟨_, _, _, rfl, a', l', c', es, 0, rfl, .inr (.inr ⟨by omega, hg, rfl, hls⟩), ⟨o3.len, o3.cap, o3.row, o3.own.imp id fun ⟨b, cs, e1, e2, e3⟩ => ⟨b, cs, e1, by have := x2.size; omega, e3⟩, x2.trans o3.ext⟩⟩
  have hil : i < l := by
    have : (i : Int) < (l : Int) := by simpa using gi
    omega
  obtain ⟨q, es, d, s1, d1, eq, hc, tl, sm, dl⟩ := (t.grow x2).get hil
  unfold F14_k3
  refine ⟨q, eq, by omega, by omega, d.a, d.l, d.c, by rw [Int.toNat_natCast]; exact hc, HEnt.use (check_ok d.a d.l d.c es h2 tl sm dl (hm.ext x2)) ?_⟩
  rintro _ h3 ⟨rfl, x3⟩
  refine ⟨_, _, rfl, br_of (fun ge => ?_) (fun ge => ?_)⟩
  · have ge : ((checkC es).2 : Int) ≠ 0 := by simpa using ge
    exact ⟨none, 0, 0, [], 5, rfl, .inr (.inl ⟨by omega, ⟨es, List.mem_of_getElem? s1, fun gd => ge (by rw [(good_check es).2 gd]; rfl)⟩, rfl, rfl⟩), OwnR.nil _ _ (x2.trans x3)⟩
  have gd : Good es := by
    have : ((checkC es).2 : Int) = 0 := by simpa using ge
    exact (good_check es).1 (by omega)
  have hel := tl.len
  rw [ents_len] at hel
  unfold F14_k4
  refine ⟨fun x hh => ∃ k : Nat, x = k ∧ k ≤ d.l ∧ MapS hh h.size ((es.take k).foldl putS (topS (stk.take i))) ∧ Ext h hh, fun x _ => ((d.l : Int) - x).toNat, ⟨0, rfl, by omega, m2.grow x3, x2.trans x3⟩, ?_⟩
  rintro h4 _ ⟨k, rfl, hk, m4, x4⟩
  unfold F14_b5
  refine br_of (fun gk => ?_) (fun gk => ?_)
  · have hkl : k < d.l := by
      have : (k : Int) < (d.l : Int) := by simpa using gk
      omega
    have e1 : es[k]? = some (es[k]'(by omega)) := List.getElem?_eq_getElem (by omega)
    generalize es[k]'(by omega) = e at e1
    have tl4 := ((t.grow x4).lays i es d s1 d1).1
    obtain ⟨q2, eq2, _, c0, c1, c2, c3⟩ := ent_get tl4 e1
    unfold F14_k6
    refine ⟨q2, eq2, by omega, by omega, e.path, e.kind, e.mode, e.body, by rw [Int.toNat_natCast]; exact c0, by rw [Int.toNat_natCast]; exact c1, by rw [Int.toNat_natCast]; exact c2, by rw [Int.toNat_natCast]; exact c3, rfl, newK_intro fun h5 hb5 x5 z5 => ?_⟩
    refine storeK_whole (vs := entA e) hb5 rfl zeroC38 (entA_one e) fun h6 hb6 o6 => ?_
    have x46 : Ext h4 h6 := Keep.since x5 (o6.keep rfl : Keep (· = h4.size) h5 h6) fun j hj e => by omega
    have ec := ent_cells hb6
    have x06 := x4.trans x46
    have hpk := stA_path (gd.2.1 e (List.mem_of_getElem? e1))
    refine ⟨e.path, e.kind, e.mode, e.body, ec.1, ec.2.1, ec.2.2.1, ec.2.2.2, rfl, HEnt.use (put_ok h.size _ e h6 (m4.grow x46) (gd.2.1 e (List.mem_of_getElem? e1)) (by have := (sm e (List.mem_of_getElem? e1)).1; omega) (hm.ext x06)) ?_⟩
    rintro _ h7 ⟨rfl, m7, k7⟩
    refine ⟨rfl, ?_⟩
    rw [wrapS k d.l hkl (by omega)]
    refine ⟨⟨k + 1, rfl, by omega, ?_, Keep.since x06 k7 fun j hj e => by omega⟩, lessS k d.l hkl⟩
    rw [take_snoc e1, List.foldl_append]
    exact m7
  · have hkl : k = d.l := by
      have : ¬ (k : Int) < (d.l : Int) := by simpa using gk
      omega
    unfold F14_k7
    rw [wrapS i l hil (by omega)]
    rw [show es.take k = es from List.take_of_length_le (by omega)] at m4
    refine ⟨⟨i + 1, rfl, by omega, fun e he => ?_, ?_, x4⟩, lessS i l hil⟩
    · rw [take_snoc s1, List.mem_append, List.mem_singleton] at he
      rcases he with he | rfl
      · exact hg e he
      · exact gd
    · rw [topS_snoc s1]; exact m4
end Go.Proofs.YtcfegbpoailbdaaDoor
