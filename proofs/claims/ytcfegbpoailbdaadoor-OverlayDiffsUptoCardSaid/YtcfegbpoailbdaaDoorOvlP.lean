import Derived.Test.YtcfegbpoailbdaaDoorOvlO
import Derived.Test.YtcfegbpoailbdaaDoorVopE

namespace Go.Proofs.YtcfegbpoailbdaaDoor
open Go.Vc Go.Sha Go.Trail Go.Lay
set_option linter.unusedVariables false
set_option linter.unusedSimpArgs false
set_option maxRecDepth 20000
theorem ow_since {el : TypeId} {n : Nat} {h0 h1 h : Heap} {a : Option Addr} {l c : Nat} {rows : List (List Value)} (o : OwnR el n h1 h a l c rows) (x : Ext h0 h1) : OwnR el n h0 h a l c rows :=
  ⟨o.len, o.cap, o.row, o.own.imp id fun ⟨b, cs, e1, e2, e3⟩ => ⟨b, cs, e1, Nat.le_trans x.size e2, e3⟩, x.trans o.ext⟩
/-- merge(append(own(stack), ..)) -/
theorem own_merge (a : Option Addr) (l c : Nat) (stk ls : List (List EntV)) (hs ds : List HdE) (m : Nat) (h : Heap) (t : StackE h a l c stk hs) (hl : l ≤ 20) (hm : MaxAt h) (hls : ds.length = ls.length) (hds : ds.length = m) (hm3 : m ≤ 20)
    (hlay : ∀ (i : Nat) (es : List EntV) (d : HdE), ls[i]? = some es → ds[i]? = some d → Small es ∧ d.l < 2 ^ 40 ∧ Tab 4 h d.a d.l d.c (ents es)) {cs : Array Value} (hcs : cs = ((ds.map sliceE).flatten).toArray)
    {K : Option Addr → Nat → Nat → Int → Heap → Prop} (hK : ∀ a' l' c' es (e : Nat) h', MergeR (stk ++ ls) es e → OwnR 38 4 h h' a' l' c' (ents es) → K a' l' c' e h') :
    HCalls Tryd.prog 13 #[Value.slice a l c] h fun r27 h1 => ∃ a27 : Option Addr, ∃ l27 : Nat, ∃ c27 : Nat, r27 = Value.slice a27 l27 c27 ∧ m * 1 ≤ 16777216 ∧ newK h1 (.cells cs 26) fun b29 h2 => appK Tryd.prog 26 h2 a27 l27 c27 (Value.slice (some (at0 b29)) m m) fun a30 l30 c30 h3 => HCalls Tryd.prog 14 #[Value.slice a30 l30 c30] h3 fun r31 h4 => ∃ a31_0 : Option Addr, ∃ l31_0 : Nat, ∃ c31_0 : Nat, ∃ x31_1 : Int, r31 = Value.tuple #[Value.slice a31_0 l31_0 c31_0, Value.int .i64 x31_1] ∧ K a31_0 l31_0 c31_0 x31_1 h4 := by
  subst hcs
  refine HEnt.use (own_ok a l c stk hs h t hl) ?_
  rintro _ h1 ⟨a', c', hs', rfl, o⟩
  refine ⟨_, _, _, rfl, by omega, newK_intro fun h2 hb2 x2 z2 => ?_⟩
  refine (o.grow x2).app hls hds (fun i es d h5 h6 => ?_) hb2 (by omega) fun a3 c3 h3 o3 => ?_
  · obtain ⟨g1, g2, g3⟩ := hlay i es d h5 h6
    exact ⟨g1, g2, .inr g3⟩
  refine HEnt.use (merge_ok a3 _ c3 _ _ h3 o3.stack (hm.ext o3.rows.ext)) ?_
  rintro _ h4 ⟨a4, l4, c4, es, e, rfl, mr, o4⟩
  exact ⟨_, _, _, _, rfl, hK _ _ _ _ _ _ mr (ow_since o4 o3.rows.ext)⟩
/-! ### the plain law -/
theorem topS_nil {stk : List (List EntV)} (g : ∀ l ∈ stk, Good l) {p : ByteArray} (hp : lst p = []) : topS stk p = none := by
  cases h : topS stk p with
  | none => rfl
  | some e => exact absurd hp ((top_ok g).ne h).1
theorem seenS_app (s t : List (List EntV)) : seenS (s ++ t) = t.foldl stepL (seenS s) := by unfold seenS; rw [List.foldl_append]
theorem top_eq {A B : List (List EntV)} (ga : ∀ l ∈ A, Good l) (gb : ∀ l ∈ B, Good l) (h : ∀ p, lst p ≠ [] → seenS A p = seenS B p) (p : ByteArray) : topS A p = topS B p := by
  by_cases hp : lst p = []
  · rw [topS_nil ga hp, topS_nil gb hp]
  · rw [top_seen ga hp, top_seen gb hp, h p hp]
theorem over_twice (x : Option EntV) (hid way : Bool) (p : ByteArray) : overS (overS x hid way p) hid way p = overS x hid way p := by
  have dk : (dirE p).kind = 2 := rfl
  unfold overS
  cases hid with
  | true => cases way <;> rfl
  | false =>
    cases x with
    | none => cases way <;> simp [dk]
    | some e =>
      cases way with
      | false => simp
      | true =>
        by_cases k1 : e.kind = 1
        · simp [k1, dk]
        · simp [k1]
theorem step_twice (S : Sta) (l : List EntV) (p : ByteArray) : stepL (stepL S l) l p = stepL S l p := by
  cases hf : l.find? (fun e => decide (e.path = p)) with
  | some e => simp only [stepL, hf]
  | none => simp only [stepL, hf]; exact over_twice _ _ _ _
theorem step_nil (S : Sta) (p : ByteArray) : stepL S [] p = S p := by
  unfold stepL overS
  cases S p <;> rfl
theorem good_nil : Good [] := ⟨by simp, by simp, List.Pairwise.nil⟩
theorem MergeR.same {A B : List (List EntV)} {es fs : List EntV} {e f : Nat} (ha : MergeR A es e) (hb : MergeR B fs f) (la : A.length ≤ 16) (lb : B.length ≤ 16) (hg : (∀ l ∈ A, Good l) ↔ ∀ l ∈ B, Good l) (h : (∀ l ∈ A, Good l) → ∀ p, lst p ≠ [] → seenS A p = seenS B p) : e = f ∧ es = fs := by
  rcases ha with ⟨a, _⟩ | ⟨_, ⟨l, hl, ng⟩, b, c⟩ | ⟨_, g, b, c⟩
  · omega
  · rcases hb with ⟨a2, _⟩ | ⟨_, _, b2, c2⟩ | ⟨_, g2, _⟩
    · omega
    · exact ⟨by rw [b, b2], by rw [c, c2]⟩
    · exact absurd (hg.2 g2 l hl) ng
  · rcases hb with ⟨a2, _⟩ | ⟨_, ⟨l2, hl2, ng2⟩, _⟩ | ⟨_, g2, b2, c2⟩
    · omega
    · exact absurd (hg.1 g l2 hl2) ng2
    · exact ⟨by rw [b, b2], (c.congr (top_eq g g2 (h g))).one c2⟩
/-! ### the law -/
theorem twice_ok (a : Option Addr) (l c : Nat) (stk : List (List EntV)) (hs : List HdE) (a1 : Option Addr) (l1 c1 : Nat) (top : List EntV) (h : Heap) (t : StackE h a l c stk hs) (w : Tab 4 h a1 l1 c1 (ents top)) (sm : Small top) (hm : MaxAt h) :
    HEnt Tryd.prog 5 #[.slice a l c, .slice a1 l1 c1] h (yes h) := by
  have hl := t.length
  have hl1 := w.len
  rw [ents_len] at hl1
  refine F5_ent _ _ _ _ _ _ _ _ ?_
  unfold F5
  refine HEnt.use (few_ok a l c stk hs h t) ?_
  rintro _ h1 ⟨rfl, rfl⟩
  have k1 : F5_k1 a l c a1 l1 c1 true h1 (yes h1) := by
    unfold F5_k1
    exact br_of (fun _ => works_yes (Ext.refl h1) hm) (fun e => by cases e)
  refine ⟨_, rfl, br_of (fun _ => k1) (fun hf => br_of (fun _ => k1) (fun g12 => ?_))⟩
  have hfew : few stk := by simpa using hf
  have g12 : l ≤ 12 := by
    have : ¬ (l : Int) > 12 := by simpa using g12
    omega
  unfold F5_k1
  refine br_of (fun _ => works_yes (Ext.refl h1) hm) (fun g70 => ?_)
  have g70 : l1 ≤ 70 := by
    have : ¬ (l1 : Int) > 70 := by simpa using g70
    omega
  have htop : Small top ∧ l1 < 2 ^ 40 ∧ Tab 4 h1 a1 l1 c1 (ents top) := ⟨sm, by omega, w⟩
  have hnil : ∀ h : Heap, Small ([] : List EntV) ∧ 0 < 2 ^ 40 ∧ Tab 4 h none 0 0 (ents []) := fun h => ⟨fun e he => absurd he (by simp), by decide, Tab.empty _ _ _ _⟩
  have few12 := hfew.1
  unfold F5_k2
  refine own_merge a l c stk [top] hs [⟨a1, l1, c1⟩] 1 h1 t (by omega) hm rfl rfl (by decide) (fun i es d e1 e2 => ?_) rfl fun a2 l2 c2 once e1 h2 mr1 o1 => ?_
  · match i, e1, e2 with
    | 0, e1, e2 => cases e1; cases e2; exact htop
  have x2 := o1.ext
  refine own_merge a l c stk [top, top] hs [⟨a1, l1, c1⟩, ⟨a1, l1, c1⟩] 2 h2 (t.grow x2) (by omega) (hm.ext x2) rfl rfl (by decide) (fun i es d e1 e2 => ?_) rfl fun a3 l3 c3 twice e2 h3 mr2 o2 => ?_
  · have ht : Small top ∧ l1 < 2 ^ 40 ∧ Tab 4 h2 a1 l1 c1 (ents top) := ⟨sm, by omega, w.grow x2⟩
    match i, e1, e2 with
    | 0, e1, e2 => cases e1; cases e2; exact ht
    | 1, e1, e2 => cases e1; cases e2; exact ht
  have x3 := x2.trans o2.ext
  refine own_merge a l c stk [[], top, []] hs [⟨none, 0, 0⟩, ⟨a1, l1, c1⟩, ⟨none, 0, 0⟩] 3 h3 (t.grow x3) (by omega) (hm.ext x3) rfl rfl (by decide) (fun i es d e1 e2 => ?_) rfl fun a4 l4 c4 empty e3 h4 mr3 o3 => ?_
  · match i, e1, e2 with
    | 0, e1, e2 => cases e1; cases e2; exact hnil h3
    | 1, e1, e2 => cases e1; cases e2; exact ⟨sm, (by show l1 < 2 ^ 40; omega), w.grow x3⟩
    | 2, e1, e2 => cases e1; cases e2; exact hnil h3
  have x4 := x3.trans o3.ext
  have eq1 := mr1.same mr2 (by rw [List.length_append]; simp; omega) (by rw [List.length_append]; simp; omega) (by simp only [List.forall_mem_append, List.forall_mem_cons]; simp) (fun g p hp => by
    rw [seenS_app, seenS_app]
    exact (step_twice _ _ _).symm)
  have eq2 := mr1.same mr3 (by rw [List.length_append]; simp; omega) (by rw [List.length_append]; simp; omega) (by
    simp only [List.forall_mem_append, List.forall_mem_cons]
    simp [good_nil]) (fun g p hp => by
    rw [seenS_app, seenS_app]
    have h1 : stepL (seenS stk) [] = seenS stk := funext (step_nil _)
    show stepL (seenS stk) top p = stepL (stepL (stepL (seenS stk) []) top) [] p
    rw [step_nil, h1])
  obtain ⟨rfl, rfl⟩ := eq1
  obtain ⟨rfl, rfl⟩ := eq2
  have x24 := o2.ext.trans o3.ext
  have hlen := o1.len
  have tr := mr1.tree
  rw [ents_len] at hlen
  refine br_of (fun _ => br_of (fun _ => ?_) (fun e => by simp at e)) (fun e => by simp at e)
  refine HEnt.use (same_ok a2 l2 c2 once a3 l3 c3 once h4 (o1.grow x24).rows (o2.grow o3.ext).rows (by omega)) ?_
  rintro _ h5 ⟨⟨b, rfl, hb⟩, rfl⟩
  refine ⟨b, rfl, br_of (fun _ => ?_) (fun e => by rw [hb.2 rfl] at e; cases e)⟩
  refine HEnt.use (same_ok a2 l2 c2 once a4 l4 c4 once h5 (o1.grow x24).rows o3.rows (by omega)) ?_
  rintro _ h6 ⟨⟨b2, rfl, hb2⟩, rfl⟩
  refine ⟨b2, rfl, br_of (fun _ => works_yes x4 hm) (fun e => by rw [hb2.2 rfl] at e; cases e)⟩
end Go.Proofs.YtcfegbpoailbdaaDoor
