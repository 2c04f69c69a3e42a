import Derived.Test.YtfknpbgneeefjaaDoorPlanT
import Derived.Test.YtfknpbgneeefjaaDoorVppJ

namespace Go.Plan
open Go.Vc Go.Sha Go.Trail Go.Packs Go.Man
set_option linter.unusedVariables false
def putS1 (acc : List (List PackV)) (p : PlanV) : List (List PackV) := if 1 ≤ p.1 ∧ p.1 ≤ 6 then acc.set (p.1 - 1).toNat p.2 else acc
def baseS (sts : List (List PackV)) : List (List PackV) := (List.range 6).map fun i => sts.getD i []
/-- the six stacks with plans put in -/
def putS (sts : List (List PackV)) (pl : List PlanV) : List (List PackV) := pl.foldl putS1 (baseS sts)
theorem putS1_len (acc : List (List PackV)) (p : PlanV) : (putS1 acc p).length = acc.length := by
  unfold putS1; split <;> simp
theorem foldl_len : ∀ (pl : List PlanV) (acc : List (List PackV)), (pl.foldl putS1 acc).length = acc.length
  | [], _ => rfl
  | p :: t, acc => by rw [List.foldl_cons, foldl_len t, putS1_len]
theorem baseS_len (sts : List (List PackV)) : (baseS sts).length = 6 := by simp [baseS]
end Go.Plan
namespace Go.Proofs.YtfknpbgneeefjaaDoor
open Go.Vc Go.Sha Go.Trail Go.Packs Go.Plan Go.Man
set_option linter.unusedVariables false
set_option linter.unusedSimpArgs false
set_option maxRecDepth 20000
def sliceC (d : Hdr) : List Value := [.slice d.a d.l d.c]
theorem size22' : Tryd.prog.cellsOf 22 = 1 := by kernel_rfl
theorem bytes22 : Tryd.prog.bytesOf 22 = 24 := by kernel_rfl
theorem z22 : (((Tryd.prog.info? 22).bind (·.zero)).getD undef).cells.size = 1 := by kernel_rfl
/-- stacks of sound packages, no longer than the law's look -/
def Small (ps : List PackV) : Prop := (∀ p ∈ ps, (p.ok ∧ ∀ r ∈ p.refs, r.ok) ∧ p.refs.length ≤ 20) ∧ ps.length ≤ 20
structure StackTw (h0 h : Heap) (e : Hdr) (sts : List (List PackV)) (hs : List Hdr) : Prop where
  len : hs.length = sts.length
  rows : OwnR 22 1 h0 h e.a e.l e.c (hs.map sliceC)
  packs : ∀ (i : Nat) (ps : List PackV) (d : Hdr), sts[i]? = some ps → hs[i]? = some d → ∃ es, TwinAt h0 h d ps es
theorem StackTw.nil {h0 h : Heap} (x : Ext h0 h) : StackTw h0 h ⟨none, 0, 0⟩ [] [] := ⟨rfl, OwnR.nil _ _ x, fun i p d hp _ => by simp at hp⟩
theorem StackTw.length {h0 h : Heap} {e : Hdr} {sts : List (List PackV)} {hs : List Hdr} (t : StackTw h0 h e sts hs) : sts.length = e.l := by
  have := t.rows.len
  rw [List.length_map, t.len] at this; exact this
theorem StackTw.ext {h0 h : Heap} {e : Hdr} {sts : List (List PackV)} {hs : List Hdr} (t : StackTw h0 h e sts hs) : Ext h0 h := t.rows.ext
theorem StackTw.grow {h0 h h' : Heap} {e : Hdr} {sts : List (List PackV)} {hs : List Hdr} (t : StackTw h0 h e sts hs) (x : Ext h h') : StackTw h0 h' e sts hs :=
  ⟨t.len, t.rows.grow x, fun i p d hp hd => let ⟨es, g⟩ := t.packs i p d hp hd; ⟨es, g.grow x⟩⟩
theorem StackTw.since {h0 h1 h : Heap} {e : Hdr} {sts : List (List PackV)} {hs : List Hdr} (t : StackTw h1 h e sts hs) (x : Ext h0 h1) : StackTw h0 h e sts hs :=
  ⟨t.len, t.rows.since x, fun i p d hp hd => let ⟨es, g⟩ := t.packs i p d hp hd; ⟨es, g.since x⟩⟩
theorem twin_hdr {h0 h : Heap} {e : Hdr} {ps : List PackV} {es : List Hdr} (t : TwinAt h0 h e ps es) (s : Small ps) : e.l ≤ 20 ∧ ∀ x ∈ es, x.l ≤ 20 := by
  refine ⟨by have := t.length; have := s.2; omega, fun x hx => ?_⟩
  obtain ⟨i, hi⟩ := List.getElem?_of_mem hx
  have hlt := (List.getElem?_eq_some_iff.1 hi).1
  have hl := t.len
  have p1 : ps[i]? = some (ps[i]'(by omega)) := List.getElem?_eq_getElem (by omega)
  have o := (t.refs i _ x p1 hi).len
  have := (s.1 _ (List.mem_of_getElem? p1)).2
  rw [List.length_map] at o
  omega
theorem StackTw.stacks {h0 h : Heap} {e : Hdr} {sts : List (List PackV)} {hs : List Hdr} (t : StackTw h0 h e sts hs) (s : ∀ ps ∈ sts, Small ps) : StacksAt h e.a e.l e.c sts hs :=
  ⟨t.len, t.rows.rows, fun i ps d hp hd => by
    obtain ⟨es, g⟩ := t.packs i ps d hp hd
    have sm := s ps (List.mem_of_getElem? hp)
    have b := twin_hdr g sm
    exact ⟨es, g.packs fun p hp => (sm.1 p hp).1, by omega, fun x hx => by have := b.2 x hx; omega⟩⟩
theorem StackTw.keepT {S : Nat → Prop} {h0 h h' : Heap} {e : Hdr} {sts : List (List PackV)} {hs : List Hdr} (t : StackTw h0 h e sts hs) (x : Keep S h h') (h1 : ∀ k, k < h0.size → ¬ S k) (h2 : ∀ k cs el, h[k]? = some (.cells cs el (0, 0)) → (el = 22 ∨ el = 61 ∨ el = 75) → ¬ S k) : StackTw h0 h' e sts hs :=
  ⟨t.len, t.rows.keepT x h1 fun k cs g => h2 k cs 22 g (.inl rfl), fun i p d hp hd => by
    obtain ⟨es, g⟩ := t.packs i p d hp hd
    exact ⟨es, g.keepT x h1 fun k cs el gg hel => h2 k cs el gg (.inr hel)⟩⟩
theorem StackTw.app {h0 h : Heap} {e d : Hdr} {sts : List (List PackV)} {hs es : List Hdr} {ps : List PackV} {b : Nat} {K : Option Addr → Nat → Nat → Heap → Prop} (t : StackTw h0 h e sts hs) (hd : TwinAt h0 h d ps es) (hb : h[b]? = some (.cells (sliceC d).toArray 22 (0, 0))) (room : e.l < 1099511627776)
    (hK : ∀ e' h', e'.l = e.l + 1 → StackTw h0 h' e' (sts ++ [ps]) (hs ++ [d]) → K e'.a e'.l e'.c h') : appK Tryd.prog 22 h e.a e.l e.c (.slice (some (at0 b)) 1 1) K := by
  refine appK_R (new := [sliceC d]) (m := 1) size22' t.rows (srcK_slice rfl (fun ad e => by cases e; exact cells_blk0 hb) (by rintro ⟨⟩)) rfl (by intro r hr; simp at hr; subst hr; rfl) (by intro r hr u hu; simp at hr; subst hr; simp [sliceC] at hu; subst hu; rfl) (by rw [bytes22]; omega) z22 fun a' c' h' o' k' _ => hK ⟨a', e.l + 1, c'⟩ h' rfl ⟨by simp [t.len], by rw [List.map_append]; exact o', fun i q x hq hx => ?_⟩
  have keepR : ∀ {d : Hdr} {ps : List PackV} {es : List Hdr}, TwinAt h0 h d ps es → TwinAt h0 h' d ps es := fun o => by
    refine o.keepT k' (fun k hk e => ?_) (fun k cs el g hel e => ?_)
    · rcases e with e | e
      · have := (own_type t.rows e).1; omega
      · have := t.rows.ext.size; omega
    · rcases e with e | e
      · have := (own_type t.rows e).2.2 _ _ g
        rcases hel with rfl | rfl <;> exact absurd this (by decide)
      · have := blk_lt g; omega
  have hlen := t.len
  by_cases hi : i < sts.length
  · rw [List.getElem?_append_left (by omega)] at hq hx
    obtain ⟨es', g⟩ := t.packs i q x hq hx
    exact ⟨es', keepR g⟩
  · have hi2 := (List.getElem?_eq_some_iff.1 hq).1
    simp at hi2
    rw [List.getElem?_append_right (by omega), show i - sts.length = 0 by omega] at hq
    rw [List.getElem?_append_right (by omega), show i - hs.length = 0 by omega] at hx
    simp at hq hx
    subst hq; subst hx
    exact ⟨es, keepR hd⟩
theorem StackTw.put {h0 h : Heap} {e d : Hdr} {sts : List (List PackV)} {hs es : List Hdr} {k : Nat} {q : Addr} {ps : List PackV} {K : Heap → Prop} (t : StackTw h0 h e sts hs) (hk : k < e.l) (hd : TwinAt h0 h d ps es) (hq : e.a = some q)
    (hK : ∀ h', StackTw h0 h' e (sts.set k ps) (hs.set k d) → (∀ b, e.a = some ⟨b, 0, none⟩ → Only b h h') → K h') : storeK 1 h (q.add (k * 1)) (.slice d.a d.l d.c) K := by
  have hlen := t.len
  have hpl := t.length
  have hd0 : hs[k]? = some (hs[k]'(by omega)) := List.getElem?_eq_getElem (by omega)
  have hz : (hs.map sliceC)[k]? = some (sliceC (hs[k]'(by omega))) := by rw [List.getElem?_map, hd0]; rfl
  have e0 : (q.add (k * 1)) = (q.add (k * 1)).add 0 := by unfold Addr.add; simp
  rw [e0]
  refine t.rows.store hz (by decide) rfl (fun h' o' on => hK h' ⟨by simp [hlen], by rw [List.map_set]; exact o', fun i r x hr hx => ?_⟩ on) hq
  have keepR : ∀ {d : Hdr} {ps : List PackV} {es : List Hdr}, TwinAt h0 h d ps es → TwinAt h0 h' d ps es := fun o => by
    rcases t.rows.own with ⟨e2, _⟩ | ⟨b, cs, e2, g1, g2, _⟩
    · rw [e2] at hq; cases hq
    · refine o.keepT ((on b e2).keep (S := (· = b)) rfl) (fun k hk e => by omega) (fun k cs el g hel e => ?_)
      subst e
      have := (own_type t.rows e2).2.2 _ _ g
      rcases hel with rfl | rfl <;> exact absurd this (by decide)
  rw [List.getElem?_set] at hr hx
  by_cases hki : k = i
  · subst hki
    rw [if_pos rfl, if_pos (by omega)] at hr hx
    cases hr; cases hx
    exact ⟨es, keepR hd⟩
  · rw [if_neg hki] at hr hx
    obtain ⟨es', g⟩ := t.packs i r x hr hx
    exact ⟨es', keepR g⟩
/-- stacks that came in, whatever their length -/
structure StacksIn (h : Heap) (a : Option Addr) (l c : Nat) (sts : List (List PackV)) (hs : List Hdr) : Prop where
  len : hs.length = sts.length
  rows : Tab 1 h a l c (hs.map sliceC)
  packs : ∀ (i : Nat) (ps : List PackV) (d : Hdr), sts[i]? = some ps → hs[i]? = some d → ∃ ds, PacksAt h d.a d.l d.c ps ds ∧ d.l < 9223372036854775808
theorem StacksIn.grow {h h' : Heap} {a : Option Addr} {l c : Nat} {sts : List (List PackV)} {hs : List Hdr} (t : StacksIn h a l c sts hs) (x : Ext h h') : StacksIn h' a l c sts hs :=
  ⟨t.len, t.rows.grow x, fun i ps d hp hd => let ⟨ds, g1, g2⟩ := t.packs i ps d hp hd; ⟨ds, g1.grow x, g2⟩⟩
theorem StacksIn.length {h : Heap} {a : Option Addr} {l c : Nat} {sts : List (List PackV)} {hs : List Hdr} (t : StacksIn h a l c sts hs) : sts.length = l := by
  have := t.rows.len
  rw [List.length_map, t.len] at this; exact this
theorem StacksIn.get {h : Heap} {a : Option Addr} {l c : Nat} {sts : List (List PackV)} {hs : List Hdr} (t : StacksIn h a l c sts hs) {i : Nat} (hi : i < l) : ∃ (q : Addr) (ps : List PackV) (d : Hdr) (ds : List Hdr), sts[i]? = some ps ∧ a = some q ∧ Vc.cell h (q.add (i * 1)) = some (.slice d.a d.l d.c) ∧ PacksAt h d.a d.l d.c ps ds ∧ d.l < 9223372036854775808 := by
  have hl := t.length
  have hle := t.len
  have s1 : sts[i]? = some (sts[i]'(by omega)) := List.getElem?_eq_getElem (by omega)
  have d1 : hs[i]? = some (hs[i]'(by omega)) := List.getElem?_eq_getElem (by omega)
  obtain ⟨ds, g1, g2⟩ := t.packs i _ _ s1 d1
  have hz : (hs.map sliceC)[i]? = some (sliceC (hs[i]'(by omega))) := by rw [List.getElem?_map, d1]; rfl
  obtain ⟨q, e1, _, hc⟩ := t.rows.get hz
  have := hc 0 _ rfl
  refine ⟨q, _, _, ds, s1, e1, ?_, g1, g2⟩
  unfold Addr.add at this ⊢
  simpa using this
theorem StacksAt.in_ {h : Heap} {a : Option Addr} {l c : Nat} {sts : List (List PackV)} {hs : List Hdr} (t : StacksAt h a l c sts hs) : StacksIn h a l c sts hs :=
  ⟨t.len, t.rows, fun i ps d hp hd => let ⟨ds, g1, g2, _⟩ := t.packs i ps d hp hd; ⟨ds, g1, by omega⟩⟩
def fewStacks (sts : List (List PackV)) : List (List PackV) := (sts.take 9).map fewPacks
theorem few_small {ps : List PackV} (ok : ∀ p ∈ ps, p.ok ∧ ∀ r ∈ p.refs, r.ok) : Small (fewPacks ps) := by
  refine ⟨fun p hp => ⟨few_oks ok p hp, ?_⟩, few_len ps⟩
  unfold fewPacks at hp
  obtain ⟨q, _, rfl⟩ := List.mem_map.1 hp
  unfold fewPack; simp only [List.length_take]; omega
theorem StacksIn.small {h : Heap} {a : Option Addr} {l c : Nat} {sts : List (List PackV)} {hs : List Hdr} (t : StacksIn h a l c sts hs) : ∀ ps ∈ fewStacks sts, Small ps := by
  intro ps hps
  unfold fewStacks at hps
  obtain ⟨q, hq, rfl⟩ := List.mem_map.1 hps
  obtain ⟨i, hi⟩ := List.getElem?_of_mem (List.mem_of_mem_take hq)
  have hlt := (List.getElem?_eq_some_iff.1 hi).1
  have hl := t.len
  obtain ⟨ds, g1, _⟩ := t.packs i q _ hi (List.getElem?_eq_getElem (show i < hs.length by omega))
  exact few_small (PacksAt.oks g1)
theorem stacksOf_ok (a : Option Addr) (l c : Nat) (sts : List (List PackV)) (hs : List Hdr) (h : Heap) (hp : StacksIn h a l c sts hs) (hl : l < 9223372036854775808) :
    HEnt Tryd.prog 18 #[.slice a l c] h fun v h' => ∃ e es, v = .slice e.a e.l e.c ∧ StackTw h h' e (fewStacks sts) es := by
  have hlen := hp.length
  refine F18_ent _ _ _ _ _ ?_
  unfold F18
  rintro _ rfl
  refine ⟨fun a3 l3 c3 x hh => ∃ (i : Nat) (es : List Hdr), x = i ∧ i ≤ l ∧ i ≤ 9 ∧ l3 = i ∧ StackTw h hh ⟨a3, l3, c3⟩ ((sts.take i).map fewPacks) es, fun _ _ _ x _ => ((l : Int) - x).toNat, ⟨0, [], rfl, by omega, by omega, rfl, StackTw.nil (Ext.refl h)⟩, ?_⟩
  rintro h1 a3 i c3 _ ⟨_, es, rfl, hi, hi20, rfl, t⟩
  have done : (i = l ∨ i = 9) → F18_k4 a3 i c3 h1 fun v h' => ∃ e es, v = .slice e.a e.l e.c ∧ StackTw h h' e (fewStacks sts) es := by
    intro hd
    unfold F18_k4
    refine ⟨⟨a3, i, c3⟩, es, rfl, ?_⟩
    have : fewStacks sts = (sts.take i).map fewPacks := by
      unfold fewStacks
      rcases hd with rfl | rfl
      · rw [List.take_of_length_le (by omega), List.take_of_length_le (by omega)]
      · rfl
    rw [this]; exact t
  unfold F18_b1
  refine br_of (fun g => ?_) (fun g => ?_)
  case refine_2 =>
    have g' : i = l := by
      have : ¬ (i : Int) < (l : Int) := by simpa using g
      omega
    unfold F18_k2
    exact br_of (fun e => by cases e) (fun _ => done (.inl g'))
  have hil : i < l := by
    have : (i : Int) < (l : Int) := by simpa using g
    omega
  unfold F18_k2
  refine br_of (fun g => ?_) (fun g => done (.inr (by
    have : ¬ (i : Int) < 9 := by simpa using g
    omega)))
  have h20 : i < 9 := by
    have : (i : Int) < 9 := by simpa using g
    omega
  have x1 := t.ext
  obtain ⟨q, ps, d, ds, s1, e1, hc, hpk, hdl⟩ := (hp.grow x1).get hil
  unfold F18_k3
  refine ⟨q, e1, by omega, by omega, d.a, d.l, d.c, by rw [Int.toNat_natCast]; exact hc, HEnt.use (packsOf_ok d.a d.l d.c ps ds h1 hpk hdl) ?_⟩
  rintro _ h2 ⟨e2, es2, rfl, t2⟩
  have x2 : Ext h1 h2 := t2.ext
  refine ⟨_, _, _, rfl, by decide, newK_intro fun h3 hb3 x3 _ => ?_⟩
  refine ((t.grow x2).grow x3).app (e := ⟨a3, i, c3⟩) (d := e2) ((t2.since x1).grow x3) hb3 (by show i < _; omega) fun e' h4 hl4 t4 => ?_
  have hl4 : e'.l = i + 1 := hl4
  rintro _ rfl
  rw [wrap_succ i l hil hl]
  refine ⟨⟨i + 1, es ++ [e2], rfl, by omega, by omega, hl4, ?_⟩, less_succ i l hil⟩
  have : (sts.take (i + 1)).map fewPacks = (sts.take i).map fewPacks ++ [fewPacks ps] := by rw [takeR_succ s1, List.map_append]; rfl
  rw [this]
  exact t4
theorem sameStacks_ok (a : Option Addr) (l c : Nat) (a' : Option Addr) (l' c' : Nat) (sts : List (List PackV)) (hs hs' : List Hdr) (h : Heap) (t : StacksAt h a l c sts hs) (t' : StacksAt h a' l' c' sts hs') (hl : l < 9223372036854775808) :
    HEnt Tryd.prog 22 #[.slice a l c, .slice a' l' c'] h fun v h' => v = .bool true ∧ Ext h h' := by
  have e1 := t.length
  have e2 := t'.length
  have n1 := t.len
  have n2 := t'.len
  refine F22_ent _ _ _ _ _ _ _ _ ?_
  unfold F22
  refine br_of (fun g => by simp at g; omega) (fun _ => ?_)
  unfold F22_k1
  rintro _ rfl
  refine ⟨fun x h' => ∃ k : Nat, x = k ∧ k ≤ l ∧ Ext h h', fun x _ => (l - x).toNat, ⟨0, rfl, by omega, Ext.refl h⟩, ?_⟩
  rintro h1 _ ⟨k, rfl, hk, x1⟩
  unfold F22_b2
  refine br_of (fun ht => ?_) (fun hf => ?_)
  · have hk' : k < l := by
      have : (k : Int) < (l : Int) := by simpa using ht
      omega
    have s1 : sts[k]? = some (sts[k]'(by omega)) := List.getElem?_eq_getElem (by omega)
    have d1 : hs[k]? = some (hs[k]'(by omega)) := List.getElem?_eq_getElem (by omega)
    have d2 : hs'[k]? = some (hs'[k]'(by omega)) := List.getElem?_eq_getElem (by omega)
    obtain ⟨ds, g1, g2, g3⟩ := (t.grow x1).packs k _ _ s1 d1
    obtain ⟨ds', g1', g2', g3'⟩ := (t'.grow x1).packs k _ _ s1 d2
    generalize hs[k]'(by omega) = d at *
    generalize hs'[k]'(by omega) = d' at *
    have hz : (hs.map fun d => [Value.slice d.a d.l d.c])[k]? = some [.slice d.a d.l d.c] := by rw [List.getElem?_map, d1]; rfl
    have hz' : (hs'.map fun d => [Value.slice d.a d.l d.c])[k]? = some [.slice d'.a d'.l d'.c] := by rw [List.getElem?_map, d2]; rfl
    obtain ⟨q, eq, _, hc⟩ := (t.grow x1).rows.get hz
    obtain ⟨q', eq', _, hc'⟩ := (t'.grow x1).rows.get hz'
    have hc : Vc.cell h1 (q.add (k * 1)) = some (.slice d.a d.l d.c) := by
      have := hc 0 _ rfl
      unfold Addr.add at this ⊢
      simpa using this
    have hc' : Vc.cell h1 (q'.add (k * 1)) = some (.slice d'.a d'.l d'.c) := by
      have := hc' 0 _ rfl
      unfold Addr.add at this ⊢
      simpa using this
    unfold F22_k3
    refine ⟨Ext, Ext.refl, fun _ _ _ => Ext.trans, q, eq, by omega, by omega, d.a, d.l, d.c, fun w x => run_loadCell (x.some (by rw [Int.toNat_natCast]; exact hc)) Tryd.underlying22 rfl, q', eq', by omega, by omega, d'.a, d'.l, d'.c, fun w x => run_loadCell (x.some (by rw [Int.toNat_natCast]; exact hc')) Tryd.underlying22 rfl, ?_⟩
    refine HEnt.use (packs_same d.a d.l d.c d'.a d'.l d'.c _ ds ds' h1 g1 g1' (by omega) (fun y hy => by have := g3 y hy; omega)) ?_
    rintro _ h2 ⟨rfl, x2⟩
    refine ⟨true, rfl, x2, br_of (fun e => by cases e) (fun _ => ?_)⟩
    unfold F22_k4
    rintro _ rfl
    rw [wrap_succ k l hk' hl]
    exact ⟨⟨k + 1, rfl, by omega, x1.trans x2⟩, less_succ k l hk'⟩
  · unfold F22_k5
    exact ⟨rfl, x1⟩
end Go.Proofs.YtfknpbgneeefjaaDoor

namespace Go.Proofs.YtfknpbgneeefjaaDoor
open Go.Vc Go.Sha Go.Trail Go.Packs Go.Plan Go.Man
set_option linter.unusedVariables false
set_option linter.unusedSimpArgs false
set_option maxRecDepth 20000
/-- plans to be put in -/
structure PlansIn (h : Heap) (a : Option Addr) (l c : Nat) (pl : List PlanV) (hs : List Hdr) : Prop where
  len : hs.length = pl.length
  rows : Tab 2 h a l c (List.zipWith planC pl hs)
  packs : ∀ (i : Nat) (p : PlanV) (d : Hdr), pl[i]? = some p → hs[i]? = some d → ∃ ds, PacksAt h d.a d.l d.c p.2 ds ∧ d.l ≤ 1099511627776 ∧ ∀ x ∈ ds, x.l ≤ 1099511627776
theorem PlansIn.grow {h h' : Heap} {a : Option Addr} {l c : Nat} {pl : List PlanV} {hs : List Hdr} (t : PlansIn h a l c pl hs) (x : Ext h h') : PlansIn h' a l c pl hs :=
  ⟨t.len, t.rows.grow x, fun i p d hp hd => let ⟨ds, g1, g2⟩ := t.packs i p d hp hd; ⟨ds, g1.grow x, g2⟩⟩
theorem PlansIn.length {h : Heap} {a : Option Addr} {l c : Nat} {pl : List PlanV} {hs : List Hdr} (t : PlansIn h a l c pl hs) : pl.length = l := by
  have := t.rows.len
  rw [List.length_zipWith, t.len, Nat.min_self] at this; exact this
theorem PlansIn.nil (h : Heap) : PlansIn h none 0 0 [] [] := ⟨rfl, Tab.empty _ _ _ _, fun i p d hp _ => by simp at hp⟩
theorem PlansAt.in_ {h0 h : Heap} {a : Option Addr} {l c : Nat} {pl : List PlanV} {hs : List Hdr} (t : PlansAt h0 h a l c pl hs) (g : ∀ p ∈ pl, GoodPs p.2) : PlansIn h a l c pl hs :=
  ⟨t.len, t.rows, fun i p d hp hd => by
    obtain ⟨es, tw⟩ := t.packs i p d hp hd
    have gp := g p (List.mem_of_getElem? hp)
    have b := twin_small tw gp.1
    exact ⟨es, tw.packs gp.2, by omega, fun x hx => by have := b.2 x hx; omega⟩⟩
theorem made22 : mkCells (zeroC Tryd.prog 22) (6 * 1) = (((List.replicate 6 (⟨none, 0, 0⟩ : Hdr)).map sliceC).flatten).toArray := by kernel_rfl
def partS (sts : List (List PackV)) (i : Nat) : List (List PackV) := (List.range 6).map fun j => if j < i then sts.getD j [] else []
theorem partS_6 (sts : List (List PackV)) : partS sts 6 = baseS sts := by
  unfold partS baseS
  apply List.map_congr_left
  intro j hj
  rw [if_pos (List.mem_range.1 hj)]
theorem partS_get (sts : List (List PackV)) (i j : Nat) (hj : j < 6) : (partS sts i)[j]? = some (if j < i then sts.getD j [] else []) := by
  unfold partS
  rw [List.getElem?_map, List.getElem?_range hj]; rfl
theorem partS_set (sts : List (List PackV)) (i : Nat) (hi : i < 6) : (partS sts i).set i (sts.getD i []) = partS sts (i + 1) := by
  apply List.ext_getElem?
  intro j
  rw [List.getElem?_set]
  have hl : (partS sts i).length = 6 := by unfold partS; simp
  by_cases hj : j < 6
  · rw [partS_get _ _ _ hj]
    by_cases e : i = j
    · subst e
      rw [if_pos rfl, if_pos (by omega), partS_get _ _ _ hj, if_pos (by omega)]
    · rw [if_neg e, partS_get _ _ _ hj]
      by_cases h : j < i
      · rw [if_pos h, if_pos (by omega)]
      · rw [if_neg h, if_neg (by omega)]
  · rw [List.getElem?_eq_none (l := partS sts (i + 1)) (by unfold partS; simp; omega)]
    by_cases e : i = j
    · omega
    · rw [if_neg e, List.getElem?_eq_none (by omega)]
theorem partS_skip (sts : List (List PackV)) (i : Nat) (hi : i < 6) (hs : sts.length ≤ i) : partS sts i = partS sts (i + 1) := by
  apply List.ext_getElem?
  intro j
  by_cases hj : j < 6
  · rw [partS_get _ _ _ hj, partS_get _ _ _ hj]
    by_cases h : j < i
    · rw [if_pos h, if_pos (by omega)]
    · rw [if_neg h]
      by_cases h2 : j < i + 1
      · rw [if_pos h2, List.getD_eq_getElem?_getD, List.getElem?_eq_none (by omega)]; rfl
      · rw [if_neg h2]
  · rw [List.getElem?_eq_none (l := partS sts i) (by unfold partS; simp; omega), List.getElem?_eq_none (l := partS sts (i + 1)) (by unfold partS; simp; omega)]
theorem put_ok (a : Option Addr) (l c : Nat) (sts : List (List PackV)) (hs : List Hdr) (a1 : Option Addr) (l1 c1 : Nat) (pl : List PlanV) (hp : List Hdr) (h : Heap) (t0 : StacksAt h a l c sts hs) (t1 : PlansIn h a1 l1 c1 pl hp) (hl1 : l1 < 9223372036854775807) :
    HEnt Tryd.prog 24 #[.slice a l c, .slice a1 l1 c1] h fun v h' => ∃ e es, v = .slice e.a e.l e.c ∧ StackTw h h' e (putS sts pl) es := by
  have hsl := t0.length
  have hpl := t1.length
  refine F24_ent _ _ _ _ _ _ _ _ ?_
  unfold F24
  refine ⟨by decide, by decide, by decide, by decide, newK_intro fun h1 hb1 x1 z1 => ?_⟩
  rw [made22] at hb1
  have st0 : StackTw h h1 ⟨some (at0 h.size), 6, 6⟩ (partS sts 0) (List.replicate 6 ⟨none, 0, 0⟩) := by
    refine ⟨by unfold partS; simp, OwnR.new_ hb1 x1 (Nat.le_refl _) (by intro r hr; obtain ⟨d, _, rfl⟩ := List.mem_map.1 hr; rfl) (by simp), fun i ps d hps hd => ?_⟩
    have hi := (List.getElem?_eq_some_iff.1 hd).1
    simp at hi
    rw [partS_get _ _ _ hi, if_neg (by omega)] at hps
    rw [List.getElem?_replicate, if_pos hi] at hd
    cases hps; cases hd
    exact ⟨[], TwinAt.nil x1⟩
  refine ⟨fun x hh => ∃ (i : Nat) (es : List Hdr), x = i ∧ i ≤ 6 ∧ StackTw h hh ⟨some (at0 h.size), 6, 6⟩ (partS sts i) es, fun x _ => ((6 : Int) - x).toNat, ⟨0, _, rfl, by omega, st0⟩, ?_⟩
  rintro h2 _ ⟨i, es, rfl, hi, t⟩
  have x2 := t.ext
  unfold F24_b1
  refine br_of (fun g => ?_) (fun g => ?_)
  · have hi6 : i < 6 := by
      have : (i : Int) < 6 := by simpa using g
      omega
    have ei : IntKind.i64.wrap ((i : Int) + 1) = ((i + 1 : Nat) : Int) := by rw [i64_lt _ (by omega) (by omega)]; omega
    unfold F24_k2
    refine br_of (fun gl => ?_) (fun gl => ?_)
    · have hil : i < l := by
        have : (i : Int) < (l : Int) := by simpa using gl
        omega
      obtain ⟨q, ps, d, _, s1, e1, hc, _, _⟩ := (t0.grow x2).in_.get hil
      have d1 : hs[i]? = some (hs[i]'(by have := t0.len; omega)) := List.getElem?_eq_getElem (by have := t0.len; omega)
      obtain ⟨dn, p1, p2, p3⟩ := (t0.grow x2).packs i ps _ s1 d1
      have hz : (hs.map fun d => [Value.slice d.a d.l d.c])[i]? = some [.slice (hs[i]'(by have := t0.len; omega)).a (hs[i]'(by have := t0.len; omega)).l (hs[i]'(by have := t0.len; omega)).c] := by rw [List.getElem?_map, d1]; rfl
      generalize hs[i]'(by have := t0.len; omega) = dd at *
      obtain ⟨qq, eq, _, hc2⟩ := (t0.grow x2).rows.get hz
      have hc2 : Vc.cell h2 (qq.add (i * 1)) = some (.slice dd.a dd.l dd.c) := by
        have := hc2 0 _ rfl
        unfold Addr.add at this ⊢
        simpa using this
      refine ⟨qq, eq, by omega, by omega, dd.a, dd.l, dd.c, by rw [Int.toNat_natCast]; exact hc2, HEnt.use (twin_ok dd ps dn h2 p1 (by omega) p3) ?_⟩
      rintro _ h3 ⟨e3, es3, rfl, _, t3⟩
      have x3 : Ext h2 h3 := t3.ext
      refine ⟨_, _, _, rfl, at0 h.size, rfl, by omega, by omega, ?_⟩
      rw [Int.toNat_natCast]
      refine (t.grow x3).put hi6 (t3.since x2) rfl fun h4 t4 _ => ?_
      unfold F24_k3
      rw [ei]
      have hg : sts.getD i [] = ps := by rw [List.getD_eq_getElem?_getD, s1]; rfl
      rw [← hg, partS_set sts i hi6] at t4
      exact ⟨⟨i + 1, _, rfl, by omega, t4⟩, by show ((6 : Int) - ((i + 1 : Nat) : Int)).toNat < ((6 : Int) - (i : Int)).toNat; omega⟩
    · have hil : l ≤ i := by
        have : ¬ (i : Int) < (l : Int) := by simpa using gl
        omega
      unfold F24_k3
      rw [ei]
      rw [partS_skip sts i hi6 (by omega)] at t
      exact ⟨⟨i + 1, _, rfl, by omega, t⟩, by show ((6 : Int) - ((i + 1 : Nat) : Int)).toNat < ((6 : Int) - (i : Int)).toNat; omega⟩
  have hi6 : i = 6 := by
    have : ¬ (i : Int) < 6 := by simpa using g
    omega
  subst hi6
  rw [partS_6] at t
  unfold F24_k4
  refine ⟨fun x hh => ∃ (j : Nat) (es : List Hdr), x = j ∧ j ≤ l1 ∧ StackTw h hh ⟨some (at0 h.size), 6, 6⟩ ((pl.take j).foldl putS1 (baseS sts)) es, fun x _ => ((l1 : Int) - x).toNat, ⟨0, _, rfl, by omega, t⟩, ?_⟩
  rintro h3 _ ⟨j, es, rfl, hj, t⟩
  have x3 := t.ext
  unfold F24_b5
  refine br_of (fun g => ?_) (fun g => ?_)
  case refine_2 =>
    have hjl : j = l1 := by
      have : ¬ (j : Int) < (l1 : Int) := by simpa using g
      omega
    subst hjl
    unfold F24_k9
    rw [List.take_of_length_le (by omega)] at t
    exact ⟨⟨some (at0 h.size), 6, 6⟩, es, rfl, t⟩
  have hjl : j < l1 := by
    have : (j : Int) < (l1 : Int) := by simpa using g
    omega
  have s1 : pl[j]? = some (pl[j]'(by omega)) := List.getElem?_eq_getElem (by omega)
  have d1 : hp[j]? = some (hp[j]'(by have := t1.len; omega)) := List.getElem?_eq_getElem (by have := t1.len; omega)
  obtain ⟨dn, p1, p2, p3⟩ := (t1.grow x3).packs j _ _ s1 d1
  have hz : (List.zipWith planC pl hp)[j]? = some (planC (pl[j]'(by omega)) (hp[j]'(by have := t1.len; omega))) := by rw [List.getElem?_zipWith, s1, d1]
  generalize pl[j]'(by omega) = p at *
  generalize hp[j]'(by have := t1.len; omega) = dd at *
  obtain ⟨q, eq, _, hc⟩ := (t1.grow x3).rows.get hz
  unfold F24_k6
  refine ⟨q, eq, by omega, by omega, p.1, dd.a, dd.l, dd.c, by rw [Int.toNat_natCast]; exact hc 0 _ rfl, by rw [Int.toNat_natCast]; exact hc 1 _ rfl, rfl, newK_intro fun h4 hb4 x4 z4 => ?_⟩
  refine storeK_whole (vs := (planC p dd).toArray) hb4 rfl (by kernel_rfl) (plan_one p dd) fun h5 hb5 o5 => ?_
  have x35 : Ext h3 h5 := Keep.since x4 (o5.keep rfl : Keep (· = h3.size) h4 h5) fun j hj e => by omega
  have t5 := t.grow x35
  have x05 := x3.trans x35
  have hlt : h.size < h3.size := by have := (own_type t.rows rfl).2.1; exact this
  have k7 : ∀ b, (b = true ↔ (1 ≤ p.1 ∧ p.1 ≤ 6)) → F24_k7 (fun x hh => ∃ (j : Nat) (es : List Hdr), x = j ∧ j ≤ l1 ∧ StackTw h hh ⟨some (at0 h.size), 6, 6⟩ ((pl.take j).foldl putS1 (baseS sts)) es) (fun x _ => ((l1 : Int) - x).toNat) ((l1 : Int) - (j : Int)).toNat (some (at0 h.size)) 6 6 (at0 h3.size) a1 l1 c1 l1 j b h5 fun v h' => ∃ e es, v = .slice e.a e.l e.c ∧ StackTw h h' e (putS sts pl) es := by
    intro b hb
    have next : ∀ (h7 : Heap) (es7 : List Hdr), StackTw h h7 ⟨some (at0 h.size), 6, 6⟩ (putS1 ((pl.take j).foldl putS1 (baseS sts)) p) es7 → F24_k8 (fun x hh => ∃ (j : Nat) (es : List Hdr), x = j ∧ j ≤ l1 ∧ StackTw h hh ⟨some (at0 h.size), 6, 6⟩ ((pl.take j).foldl putS1 (baseS sts)) es) (fun x _ => ((l1 : Int) - x).toNat) ((l1 : Int) - (j : Int)).toNat (some (at0 h.size)) 6 6 a1 l1 c1 l1 j h7 fun v h' => ∃ e es, v = .slice e.a e.l e.c ∧ StackTw h h' e (putS sts pl) es := by
      intro h7 es7 t7
      unfold F24_k8
      rw [wrap_succ j l1 hjl (by omega)]
      refine ⟨⟨j + 1, es7, rfl, by omega, ?_⟩, less_succ j l1 hjl⟩
      rw [takeR_succ s1, List.foldl_append]
      exact t7
    unfold F24_k7
    refine br_of (fun g7 => ?_) (fun g7 => ?_)
    · have hr := hb.1 g7
      have wr : IntKind.i64.wrap (p.1 - 1) = (((p.1 - 1).toNat : Nat) : Int) := by
        rw [i64_lt _ (by omega) (by omega)]; omega
      obtain ⟨k, hk⟩ : ∃ k : Nat, k = (p.1 - 1).toNat := ⟨_, rfl⟩
      refine ⟨fun u w => ∀ o : Obj, u[h3.size]? = some o → w[h3.size]? = some o, fun _ _ h => h, fun _ _ _ h1 h2 o ho => h2 o (h1 o ho), p.1, fun w x => run_loadCell (by rw [at_cell (x _ hb5)]; rfl) Tryd.underlying3 rfl, dd.a, dd.l, dd.c, fun w x => run_loadCell (by rw [at_cell (x _ hb5)]; rfl) Tryd.underlying22 rfl, ?_⟩
      refine HEnt.use (twin_ok dd p.2 dn h5 (p1.grow x35) p2 p3) ?_
      rintro _ h6 ⟨e6, es6, rfl, _, t6⟩
      have x6 : Ext h5 h6 := t6.ext
      refine ⟨_, _, _, rfl, fun o ho => x6.blk ho, at0 h.size, rfl, by rw [wr]; omega, by rw [wr]; omega, ?_⟩
      rw [wr, ← hk, Int.toNat_natCast]
      refine (t5.grow x6).put (by show k < 6; omega) (t6.since x05) rfl fun h7 t7 on7 => ?_
      refine ⟨fun o ho => (on7 h.size rfl).blk ho (by omega), next h7 (es.set k e6) ?_⟩
      unfold putS1
      rw [if_pos hr, ← hk]
      exact t7
    · refine next h5 es ?_
      unfold putS1
      rw [if_neg (fun e => by rw [hb.2 e] at g7; cases g7)]
      exact t5
  refine ⟨p.1, by rw [at_cell hb5]; rfl, br_of (fun g1 => ?_) (fun g1 => ?_)⟩
  · have g1' : p.1 ≥ 1 := by simpa using g1
    refine ⟨p.1, by rw [at_cell hb5]; rfl, k7 _ ?_⟩
    constructor
    · intro e; exact ⟨g1', of_decide_eq_true e⟩
    · intro e; exact decide_eq_true e.2
  · have g1' : ¬ p.1 ≥ 1 := by simpa using g1
    refine k7 _ ?_
    constructor
    · intro e; cases e
    · intro e; exact absurd e.1 g1'
end Go.Proofs.YtfknpbgneeefjaaDoor

namespace Go.Plan
open Go.Vc Go.Sha Go.Trail Go.Packs Go.Man
set_option linter.unusedVariables false
theorem lookP_mem : ∀ {pl : List PlanV} {r : Int} {x : List PackV}, (pl.map Prod.fst).Nodup → (lookP pl r = some x ↔ (r, x) ∈ pl)
  | [], r, x, _ => by simp [lookP]
  | (q, y) :: t, r, x, g => by
    simp only [List.map_cons, List.nodup_cons] at g
    unfold lookP
    by_cases e : q = r
    · rw [if_pos e]
      subst e
      constructor
      · intro h; cases h; exact List.mem_cons_self
      · intro h
        rcases List.mem_cons.1 h with h | h
        · cases h; rfl
        · exact absurd (List.mem_map.2 ⟨_, h, rfl⟩) g.1
    · rw [if_neg e, lookP_mem g.2]
      constructor
      · intro h; exact List.mem_cons_of_mem _ h
      · intro h
        rcases List.mem_cons.1 h with h | h
        · cases h; exact absurd rfl e
        · exact h
theorem lookP_perm {pl pl' : List PlanV} (p : pl'.Perm pl) (g : (pl.map Prod.fst).Nodup) (r : Int) : lookP pl' r = lookP pl r := by
  have g' : (pl'.map Prod.fst).Nodup := (p.map Prod.fst).nodup_iff.2 g
  cases h : lookP pl r with
  | some x => exact (lookP_mem g').2 (p.mem_iff.2 ((lookP_mem g).1 h))
  | none =>
    cases h' : lookP pl' r with
    | none => rfl
    | some x =>
      have := (lookP_mem g).2 (p.mem_iff.1 ((lookP_mem g').1 h'))
      rw [h] at this; cases this
theorem lookP_put : ∀ (pl : List PlanV) (r s : Int) (x : List PackV), lookP (putP pl r x) s = if r = s then some x else lookP pl s
  | [], r, s, x => by simp [putP, lookP]
  | (q, y) :: t, r, s, x => by
    unfold putP
    by_cases e : q = r
    · rw [if_pos e]
      subst e
      unfold lookP
      by_cases e2 : q = s
      · rw [if_pos e2, if_pos e2]
      · rw [if_neg e2, if_neg e2, if_neg e2]
    · rw [if_neg e]
      unfold lookP
      rw [lookP_put t r s x]
      by_cases e2 : q = s
      · rw [if_pos e2, if_pos e2, if_neg (by omega)]
      · rw [if_neg e2, if_neg e2]
theorem lookP_cons (q : Int) (x : List PackV) (t : List PlanV) (r : Int) : lookP ((q, x) :: t) r = if q = r then some x else lookP t r := rfl
theorem foldl_get : ∀ (pl : List PlanV) (acc : List (List PackV)) (r : Int), 1 ≤ r ∧ r ≤ 6 → acc.length = 6 → (pl.map Prod.fst).Nodup →
    (pl.foldl putS1 acc).getD (r - 1).toNat [] = (match lookP pl r with | some x => x | none => acc.getD (r - 1).toNat [])
  | [], acc, r, _, _, _ => rfl
  | (q, x) :: t, acc, r, hr, ha, g => by
    simp only [List.map_cons, List.nodup_cons] at g
    rw [List.foldl_cons, foldl_get t _ r hr (by rw [putS1_len, ha]) g.2, lookP_cons]
    by_cases e : q = r
    · subst e
      rw [if_pos rfl]
      have hn : lookP t q = none := by
        cases h : lookP t q with
        | none => rfl
        | some y => exact absurd (List.mem_map.2 ⟨_, (lookP_mem g.2).1 h, rfl⟩) g.1
      rw [hn]
      simp only
      unfold putS1
      rw [if_pos hr, List.getD_eq_getElem?_getD, List.getElem?_set, if_pos rfl, if_pos (by omega)]; rfl
    · rw [if_neg e]
      have : (putS1 acc (q, x)).getD (r - 1).toNat [] = acc.getD (r - 1).toNat [] := by
        unfold putS1
        split
        · rename_i h
          simp only at h
          rw [List.getD_eq_getElem?_getD, List.getElem?_set, if_neg (by simp only; omega), List.getD_eq_getElem?_getD]
        · rfl
      rw [this]
theorem baseS_get (sts : List (List PackV)) (r : Int) (hr : 1 ≤ r ∧ r ≤ 6) : (baseS sts).getD (r - 1).toNat [] = sts.getD (r - 1).toNat [] := by
  unfold baseS
  rw [List.getD_eq_getElem?_getD, List.getElem?_map, List.getElem?_range (by omega)]; rfl
theorem putS_len (sts : List (List PackV)) (pl : List PlanV) : (putS sts pl).length = 6 := by
  unfold putS; rw [foldl_len, baseS_len]
theorem stackC_get (sts : List (List PackV)) (r : Int) (hr : 1 ≤ r) : stackC sts r = sts.getD (r - 1).toNat [] := by
  unfold stackC
  split
  · rfl
  · rw [List.getD_eq_getElem?_getD, List.getElem?_eq_none (by omega)]; rfl
theorem putS_get (sts : List (List PackV)) (pl : List PlanV) (r : Int) (hr : 1 ≤ r ∧ r ≤ 6) (g : (pl.map Prod.fst).Nodup) : (putS sts pl).getD (r - 1).toNat [] = nowC sts pl r := by
  unfold putS nowC
  rw [foldl_get pl _ r hr (baseS_len sts) g, baseS_get sts r hr]
  cases lookP pl r with
  | some x => rfl
  | none => simp only; rw [stackC_get sts r hr.1]
theorem stackC_put (sts : List (List PackV)) (pl : List PlanV) (r : Int) (hr : 1 ≤ r ∧ r ≤ 6) (g : (pl.map Prod.fst).Nodup) : stackC (putS sts pl) r = nowC sts pl r := by
  rw [stackC_get _ r hr.1, putS_get sts pl r hr g]
theorem ext6 {A B : List (List PackV)} (ha : A.length = 6) (hb : B.length = 6) (h : ∀ r : Int, 1 ≤ r ∧ r ≤ 6 → A.getD (r - 1).toNat [] = B.getD (r - 1).toNat []) : A = B := by
  apply List.ext_getElem?
  intro i
  by_cases hi : i < 6
  · have := h ((i : Int) + 1) ⟨by omega, by omega⟩
    rw [show ((i : Int) + 1 - 1).toNat = i by omega, List.getD_eq_getElem?_getD, List.getD_eq_getElem?_getD] at this
    rw [List.getElem?_eq_getElem (by omega : i < A.length), List.getElem?_eq_getElem (by omega : i < B.length)] at this ⊢
    simpa using this
  · rw [List.getElem?_eq_none (by omega), List.getElem?_eq_none (by omega)]
theorem baseS_base {N : List (List PackV)} (h : N.length = 6) : baseS N = N :=
  ext6 (baseS_len N) h fun r hr => baseS_get N r hr
theorem putS_perm {pl pl' : List PlanV} (sts : List (List PackV)) (p : pl'.Perm pl) (g : (pl.map Prod.fst).Nodup) : putS sts pl' = putS sts pl :=
  ext6 (putS_len _ _) (putS_len _ _) fun r hr => by
    rw [putS_get _ _ r hr g, putS_get _ _ r hr ((p.map Prod.fst).nodup_iff.2 g)]
    unfold nowC
    rw [lookP_perm p g]
theorem putP_nodup {pl : List PlanV} {r : Int} {x : List PackV} (g : (pl.map Prod.fst).Nodup) : ((putP pl r x).map Prod.fst).Nodup := by
  induction pl with
  | nil => simp [putP]
  | cons a t ih =>
    obtain ⟨q, y⟩ := a
    unfold putP
    by_cases e : q = r
    · rw [if_pos e]; exact g
    · rw [if_neg e]
      simp only [List.map_cons, List.nodup_cons] at g ⊢
      refine ⟨fun h => ?_, ih g.2⟩
      obtain ⟨p, hp, he⟩ := List.mem_map.1 h
      have : p.1 = r ∨ p ∈ t := by
        clear ih g h he
        induction t with
        | nil => simp [putP] at hp; subst hp; exact .inl rfl
        | cons b t ih =>
          obtain ⟨u, z⟩ := b
          unfold putP at hp
          split at hp
          · rename_i e2
            rcases List.mem_cons.1 hp with rfl | hp
            · exact .inl e2
            · exact .inr (List.mem_cons_of_mem _ hp)
          · rcases List.mem_cons.1 hp with rfl | hp
            · exact .inr List.mem_cons_self
            · rcases ih hp with h | h
              · exact .inl h
              · exact .inr (List.mem_cons_of_mem _ h)
      rcases this with h | h
      · omega
      · exact g.1 (List.mem_map.2 ⟨p, h, he⟩)
/-- a plan more, put in behind -/
theorem putS_step (sts : List (List PackV)) {pl : List PlanV} (r : Int) (x : List PackV) (g : (pl.map Prod.fst).Nodup) : putS (putS sts pl) [(r, x)] = putS sts (putP pl r x) :=
  ext6 (putS_len _ _) (putS_len _ _) fun s hs => by
    rw [putS_get _ _ s hs (by simp), putS_get _ _ s hs (putP_nodup g)]
    unfold nowC
    rw [lookP_put, lookP_cons]
    by_cases e : r = s
    · rw [if_pos e, if_pos e]
    · rw [if_neg e, if_neg e]
      show stackC (putS sts pl) s = _
      rw [stackC_put sts pl s hs g]; rfl
theorem doC_far {o : OpV} (h : ¬ (1 ≤ o.root ∧ o.root ≤ 6)) (ps : List PackV) (owner : Int) : doC ps owner o = ([], opC o) ∧ opC o ≠ 0 := by
  have h0 : opC o ≠ 0 := by
    unfold opC
    split
    · decide
    · rw [if_pos (by omega)]; decide
  refine ⟨?_, h0⟩
  unfold doC
  rw [if_pos h0]
theorem doC_now (sts : List (List PackV)) {pl : List PlanV} (owner : Int) (o : OpV) (g : (pl.map Prod.fst).Nodup) : doC (nowC (putS sts pl) [] o.root) owner o = doC (nowC sts pl o.root) owner o := by
  by_cases h : 1 ≤ o.root ∧ o.root ≤ 6
  · have : nowC (putS sts pl) [] o.root = nowC sts pl o.root := stackC_put sts pl o.root h g
    rw [this]
  · rw [(doC_far h _ owner).1, (doC_far h _ owner).1]
/-- one operation alone -/
theorem allC_one (sts : List (List PackV)) (owner : Int) (o : OpV) : allC sts owner [o] = if (doC (nowC sts [] o.root) owner o).2 ≠ 0 then ([], 0, (doC (nowC sts [] o.root) owner o).2) else ([(o.root, (doC (nowC sts [] o.root) owner o).1)], 0, 0) := by
  unfold allC
  rw [if_neg (by simp), if_neg (by simp)]
  unfold runC
  split
  · rfl
  · rfl
theorem mem_foldl : ∀ (pl : List PlanV) (acc : List (List PackV)), ∀ ps ∈ pl.foldl putS1 acc, ps ∈ acc ∨ ∃ p ∈ pl, ps = p.2
  | [], acc, ps, h => .inl h
  | p :: t, acc, ps, h => by
    rcases mem_foldl t _ ps h with h | ⟨q, h1, h2⟩
    · unfold putS1 at h
      split at h
      · rcases List.mem_or_eq_of_mem_set h with h | h
        · exact .inl h
        · exact .inr ⟨p, List.mem_cons_self, h⟩
      · exact .inl h
    · exact .inr ⟨q, List.mem_cons_of_mem _ h1, h2⟩
theorem mem_putS (sts : List (List PackV)) (pl : List PlanV) : ∀ ps ∈ putS sts pl, (ps ∈ sts ∨ ps = []) ∨ ∃ p ∈ pl, ps = p.2 := by
  intro ps h
  rcases mem_foldl pl _ ps h with h | h
  · left
    unfold baseS at h
    obtain ⟨i, _, rfl⟩ := List.mem_map.1 h
    rw [List.getD_eq_getElem?_getD]
    cases h : sts[i]? with
    | none => exact .inr rfl
    | some x => exact .inl (List.mem_of_getElem? h)
  · exact .inr h
/-- in order: there is one way -/
theorem order_one : ∀ {l l' : List PlanV}, l.Perm l' → (l.map Prod.fst).Nodup → (∀ (i j : Nat) (p q : PlanV), i < j → l[i]? = some p → l[j]? = some q → p.1 ≤ q.1) → (∀ (i j : Nat) (p q : PlanV), i < j → l'[i]? = some p → l'[j]? = some q → p.1 ≤ q.1) → l = l'
  | [], l', h, _, _, _ => (List.nil_perm.1 h).symm
  | a :: t, [], h, _, _, _ => absurd h.length_eq (by simp)
  | a :: t, b :: t', h, g, s, s' => by
    have g1 := g
    simp only [List.map_cons, List.nodup_cons] at g1
    have ab : a = b := by
      have hb : b ∈ a :: t := h.mem_iff.2 List.mem_cons_self
      have ha : a ∈ b :: t' := h.mem_iff.1 List.mem_cons_self
      rcases List.mem_cons.1 hb with hb | hb
      · exact hb.symm
      rcases List.mem_cons.1 ha with ha | ha
      · exact ha
      obtain ⟨i, hi⟩ := List.getElem?_of_mem hb
      obtain ⟨j, hj⟩ := List.getElem?_of_mem ha
      have h1 := s 0 (i + 1) a b (by omega) rfl (by simpa using hi)
      have h2 := s' 0 (j + 1) b a (by omega) rfl (by simpa using hj)
      exact absurd (List.mem_map.2 ⟨b, hb, by omega⟩) g1.1
    subst ab
    have := order_one (List.Perm.cons_inv h) g1.2 (fun i j p q hij hp hq => s (i + 1) (j + 1) p q (by omega) (by simpa using hp) (by simpa using hq)) (fun i j p q hij hp hq => s' (i + 1) (j + 1) p q (by omega) (by simpa using hp) (by simpa using hq))
    rw [this]
end Go.Plan
namespace Go.Proofs.YtfknpbgneeefjaaDoor
open Go.Vc Go.Sha Go.Trail Go.Packs Go.Plan Go.Man
set_option linter.unusedVariables false
set_option linter.unusedSimpArgs false
set_option maxRecDepth 20000
theorem inOrder_one {l l' pl pl' : List PlanV} (h : InOrder l pl) (h' : InOrder l' pl') (p : pl.Perm pl') (g : (pl.map Prod.fst).Nodup) : l = l' :=
  order_one ((h.1.trans p).trans h'.1.symm) ((h.1.map Prod.fst).nodup_iff.2 g) h.2 h'.2
theorem PlansIn.get {h : Heap} {a : Option Addr} {l c : Nat} {pl : List PlanV} {hs : List Hdr} (t : PlansIn h a l c pl hs) {i : Nat} (hi : i < l) :
    ∃ q p d, pl[i]? = some p ∧ hs[i]? = some d ∧ a = some q ∧ cell h ((q.add (i * 2)).add 0) = some (.int .i64 p.1) ∧ cell h ((q.add (i * 2)).add 1) = some (.slice d.a d.l d.c) := by
  have hl := t.length
  have hle := t.len
  have h1 : pl[i]? = some (pl[i]'(by omega)) := List.getElem?_eq_getElem (by omega)
  have h2 : hs[i]? = some (hs[i]'(by omega)) := List.getElem?_eq_getElem (by omega)
  have hz : (List.zipWith planC pl hs)[i]? = some (planC (pl[i]'(by omega)) (hs[i]'(by omega))) := by rw [List.getElem?_zipWith, h1, h2]
  obtain ⟨q, e1, _, hc⟩ := t.rows.get hz
  exact ⟨q, _, _, h1, h2, e1, hc 0 _ rfl, hc 1 _ rfl⟩
theorem samePlans_ok (a : Option Addr) (l c : Nat) (a' : Option Addr) (l' c' : Nat) (pl : List PlanV) (hs hs' : List Hdr) (h : Heap) (t : PlansIn h a l c pl hs) (t' : PlansIn h a' l' c' pl hs') (hl : l < 9223372036854775808) :
    HEnt Tryd.prog 21 #[.slice a l c, .slice a' l' c'] h fun v h' => v = .bool true ∧ Ext h h' := by
  have e1 := t.length
  have e2 := t'.length
  refine F21_ent _ _ _ _ _ _ _ _ ?_
  unfold F21
  refine br_of (fun g => by simp at g; omega) (fun _ => ?_)
  unfold F21_k1
  rintro _ rfl
  refine ⟨fun x h' => ∃ k : Nat, x = k ∧ k ≤ l ∧ Ext h h', fun x _ => (l - x).toNat, ⟨0, rfl, by omega, Ext.refl h⟩, ?_⟩
  rintro h1 _ ⟨k, rfl, hk, x1⟩
  unfold F21_b2
  refine br_of (fun ht => ?_) (fun hf => ?_)
  · have hk' : k < l := by
      have : (k : Int) < (l : Int) := by simpa using ht
      omega
    obtain ⟨q, p, d, s1, d1, eq, c0, c1⟩ := (t.grow x1).get hk'
    obtain ⟨q', p', d', s1', d1', eq', c0', c1'⟩ := (t'.grow x1).get (i := k) (by omega)
    rw [s1] at s1'
    cases s1'
    obtain ⟨ds, g1, g2, g3⟩ := (t.grow x1).packs k _ _ s1 d1
    obtain ⟨ds', g1', g2', g3'⟩ := (t'.grow x1).packs k _ _ s1 d1'
    unfold F21_k3
    refine ⟨Ext, Ext.refl, fun _ _ _ => Ext.trans, q, eq, by omega, by omega, p.1, fun w x => run_loadCell (x.some (by rw [Int.toNat_natCast]; exact c0)) Tryd.underlying3 rfl, q', eq', by omega, by omega, p.1, fun w x => run_loadCell (x.some (by rw [Int.toNat_natCast]; exact c0')) Tryd.underlying3 rfl, br_of (fun e => by simp at e) (fun _ => ?_)⟩
    refine ⟨q, eq, by omega, by omega, d.a, d.l, d.c, fun w x => run_loadCell (x.some (by rw [Int.toNat_natCast]; exact c1)) Tryd.underlying22 rfl, q', eq', by omega, by omega, d'.a, d'.l, d'.c, fun w x => run_loadCell (x.some (by rw [Int.toNat_natCast]; exact c1')) Tryd.underlying22 rfl, ?_⟩
    refine HEnt.use (packs_same d.a d.l d.c d'.a d'.l d'.c _ ds ds' h1 g1 g1' (by omega) (fun y hy => by have := g3 y hy; omega)) ?_
    rintro _ h2 ⟨rfl, x2⟩
    refine ⟨true, rfl, x2, ?_⟩
    unfold F21_k4
    refine br_of (fun e => by cases e) (fun _ => ?_)
    unfold F21_k5
    rintro _ rfl
    rw [wrap_succ k l hk' hl]
    exact ⟨⟨k + 1, rfl, by omega, x1.trans x2⟩, less_succ k l hk'⟩
  · unfold F21_k6
    exact ⟨rfl, x1⟩
end Go.Proofs.YtfknpbgneeefjaaDoor
