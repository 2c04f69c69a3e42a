import Derived.Test.YtfknpbgneeefjaaDoorPlanT
import Derived.Test.YtfknpbgneeefjaaDoorVppM

namespace Go.Plan
open Go.Vc Go.Sha Go.Trail Go.Packs Go.Man
set_option linter.unusedVariables false
def putS1 (acc : List (List PackV)) (p : PlanV) : List (List PackV) := if 1 ≤ p.1 ∧ p.1 ≤ 6 then acc.set (p.1 - 1).toNat p.2 else acc
def baseS (sts : List (List PackV)) : List (List PackV) := (List.range 6).map fun i => sts.getD i []
/-- the six stacks with plans put in -/
def putS (sts : List (List PackV)) (pl : List PlanV) : List (List PackV) := pl.foldl putS1 (baseS sts)
theorem putS1_len (acc : List (List PackV)) (p : PlanV) : (putS1 acc p).length = acc.length := by
  unfold putS1; split <;> simp
theorem foldl_len : ∀ (pl : List PlanV) (acc : List (List PackV)), (pl.foldl putS1 acc).length = acc.length
  | [], _ => rfl
  | p :: t, acc => by rw [List.foldl_cons, foldl_len t, putS1_len]
theorem baseS_len (sts : List (List PackV)) : (baseS sts).length = 6 := by simp [baseS]
end Go.Plan
namespace Go.Proofs.YtfknpbgneeefjaaDoor
open Go.Vc Go.Sha Go.Trail Go.Packs Go.Plan Go.Man
set_option linter.unusedVariables false
set_option linter.unusedSimpArgs false
set_option maxRecDepth 20000
def sliceC (d : Hdr) : List Value := [.slice d.a d.l d.c]
theorem size22' : Tryd.prog.cellsOf 22 = 1 := by kernel_rfl
theorem bytes22 : Tryd.prog.bytesOf 22 = 24 := by kernel_rfl
theorem z22 : (((Tryd.prog.info? 22).bind (·.zero)).getD undef).cells.size = 1 := by kernel_rfl
/-- stacks of sound packages, no longer than the law's look -/
def Small (ps : List PackV) : Prop := (∀ p ∈ ps, (p.ok ∧ ∀ r ∈ p.refs, r.ok) ∧ p.refs.length ≤ 20) ∧ ps.length ≤ 20
structure StackTw (h0 h : Heap) (e : Hdr) (sts : List (List PackV)) (hs : List Hdr) : Prop where
  len : hs.length = sts.length
  rows : OwnR 22 1 h0 h e.a e.l e.c (hs.map sliceC)
  packs : ∀ (i : Nat) (ps : List PackV) (d : Hdr), sts[i]? = some ps → hs[i]? = some d → ∃ es, TwinAt h0 h d ps es
theorem StackTw.nil {h0 h : Heap} (x : Ext h0 h) : StackTw h0 h ⟨none, 0, 0⟩ [] [] := ⟨rfl, OwnR.nil _ _ x, fun i p d hp _ => by simp at hp⟩
theorem StackTw.length {h0 h : Heap} {e : Hdr} {sts : List (List PackV)} {hs : List Hdr} (t : StackTw h0 h e sts hs) : sts.length = e.l := by
  have := t.rows.len
  rw [List.length_map, t.len] at this; exact this
theorem StackTw.ext {h0 h : Heap} {e : Hdr} {sts : List (List PackV)} {hs : List Hdr} (t : StackTw h0 h e sts hs) : Ext h0 h := t.rows.ext
theorem StackTw.grow {h0 h h' : Heap} {e : Hdr} {sts : List (List PackV)} {hs : List Hdr} (t : StackTw h0 h e sts hs) (x : Ext h h') : StackTw h0 h' e sts hs :=
  ⟨t.len, t.rows.grow x, fun i p d hp hd => let ⟨es, g⟩ := t.packs i p d hp hd; ⟨es, g.grow x⟩⟩
theorem StackTw.since {h0 h1 h : Heap} {e : Hdr} {sts : List (List PackV)} {hs : List Hdr} (t : StackTw h1 h e sts hs) (x : Ext h0 h1) : StackTw h0 h e sts hs :=
  ⟨t.len, t.rows.since x, fun i p d hp hd => let ⟨es, g⟩ := t.packs i p d hp hd; ⟨es, g.since x⟩⟩
theorem twin_hdr {h0 h : Heap} {e : Hdr} {ps : List PackV} {es : List Hdr} (t : TwinAt h0 h e ps es) (s : Small ps) : e.l ≤ 20 ∧ ∀ x ∈ es, x.l ≤ 20 := by
  refine ⟨by have := t.length; have := s.2; omega, fun x hx => ?_⟩
  obtain ⟨i, hi⟩ := List.getElem?_of_mem hx
  have hlt := (List.getElem?_eq_some_iff.1 hi).1
  have hl := t.len
  have p1 : ps[i]? = some (ps[i]'(by omega)) := List.getElem?_eq_getElem (by omega)
  have o := (t.refs i _ x p1 hi).len
  have := (s.1 _ (List.mem_of_getElem? p1)).2
  rw [List.length_map] at o
  omega
theorem StackTw.stacks {h0 h : Heap} {e : Hdr} {sts : List (List PackV)} {hs : List Hdr} (t : StackTw h0 h e sts hs) (s : ∀ ps ∈ sts, Small ps) : StacksAt h e.a e.l e.c sts hs :=
  ⟨t.len, t.rows.rows, fun i ps d hp hd => by
    obtain ⟨es, g⟩ := t.packs i ps d hp hd
    have sm := s ps (List.mem_of_getElem? hp)
    have b := twin_hdr g sm
    exact ⟨es, g.packs fun p hp => (sm.1 p hp).1, by omega, fun x hx => by have := b.2 x hx; omega⟩⟩
theorem StackTw.keepT {S : Nat → Prop} {h0 h h' : Heap} {e : Hdr} {sts : List (List PackV)} {hs : List Hdr} (t : StackTw h0 h e sts hs) (x : Keep S h h') (h1 : ∀ k, k < h0.size → ¬ S k) (h2 : ∀ k cs el, h[k]? = some (.cells cs el (0, 0)) → (el = 22 ∨ el = 61 ∨ el = 75) → ¬ S k) : StackTw h0 h' e sts hs :=
  ⟨t.len, t.rows.keepT x h1 fun k cs g => h2 k cs 22 g (.inl rfl), fun i p d hp hd => by
    obtain ⟨es, g⟩ := t.packs i p d hp hd
    exact ⟨es, g.keepT x h1 fun k cs el gg hel => h2 k cs el gg (.inr hel)⟩⟩
theorem StackTw.app {h0 h : Heap} {e d : Hdr} {sts : List (List PackV)} {hs es : List Hdr} {ps : List PackV} {b : Nat} {K : Option Addr → Nat → Nat → Heap → Prop} (t : StackTw h0 h e sts hs) (hd : TwinAt h0 h d ps es) (hb : h[b]? = some (.cells (sliceC d).toArray 22 (0, 0))) (room : e.l < 1099511627776)
    (hK : ∀ e' h', e'.l = e.l + 1 → StackTw h0 h' e' (sts ++ [ps]) (hs ++ [d]) → K e'.a e'.l e'.c h') : appK Tryd.prog 22 h e.a e.l e.c (.slice (some (at0 b)) 1 1) K := by
  refine appK_R (new := [sliceC d]) (m := 1) size22' t.rows (srcK_slice rfl (fun ad e => by cases e; exact cells_blk0 hb) (by rintro ⟨⟩)) rfl (by intro r hr; simp at hr; subst hr; rfl) (by intro r hr u hu; simp at hr; subst hr; simp [sliceC] at hu; subst hu; rfl) (by rw [bytes22]; omega) z22 fun a' c' h' o' k' _ => hK ⟨a', e.l + 1, c'⟩ h' rfl ⟨by simp [t.len], by rw [List.map_append]; exact o', fun i q x hq hx => ?_⟩
  have keepR : ∀ {d : Hdr} {ps : List PackV} {es : List Hdr}, TwinAt h0 h d ps es → TwinAt h0 h' d ps es := fun o => by
    refine o.keepT k' (fun k hk e => ?_) (fun k cs el g hel e => ?_)
    · rcases e with e | e
      · have := (own_type t.rows e).1; omega
      · have := t.rows.ext.size; omega
    · rcases e with e | e
      · have := (own_type t.rows e).2.2 _ _ g
        rcases hel with rfl | rfl <;> exact absurd this (by decide)
      · have := blk_lt g; omega
  have hlen := t.len
  by_cases hi : i < sts.length
  · rw [List.getElem?_append_left (by omega)] at hq hx
    obtain ⟨es', g⟩ := t.packs i q x hq hx
    exact ⟨es', keepR g⟩
  · have hi2 := (List.getElem?_eq_some_iff.1 hq).1
    simp at hi2
    rw [List.getElem?_append_right (by omega), show i - sts.length = 0 by omega] at hq
    rw [List.getElem?_append_right (by omega), show i - hs.length = 0 by omega] at hx
    simp at hq hx
    subst hq; subst hx
    exact ⟨es, keepR hd⟩
theorem StackTw.put {h0 h : Heap} {e d : Hdr} {sts : List (List PackV)} {hs es : List Hdr} {k : Nat} {q : Addr} {ps : List PackV} {K : Heap → Prop} (t : StackTw h0 h e sts hs) (hk : k < e.l) (hd : TwinAt h0 h d ps es) (hq : e.a = some q)
    (hK : ∀ h', StackTw h0 h' e (sts.set k ps) (hs.set k d) → (∀ b, e.a = some ⟨b, 0, none⟩ → Only b h h') → K h') : storeK 1 h (q.add (k * 1)) (.slice d.a d.l d.c) K := by
  have hlen := t.len
  have hpl := t.length
  have hd0 : hs[k]? = some (hs[k]'(by omega)) := List.getElem?_eq_getElem (by omega)
  have hz : (hs.map sliceC)[k]? = some (sliceC (hs[k]'(by omega))) := by rw [List.getElem?_map, hd0]; rfl
  have e0 : (q.add (k * 1)) = (q.add (k * 1)).add 0 := by unfold Addr.add; simp
  rw [e0]
  refine t.rows.store hz (by decide) rfl (fun h' o' on => hK h' ⟨by simp [hlen], by rw [List.map_set]; exact o', fun i r x hr hx => ?_⟩ on) hq
  have keepR : ∀ {d : Hdr} {ps : List PackV} {es : List Hdr}, TwinAt h0 h d ps es → TwinAt h0 h' d ps es := fun o => by
    rcases t.rows.own with ⟨e2, _⟩ | ⟨b, cs, e2, g1, g2, _⟩
    · rw [e2] at hq; cases hq
    · refine o.keepT ((on b e2).keep (S := (· = b)) rfl) (fun k hk e => by omega) (fun k cs el g hel e => ?_)
      subst e
      have := (own_type t.rows e2).2.2 _ _ g
      rcases hel with rfl | rfl <;> exact absurd this (by decide)
  rw [List.getElem?_set] at hr hx
  by_cases hki : k = i
  · subst hki
    rw [if_pos rfl, if_pos (by omega)] at hr hx
    cases hr; cases hx
    exact ⟨es, keepR hd⟩
  · rw [if_neg hki] at hr hx
    obtain ⟨es', g⟩ := t.packs i r x hr hx
    exact ⟨es', keepR g⟩
/-- stacks that came in, whatever their length -/
structure StacksIn (h : Heap) (a : Option Addr) (l c : Nat) (sts : List (List PackV)) (hs : List Hdr) : Prop where
  len : hs.length = sts.length
  rows : Tab 1 h a l c (hs.map sliceC)
  packs : ∀ (i : Nat) (ps : List PackV) (d : Hdr), sts[i]? = some ps → hs[i]? = some d → ∃ ds, PacksAt h d.a d.l d.c ps ds ∧ d.l < 9223372036854775808
theorem StacksIn.grow {h h' : Heap} {a : Option Addr} {l c : Nat} {sts : List (List PackV)} {hs : List Hdr} (t : StacksIn h a l c sts hs) (x : Ext h h') : StacksIn h' a l c sts hs :=
  ⟨t.len, t.rows.grow x, fun i ps d hp hd => let ⟨ds, g1, g2⟩ := t.packs i ps d hp hd; ⟨ds, g1.grow x, g2⟩⟩
theorem StacksIn.length {h : Heap} {a : Option Addr} {l c : Nat} {sts : List (List PackV)} {hs : List Hdr} (t : StacksIn h a l c sts hs) : sts.length = l := by
  have := t.rows.len
  rw [List.length_map, t.len] at this; exact this
theorem StacksIn.get {h : Heap} {a : Option Addr} {l c : Nat} {sts : List (List PackV)} {hs : List Hdr} (t : StacksIn h a l c sts hs) {i : Nat} (hi : i < l) : ∃ (q : Addr) (ps : List PackV) (d : Hdr) (ds : List Hdr), sts[i]? = some ps ∧ a = some q ∧ Vc.cell h (q.add (i * 1)) = some (.slice d.a d.l d.c) ∧ PacksAt h d.a d.l d.c ps ds ∧ d.l < 9223372036854775808 := by
  have hl := t.length
  have hle := t.len
  have s1 : sts[i]? = some (sts[i]'(by omega)) := List.getElem?_eq_getElem (by omega)
  have d1 : hs[i]? = some (hs[i]'(by omega)) := List.getElem?_eq_getElem (by omega)
  obtain ⟨ds, g1, g2⟩ := t.packs i _ _ s1 d1
  have hz : (hs.map sliceC)[i]? = some (sliceC (hs[i]'(by omega))) := by rw [List.getElem?_map, d1]; rfl
  obtain ⟨q, e1, _, hc⟩ := t.rows.get hz
  have := hc 0 _ rfl
  refine ⟨q, _, _, ds, s1, e1, ?_, g1, g2⟩
  unfold Addr.add at this ⊢
  simpa using this
theorem StacksAt.in_ {h : Heap} {a : Option Addr} {l c : Nat} {sts : List (List PackV)} {hs : List Hdr} (t : StacksAt h a l c sts hs) : StacksIn h a l c sts hs :=
  ⟨t.len, t.rows, fun i ps d hp hd => let ⟨ds, g1, g2, _⟩ := t.packs i ps d hp hd; ⟨ds, g1, by omega⟩⟩
def fewStacks (sts : List (List PackV)) : List (List PackV) := (sts.take 9).map fewPacks
theorem few_small {ps : List PackV} (ok : ∀ p ∈ ps, p.ok ∧ ∀ r ∈ p.refs, r.ok) : Small (fewPacks ps) := by
  refine ⟨fun p hp => ⟨few_oks ok p hp, ?_⟩, few_len ps⟩
  unfold fewPacks at hp
  obtain ⟨q, _, rfl⟩ := List.mem_map.1 hp
  unfold fewPack; simp only [List.length_take]; omega
theorem StacksIn.small {h : Heap} {a : Option Addr} {l c : Nat} {sts : List (List PackV)} {hs : List Hdr} (t : StacksIn h a l c sts hs) : ∀ ps ∈ fewStacks sts, Small ps := by
  intro ps hps
  unfold fewStacks at hps
  obtain ⟨q, hq, rfl⟩ := List.mem_map.1 hps
  obtain ⟨i, hi⟩ := List.getElem?_of_mem (List.mem_of_mem_take hq)
  have hlt := (List.getElem?_eq_some_iff.1 hi).1
  have hl := t.len
  obtain ⟨ds, g1, _⟩ := t.packs i q _ hi (List.getElem?_eq_getElem (show i < hs.length by omega))
  exact few_small (PacksAt.oks g1)
theorem stacksOf_ok (a : Option Addr) (l c : Nat) (sts : List (List PackV)) (hs : List Hdr) (h : Heap) (hp : StacksIn h a l c sts hs) (hl : l < 9223372036854775808) :
    HEnt Tryd.prog 18 #[.slice a l c] h fun v h' => ∃ e es, v = .slice e.a e.l e.c ∧ StackTw h h' e (fewStacks sts) es := by
  have hlen := hp.length
  refine F18_ent _ _ _ _ _ ?_
  unfold F18
  rintro _ rfl
  refine ⟨fun a3 l3 c3 x hh => ∃ (i : Nat) (es : List Hdr), x = i ∧ i ≤ l ∧ i ≤ 9 ∧ l3 = i ∧ StackTw h hh ⟨a3, l3, c3⟩ ((sts.take i).map fewPacks) es, fun _ _ _ x _ => ((l : Int) - x).toNat, ⟨0, [], rfl, by omega, by omega, rfl, StackTw.nil (Ext.refl h)⟩, ?_⟩
  rintro h1 a3 i c3 _ ⟨_, es, rfl, hi, hi20, rfl, t⟩
  have done : (i = l ∨ i = 9) → F18_k4 a3 i c3 h1 fun v h' => ∃ e es, v = .slice e.a e.l e.c ∧ StackTw h h' e (fewStacks sts) es := by
    intro hd
    unfold F18_k4
    refine ⟨⟨a3, i, c3⟩, es, rfl, ?_⟩
    have : fewStacks sts = (sts.take i).map fewPacks := by
      unfold fewStacks
      rcases hd with rfl | rfl
      · rw [List.take_of_length_le (by omega), List.take_of_length_le (by omega)]
      · rfl
    rw [this]; exact t
  unfold F18_b1
  refine br_of (fun g => ?_) (fun g => ?_)
  case refine_2 =>
    have g' : i = l := by
      have : ¬ (i : Int) < (l : Int) := by simpa using g
      omega
    unfold F18_k2
    exact br_of (fun e => by cases e) (fun _ => done (.inl g'))
  have hil : i < l := by
    have : (i : Int) < (l : Int) := by simpa using g
    omega
  unfold F18_k2
  refine br_of (fun g => ?_) (fun g => done (.inr (by
    have : ¬ (i : Int) < 9 := by simpa using g
    omega)))
  have h20 : i < 9 := by
    have : (i : Int) < 9 := by simpa using g
    omega
  have x1 := t.ext
  obtain ⟨q, ps, d, ds, s1, e1, hc, hpk, hdl⟩ := (hp.grow x1).get hil
  unfold F18_k3
  refine ⟨q, e1, by omega, by omega, d.a, d.l, d.c, by rw [Int.toNat_natCast]; exact hc, HEnt.use (packsOf_ok d.a d.l d.c ps ds h1 hpk hdl) ?_⟩
  rintro _ h2 ⟨e2, es2, rfl, t2⟩
  have x2 : Ext h1 h2 := t2.ext
  refine ⟨_, _, _, rfl, by decide, newK_intro fun h3 hb3 x3 _ => ?_⟩
  refine ((t.grow x2).grow x3).app (e := ⟨a3, i, c3⟩) (d := e2) ((t2.since x1).grow x3) hb3 (by show i < _; omega) fun e' h4 hl4 t4 => ?_
  have hl4 : e'.l = i + 1 := hl4
  rintro _ rfl
  rw [wrap_succ i l hil hl]
  refine ⟨⟨i + 1, es ++ [e2], rfl, by omega, by omega, hl4, ?_⟩, less_succ i l hil⟩
  have : (sts.take (i + 1)).map fewPacks = (sts.take i).map fewPacks ++ [fewPacks ps] := by rw [takeR_succ s1, List.map_append]; rfl
  rw [this]
  exact t4
theorem sameStacks_ok (a : Option Addr) (l c : Nat) (a' : Option Addr) (l' c' : Nat) (sts : List (List PackV)) (hs hs' : List Hdr) (h : Heap) (t : StacksAt h a l c sts hs) (t' : StacksAt h a' l' c' sts hs') (hl : l < 9223372036854775808) :
    HEnt Tryd.prog 22 #[.slice a l c, .slice a' l' c'] h fun v h' => v = .bool true ∧ Ext h h' := by
  have e1 := t.length
  have e2 := t'.length
  have n1 := t.len
  have n2 := t'.len
  refine F22_ent _ _ _ _ _ _ _ _ ?_
  unfold F22
  refine br_of (fun g => by simp at g; omega) (fun _ => ?_)
  unfold F22_k1
  rintro _ rfl
  refine ⟨fun x h' => ∃ k : Nat, x = k ∧ k ≤ l ∧ Ext h h', fun x _ => (l - x).toNat, ⟨0, rfl, by omega, Ext.refl h⟩, ?_⟩
  rintro h1 _ ⟨k, rfl, hk, x1⟩
  unfold F22_b2
  refine br_of (fun ht => ?_) (fun hf => ?_)
  · have hk' : k < l := by
      have : (k : Int) < (l : Int) := by simpa using ht
      omega
    have s1 : sts[k]? = some (sts[k]'(by omega)) := List.getElem?_eq_getElem (by omega)
    have d1 : hs[k]? = some (hs[k]'(by omega)) := List.getElem?_eq_getElem (by omega)
    have d2 : hs'[k]? = some (hs'[k]'(by omega)) := List.getElem?_eq_getElem (by omega)
    obtain ⟨ds, g1, g2, g3⟩ := (t.grow x1).packs k _ _ s1 d1
    obtain ⟨ds', g1', g2', g3'⟩ := (t'.grow x1).packs k _ _ s1 d2
    generalize hs[k]'(by omega) = d at *
    generalize hs'[k]'(by omega) = d' at *
    have hz : (hs.map fun d => [Value.slice d.a d.l d.c])[k]? = some [.slice d.a d.l d.c] := by rw [List.getElem?_map, d1]; rfl
    have hz' : (hs'.map fun d => [Value.slice d.a d.l d.c])[k]? = some [.slice d'.a d'.l d'.c] := by rw [List.getElem?_map, d2]; rfl
    obtain ⟨q, eq, _, hc⟩ := (t.grow x1).rows.get hz
    obtain ⟨q', eq', _, hc'⟩ := (t'.grow x1).rows.get hz'
    have hc : Vc.cell h1 (q.add (k * 1)) = some (.slice d.a d.l d.c) := by
      have := hc 0 _ rfl
      unfold Addr.add at this ⊢
      simpa using this
    have hc' : Vc.cell h1 (q'.add (k * 1)) = some (.slice d'.a d'.l d'.c) := by
      have := hc' 0 _ rfl
      unfold Addr.add at this ⊢
      simpa using this
    unfold F22_k3
    refine ⟨Ext, Ext.refl, fun _ _ _ => Ext.trans, q, eq, by omega, by omega, d.a, d.l, d.c, fun w x => run_loadCell (x.some (by rw [Int.toNat_natCast]; exact hc)) Tryd.underlying22 rfl, q', eq', by omega, by omega, d'.a, d'.l, d'.c, fun w x => run_loadCell (x.some (by rw [Int.toNat_natCast]; exact hc')) Tryd.underlying22 rfl, ?_⟩
    refine HEnt.use (packs_same d.a d.l d.c d'.a d'.l d'.c _ ds ds' h1 g1 g1' (by omega) (fun y hy => by have := g3 y hy; omega)) ?_
    rintro _ h2 ⟨rfl, x2⟩
    refine ⟨true, rfl, x2, br_of (fun e => by cases e) (fun _ => ?_)⟩
    unfold F22_k4
    rintro _ rfl
    rw [wrap_succ k l hk' hl]
    exact ⟨⟨k + 1, rfl, by omega, x1.trans x2⟩, less_succ k l hk'⟩
  · unfold F22_k5
    exact ⟨rfl, x1⟩
end Go.Proofs.YtfknpbgneeefjaaDoor
