import Derived.Test.YtfknpbgneeefjaaDoorPlanZ
import Derived.Test.YtfknpbgneeefjaaDoorVppM
import Derived.Test.YtfknpbgneeefjaaDoorVppL

namespace Go.Plan
open Go.Vc Go.Sha Go.Trail Go.Packs Go.Man
set_option linter.unusedVariables false
/-- the last plan of a root, or what stood there -/
def lastP (l : List PackV) (pl : List PlanV) (r : Int) : List PackV := pl.foldl (fun acc p => if p.1 = r then p.2 else acc) l
theorem foldl_last : ∀ (pl : List PlanV) (acc : List (List PackV)) (r : Int), 1 ≤ r ∧ r ≤ 6 → acc.length = 6 → (pl.foldl putS1 acc).getD (r - 1).toNat [] = lastP (acc.getD (r - 1).toNat []) pl r
  | [], acc, r, _, _ => rfl
  | (q, x) :: t, acc, r, hr, ha => by
    rw [List.foldl_cons, foldl_last t _ r hr (by rw [putS1_len, ha])]
    unfold lastP
    rw [List.foldl_cons]
    congr 1
    unfold putS1
    simp only
    by_cases e : q = r
    · subst e
      rw [if_pos hr, if_pos rfl, List.getD_eq_getElem?_getD, List.getElem?_set, if_pos rfl, if_pos (by omega)]; rfl
    · rw [if_neg e]
      split
      · rw [List.getD_eq_getElem?_getD, List.getElem?_set, if_neg (by omega), List.getD_eq_getElem?_getD]
      · rfl
theorem putS_last (sts : List (List PackV)) (pl : List PlanV) (r : Int) (hr : 1 ≤ r ∧ r ≤ 6) : (putS sts pl)[(r - 1).toNat]? = some (lastP (stackC sts r) pl r) := by
  have h := foldl_last pl (baseS sts) r hr (baseS_len sts)
  rw [baseS_get sts r hr, ← stackC_get sts r hr.1, List.getD_eq_getElem?_getD] at h
  have hl := putS_len sts pl
  rw [List.getElem?_eq_getElem (by omega)]
  unfold putS at hl ⊢
  rw [List.getElem?_eq_getElem (by omega)] at h
  rw [← h]; rfl
end Go.Plan
namespace Go.Proofs.YtfknpbgneeefjaaDoor
open Go.Vc Go.Sha Go.Trail Go.Packs Go.Plan Go.Man
set_option linter.unusedVariables false
set_option linter.unusedSimpArgs false
set_option maxRecDepth 20000
theorem lastP_succ {pl : List PlanV} {k : Nat} {p : PlanV} (h : pl[k]? = some p) (l : List PackV) (r : Int) : lastP l (pl.take (k + 1)) r = if p.1 = r then p.2 else lastP l (pl.take k) r := by
  unfold lastP
  rw [takeR_succ h, List.foldl_append]; rfl
/-- a header whose packages are these -/
def Hd (h : Heap) (ps : List PackV) (d : Hdr) : Prop := ∃ ds, PacksAt h d.a d.l d.c ps ds ∧ d.l < 1099511627776 ∧ ∀ x ∈ ds, x.l ≤ 1099511627776
theorem Hd.grow {h h' : Heap} {ps : List PackV} {d : Hdr} (t : Hd h ps d) (x : Ext h h') : Hd h' ps d := let ⟨ds, g1, g2⟩ := t; ⟨ds, g1.grow x, g2⟩
theorem Hd.nil (h : Heap) : Hd h [] ⟨none, 0, 0⟩ := ⟨[], ⟨rfl, Tab.empty _ _ _ _, fun i p d hp _ => by simp at hp, by simp⟩, by decide, by simp⟩
theorem Hd.of {h : Heap} {a : Option Addr} {l c : Nat} {ps : List PackV} {ds : List Hdr} (t : PacksAt h a l c ps ds) (g : Small ps) : Hd h ps ⟨a, l, c⟩ := by
  refine ⟨ds, t, ?_, fun x hx => ?_⟩
  · have := t.length
    have := g.2
    show l < _; omega
  · obtain ⟨i, hi⟩ := List.getElem?_of_mem hx
    have hlt := (List.getElem?_eq_some_iff.1 hi).1
    have hl := t.len
    have p1 : ps[i]? = some (ps[i]'(by omega)) := List.getElem?_eq_getElem (by omega)
    have o := (t.refs i _ x p1 hi).rows.len
    have := (g.1 _ (List.mem_of_getElem? p1)).2
    rw [List.length_map] at o
    omega
theorem at_ok (a : Option Addr) (l c : Nat) (sts : List (List PackV)) (hs : List Hdr) (r : Int) (h0 h : Heap) (t : StacksAt h0 a l c sts hs) (x : Ext h0 h) (hl : l < 9223372036854775807) :
    HEnt Tryd.prog 45 #[.slice a l c, .int .i64 r] h fun v h' => ∃ d : Hdr, v = .slice d.a d.l d.c ∧ h' = h ∧ Hd h0 (stackC sts r) d := by
  have hsl := t.length
  have hln := t.len
  refine F45_ent _ _ _ _ _ _ ?_
  unfold F45
  have k1 : ∀ b, (b = true ↔ ¬ (1 ≤ r ∧ r ≤ (l : Int))) → F45_k1 a l c r b h fun v h' => ∃ d : Hdr, v = .slice d.a d.l d.c ∧ h' = h ∧ Hd h0 (stackC sts r) d := by
    intro b hb
    unfold F45_k1
    refine br_of (fun e => ?_) (fun e => ?_)
    · have := hb.1 e
      have : stackC sts r = [] := by unfold stackC; rw [if_neg (by omega)]
      rw [this]
      exact ⟨⟨none, 0, 0⟩, rfl, rfl, Hd.nil h0⟩
    · have hr : 1 ≤ r ∧ r ≤ (l : Int) := Classical.byContradiction fun e2 => by rw [hb.2 e2] at e; cases e
      have ew : IntKind.i64.wrap (r - 1) = (((r - 1).toNat : Nat) : Int) := by rw [i64_lt _ (by omega) (by omega)]; omega
      obtain ⟨n, hn⟩ : ∃ n, (r - 1).toNat = n := ⟨_, rfl⟩
      rw [hn] at ew
      have s1 : sts[n]? = some (sts[n]'(by omega)) := List.getElem?_eq_getElem (by omega)
      have d1 : hs[n]? = some (hs[n]'(by omega)) := List.getElem?_eq_getElem (by omega)
      have hst : stackC sts r = sts[n]'(by omega) := by
        rw [stackC_get sts r hr.1, hn, List.getD_eq_getElem?_getD, s1]; rfl
      have hz : (hs.map fun d => [Value.slice d.a d.l d.c])[n]? = some [.slice (hs[n]'(by omega)).a (hs[n]'(by omega)).l (hs[n]'(by omega)).c] := by rw [List.getElem?_map, d1]; rfl
      obtain ⟨q, eq, _, hc⟩ := (t.grow x).rows.get hz
      have hc : Vc.cell h (q.add (n * 1)) = some (.slice (hs[n]'(by omega)).a (hs[n]'(by omega)).l (hs[n]'(by omega)).c) := by
        have := hc 0 _ rfl
        unfold Addr.add at this ⊢
        simpa using this
      unfold F45_k2
      rw [ew, Int.toNat_natCast]
      refine ⟨q, eq, by omega, by omega, _, _, _, hc, hs[n]'(by omega), rfl, rfl, ?_⟩
      rw [hst]
      exact t.packs n _ _ s1 d1
  refine br_of (fun g => k1 _ ⟨fun _ => by simp at g; omega, fun _ => rfl⟩) (fun g => ?_)
  have g : ¬ r < 1 := by simpa using g
  refine k1 _ ⟨fun e => by simp at e; omega, fun e => by simp; omega⟩
/-- rows of headers of one's own; what they lead to lies where it lay -/
structure StackLent (h0 h : Heap) (e : Hdr) (sts : List (List PackV)) (hs : List Hdr) : Prop where
  len : hs.length = sts.length
  rows : OwnR 22 1 h0 h e.a e.l e.c (hs.map sliceC)
  packs : ∀ (i : Nat) (ps : List PackV) (d : Hdr), sts[i]? = some ps → hs[i]? = some d → Hd h0 ps d
theorem StackLent.nil (h : Heap) : StackLent h h ⟨none, 0, 0⟩ [] [] := ⟨rfl, OwnR.nil _ _ (Ext.refl h), fun i p d hp _ => by simp at hp⟩
theorem StackLent.grow {h0 h h' : Heap} {e : Hdr} {sts : List (List PackV)} {hs : List Hdr} (t : StackLent h0 h e sts hs) (x : Ext h h') : StackLent h0 h' e sts hs := ⟨t.len, t.rows.grow x, t.packs⟩
theorem StackLent.stacks {h0 h : Heap} {e : Hdr} {sts : List (List PackV)} {hs : List Hdr} (t : StackLent h0 h e sts hs) : StacksAt h e.a e.l e.c sts hs :=
  ⟨t.len, t.rows.rows, fun i ps d hp hd => (t.packs i ps d hp hd).grow t.rows.ext⟩
theorem StackLent.app {h0 h : Heap} {e d : Hdr} {sts : List (List PackV)} {hs : List Hdr} {ps : List PackV} {b : Nat} {K : Option Addr → Nat → Nat → Heap → Prop} (t : StackLent h0 h e sts hs) (hd : Hd h0 ps d) (hb : h[b]? = some (.cells (sliceC d).toArray 22 (0, 0))) (room : e.l < 1099511627776)
    (hK : ∀ e' h', e'.l = e.l + 1 → StackLent h0 h' e' (sts ++ [ps]) (hs ++ [d]) → K e'.a e'.l e'.c h') : appK Tryd.prog 22 h e.a e.l e.c (.slice (some (at0 b)) 1 1) K := by
  refine appK_R (new := [sliceC d]) (m := 1) size22' t.rows (srcK_slice rfl (fun ad e => by cases e; exact cells_blk0 hb) (by rintro ⟨⟩)) rfl (by intro r hr; simp at hr; subst hr; rfl) (by intro r hr u hu; simp at hr; subst hr; simp [sliceC] at hu; subst hu; rfl) (by rw [bytes22]; omega) z22 fun a' c' h' o' k' _ => hK ⟨a', e.l + 1, c'⟩ h' rfl ⟨by simp [t.len], by rw [List.map_append]; exact o', fun i q x hq hx => ?_⟩
  have hlen := t.len
  by_cases hi : i < sts.length
  · rw [List.getElem?_append_left (by omega)] at hq hx
    exact t.packs i q x hq hx
  · have hi2 := (List.getElem?_eq_some_iff.1 hq).1
    simp at hi2
    rw [List.getElem?_append_right (by omega), show i - sts.length = 0 by omega] at hq
    rw [List.getElem?_append_right (by omega), show i - hs.length = 0 by omega] at hx
    simp at hq hx
    subst hq; subst hx
    exact hd
theorem refPut_ok (a : Option Addr) (l c : Nat) (sts : List (List PackV)) (hs : List Hdr) (a1 : Option Addr) (l1 c1 : Nat) (pl : List PlanV) (hp : List Hdr) (h : Heap) (t0 : StacksAt h a l c sts hs) (t1 : PlansIn h a1 l1 c1 pl hp) (hsm : ∀ p ∈ pl, Small p.2) (hl : l < 9223372036854775807) (hl1 : l1 < 9223372036854775807) :
    HEnt Tryd.prog 25 #[.slice a l c, .slice a1 l1 c1] h fun v h' => ∃ e es, v = .slice e.a e.l e.c ∧ StackLent h h' e (putS sts pl) es := by
  have hpl := t1.length
  refine F25_ent _ _ _ _ _ _ _ _ ?_
  unfold F25
  rintro _ rfl
  refine ⟨fun a5 l5 c5 x hh => ∃ (i : Nat) (es : List Hdr), x = ((i + 1 : Nat) : Int) ∧ i ≤ 6 ∧ l5 = i ∧ StackLent h hh ⟨a5, l5, c5⟩ ((putS sts pl).take i) es, fun _ _ _ x _ => ((7 : Int) - x).toNat, ⟨0, [], rfl, by omega, rfl, StackLent.nil h⟩, ?_⟩
  rintro h1 a5 i c5 _ ⟨_, es, rfl, hi, rfl, t⟩
  have x1 := t.rows.ext
  unfold F25_b1
  refine br_of (fun g => ?_) (fun g => ?_)
  case refine_2 =>
    have : i = 6 := by
      have : ¬ ((i + 1 : Nat) : Int) ≤ 6 := by simpa using g
      omega
    subst this
    unfold F25_k8
    rw [List.take_of_length_le (by rw [putS_len]; omega)] at t
    exact ⟨⟨a5, 6, c5⟩, es, rfl, t⟩
  have hi6 : i < 6 := by
    have : ((i + 1 : Nat) : Int) ≤ 6 := by simpa using g
    omega
  have hr : 1 ≤ ((i + 1 : Nat) : Int) ∧ ((i + 1 : Nat) : Int) ≤ 6 := ⟨by omega, by omega⟩
  have hlast := putS_last sts pl _ hr
  rw [show (((i + 1 : Nat) : Int) - 1).toNat = i by omega] at hlast
  generalize hrr : ((i + 1 : Nat) : Int) = r at *
  unfold F25_k2
  refine HEnt.use (at_ok a l c sts hs r h h1 t0 x1 hl) ?_
  rintro _ _ ⟨d0, rfl, rfl, hd0⟩
  refine ⟨_, _, _, rfl, ?_⟩
  rintro _ rfl
  refine ⟨fun a7 l7 c7 y hh => ∃ k : Nat, y = k ∧ k ≤ l1 ∧ Hd h (lastP (stackC sts r) (pl.take k) r) ⟨a7, l7, c7⟩ ∧ StackLent h hh ⟨a5, i, c5⟩ ((putS sts pl).take i) es, fun _ _ _ y _ => ((l1 : Int) - y).toNat, ⟨0, rfl, by omega, hd0, t⟩, ?_⟩
  rintro h2 a7 l7 c7 _ ⟨k, rfl, hk, hd, t2⟩
  have x2 := t2.rows.ext
  unfold F25_b3
  refine br_of (fun g2 => ?_) (fun g2 => ?_)
  · have hkl : k < l1 := by
      have : (k : Int) < (l1 : Int) := by simpa using g2
      omega
    obtain ⟨q, p, d, s1, d1, eq, c0, c1⟩ := (t1.grow x2).get hkl
    have hlt := lastP_succ s1 (stackC sts r) r
    unfold F25_k4
    refine ⟨q, eq, by omega, by omega, p.1, by rw [Int.toNat_natCast]; exact c0, br_of (fun e => ?_) (fun e => ?_)⟩
    · have e : p.1 = r := by simpa using e
      rw [if_pos e] at hlt
      obtain ⟨ds, p1, p2, p3⟩ := t1.packs k p d s1 d1
      have hdd : Hd h p.2 ⟨d.a, d.l, d.c⟩ := Hd.of p1 (hsm p (List.mem_of_getElem? s1))
      refine ⟨q, eq, by omega, by omega, d.a, d.l, d.c, by rw [Int.toNat_natCast]; exact c1, ?_⟩
      unfold F25_k5
      rintro _ rfl
      rw [wrap_succ k l1 hkl (by omega)]
      exact ⟨⟨k + 1, rfl, by omega, by rw [hlt]; exact hdd, t2⟩, less_succ k l1 hkl⟩
    · have e : ¬ p.1 = r := by simpa using e
      rw [if_neg e] at hlt
      unfold F25_k5
      rintro _ rfl
      rw [wrap_succ k l1 hkl (by omega)]
      exact ⟨⟨k + 1, rfl, by omega, by rw [hlt]; exact hd, t2⟩, less_succ k l1 hkl⟩
  · have hkl : k = l1 := by
      have : ¬ (k : Int) < (l1 : Int) := by simpa using g2
      omega
    rw [List.take_of_length_le (by omega)] at hd
    unfold F25_k6
    refine ⟨by decide, newK_intro fun h3 hb3 x3 _ => ?_⟩
    refine (t2.grow x3).app (e := ⟨a5, i, c5⟩) (d := ⟨a7, l7, c7⟩) hd hb3 (by show i < _; omega) fun e' h4 hl' t4 => ?_
    have hl' : e'.l = i + 1 := hl'
    unfold F25_k7
    rintro _ rfl
    have hw : IntKind.i64.wrap (r + 1) = ((i + 1 + 1 : Nat) : Int) := by rw [i64_lt _ (by omega) (by omega)]; omega
    rw [hw]
    refine ⟨⟨i + 1, es ++ [⟨a7, l7, c7⟩], rfl, by omega, hl', ?_⟩, by show ((7 : Int) - ((i + 1 + 1 : Nat) : Int)).toNat < ((7 : Int) - r).toNat; omega⟩
    rw [takeR_succ hlast]
    exact t4
end Go.Proofs.YtfknpbgneeefjaaDoor

namespace Go.Plan
open Go.Vc Go.Sha Go.Trail Go.Packs Go.Man
set_option linter.unusedVariables false
/-- the plans of the roots up to k, in order -/
def outP (pl : List PlanV) (k : Nat) : List PlanV := (List.range k).filterMap fun j => (lookP pl ((j + 1 : Nat) : Int)).map fun x => (((j + 1 : Nat) : Int), x)
theorem outP_succ (pl : List PlanV) (k : Nat) : outP pl (k + 1) = outP pl k ++ (match lookP pl ((k + 1 : Nat) : Int) with | some x => [(((k + 1 : Nat) : Int), x)] | none => []) := by
  unfold outP
  rw [List.range_succ, List.filterMap_append]
  congr 1
  simp only [List.filterMap_cons, List.filterMap_nil]
  cases lookP pl ((k + 1 : Nat) : Int) <;> rfl
theorem outP_mem (pl : List PlanV) (k : Nat) (p : PlanV) : p ∈ outP pl k ↔ (1 ≤ p.1 ∧ p.1 ≤ k) ∧ lookP pl p.1 = some p.2 := by
  unfold outP
  rw [List.mem_filterMap]
  constructor
  · rintro ⟨j, hj, h⟩
    obtain ⟨x, h1, rfl⟩ := Option.map_eq_some_iff.1 h
    have := List.mem_range.1 hj
    exact ⟨⟨by show (1 : Int) ≤ ((j + 1 : Nat) : Int); omega, by show ((j + 1 : Nat) : Int) ≤ _; omega⟩, h1⟩
  · rintro ⟨⟨h1, h2⟩, h3⟩
    obtain ⟨r, x⟩ := p
    simp only at h1 h2 h3
    refine ⟨(r - 1).toNat, List.mem_range.2 (by omega), ?_⟩
    rw [show (((r - 1).toNat + 1 : Nat) : Int) = r by omega, h3]; rfl
theorem outP_pair (pl : List PlanV) : ∀ k, (outP pl k).Pairwise fun p q => p.1 < q.1
  | 0 => List.Pairwise.nil
  | k + 1 => by
    rw [outP_succ, List.pairwise_append]
    refine ⟨outP_pair pl k, ?_, fun p hp q hq => ?_⟩
    · cases lookP pl ((k + 1 : Nat) : Int) <;> simp
    · have := ((outP_mem pl k p).1 hp).1
      cases h : lookP pl ((k + 1 : Nat) : Int) with
      | none => rw [h] at hq; simp at hq
      | some x => rw [h] at hq; simp at hq; subst hq; show p.1 < ((k + 1 : Nat) : Int); omega
theorem outP_perm {pl : List PlanV} (g : (pl.map Prod.fst).Nodup) (hr : ∀ p ∈ pl, 1 ≤ p.1 ∧ p.1 ≤ 6) : (outP pl 6).Perm pl := by
  refine (List.perm_ext_iff_of_nodup ?_ ?_).2 fun p => ?_
  · exact (outP_pair pl 6).imp fun h e => by rw [e] at h; omega
  · exact (List.pairwise_map.1 g).imp fun h e => h (by rw [e])
  · rw [outP_mem, lookP_mem g]
    constructor
    · exact fun h => h.2
    · exact fun h => ⟨hr p h, h⟩
def namedP (pl : List PlanV) : List Value := (List.range 7).map fun j : Nat => Value.bool (lookP pl (j : Int)).isSome
theorem named_len (pl : List PlanV) : (namedP pl).length = 7 := by simp [namedP]
theorem named_get (pl : List PlanV) (j : Nat) (hj : j < 7) : (namedP pl)[j]? = some (.bool (lookP pl (j : Int)).isSome) := by
  unfold namedP
  rw [List.getElem?_map, List.getElem?_range hj]; rfl
theorem named_bool (pl : List PlanV) : ∀ (i : Nat) (v : Value), (namedP pl).toArray[i]? = some v → ∃ b, v = .bool b := by
  intro i v h
  rw [List.getElem?_toArray] at h
  have := List.mem_of_getElem? h
  unfold namedP at this
  obtain ⟨j, _, rfl⟩ := List.mem_map.1 this
  exact ⟨_, rfl⟩
theorem named_put (pl : List PlanV) (r : Int) (x : List PackV) (hr : 1 ≤ r ∧ r ≤ 6) : (namedP pl).toArray.setIfInBounds r.toNat (.bool true) = (namedP (putP pl r x)).toArray := by
  apply Array.ext_getElem?
  intro j
  rw [Array.getElem?_setIfInBounds, List.getElem?_toArray, List.getElem?_toArray]
  simp only [List.size_toArray, named_len]
  by_cases hj : j < 7
  · rw [named_get _ j hj, named_get _ j hj, lookP_put]
    by_cases e : r.toNat = j
    · subst e
      rw [if_pos rfl, if_pos (by omega), if_pos (by omega)]; rfl
    · rw [if_neg e, if_neg (by omega)]
  · rw [if_neg (by omega), List.getElem?_eq_none (by rw [named_len]; omega), List.getElem?_eq_none (by rw [named_len]; omega)]
end Go.Plan
namespace Go.Proofs.YtfknpbgneeefjaaDoor
open Go.Vc Go.Sha Go.Trail Go.Packs Go.Plan Go.Man
set_option linter.unusedVariables false
set_option linter.unusedSimpArgs false
set_option maxRecDepth 20000
/-- rows that begin with no bool do not lie in a block of bools -/
theorem Tab.shun {n : Nat} {h h' : Heap} {a : Option Addr} {l c b : Nat} {rows : List (List Value)} {cs : Array Value} {t : TypeId} {fr : Nat × Nat} (w : Tab n h a l c rows) (hb : h[b]? = some (.cells cs t fr)) (hcs : ∀ (i : Nat) (v : Value), cs[i]? = some v → ∃ x, v = .bool x) (hr : ∀ r ∈ rows, ∃ v, r[0]? = some v ∧ ∀ x, v ≠ .bool x) (k : Keep (· = b) h h') : Tab n h' a l c rows := by
  refine ⟨w.len, w.cap, w.row, fun hne => ?_, w.nil⟩
  obtain ⟨b', o, e, hb', hc⟩ := w.at_ hne
  have hne' : b' ≠ b := by
    rintro rfl
    match rows, hne with
    | r :: rs, _ =>
      obtain ⟨v, hv, hnv⟩ := hr r (by simp)
      have := hc 0 r rfl 0 v hv
      rw [cell_blk hb] at this
      obtain ⟨x, rfl⟩ := hcs _ _ this
      exact hnv x rfl
  refine ⟨b', o, e, Nat.lt_of_lt_of_le hb' k.size, fun i r hi j v hj => ?_⟩
  rw [← hc i r hi j v hj]; simp only [cell, k.block b' hb' hne']
theorem RefsAt.shun {h h' : Heap} {a : Option Addr} {l c b : Nat} {rs : List RefV} {cs : Array Value} {t : TypeId} {fr : Nat × Nat} (w : RefsAt h a l c rs) (hb : h[b]? = some (.cells cs t fr)) (hcs : ∀ (i : Nat) (v : Value), cs[i]? = some v → ∃ x, v = .bool x) (k : Keep (· = b) h h') : RefsAt h' a l c rs :=
  ⟨Tab.shun w.rows hb hcs (fun r hr => by
    obtain ⟨q, hq, rfl⟩ := List.mem_map.1 hr
    have := (w.ok q hq).1
    match hs : q.sum, this with
    | x :: xs, _ => exact ⟨.int .u8 x, by unfold RefV.cells sumCells; rw [hs]; rfl, by rintro _ ⟨⟩⟩) k, w.ok⟩
theorem PacksAt.shun {h h' : Heap} {a : Option Addr} {l c b : Nat} {ps : List PackV} {ds : List Hdr} {cs : Array Value} {t : TypeId} {fr : Nat × Nat} (w : PacksAt h a l c ps ds) (hb : h[b]? = some (.cells cs t fr)) (hcs : ∀ (i : Nat) (v : Value), cs[i]? = some v → ∃ x, v = .bool x) (k : Keep (· = b) h h') : PacksAt h' a l c ps ds :=
  ⟨w.len, Tab.shun w.rows hb hcs (fun r hr => by
    obtain ⟨i, hi⟩ := List.getElem?_of_mem hr
    rw [List.getElem?_zipWith] at hi
    split at hi
    · cases hi; exact ⟨_, rfl, by rintro _ ⟨⟩⟩
    · cases hi) k, fun i p d hp hd => RefsAt.shun (w.refs i p d hp hd) hb hcs k, w.ok⟩
theorem StacksAt.shun {h h' : Heap} {a : Option Addr} {l c b : Nat} {sts : List (List PackV)} {hs : List Hdr} {cs : Array Value} {t : TypeId} {fr : Nat × Nat} (w : StacksAt h a l c sts hs) (hb : h[b]? = some (.cells cs t fr)) (hcs : ∀ (i : Nat) (v : Value), cs[i]? = some v → ∃ x, v = .bool x) (k : Keep (· = b) h h') : StacksAt h' a l c sts hs :=
  ⟨w.len, Tab.shun w.rows hb hcs (fun r hr => by
    obtain ⟨d, _, rfl⟩ := List.mem_map.1 hr
    exact ⟨_, rfl, by rintro _ ⟨⟩⟩) k, fun i ps d hp hd => by
    obtain ⟨ds, g1, g2⟩ := w.packs i ps d hp hd
    exact ⟨ds, PacksAt.shun g1 hb hcs k, g2⟩⟩
/-- plans in rows of one's own; their packages lie where they lay -/
structure PlanLent (h0 h : Heap) (e : Hdr) (pl : List PlanV) (hs : List Hdr) : Prop where
  len : hs.length = pl.length
  rows : OwnR 49 2 h0 h e.a e.l e.c (List.zipWith planC pl hs)
  packs : ∀ (i : Nat) (p : PlanV) (d : Hdr), pl[i]? = some p → hs[i]? = some d → Hd h0 p.2 d
theorem PlanLent.nil (h : Heap) : PlanLent h h ⟨none, 0, 0⟩ [] [] := ⟨rfl, OwnR.nil _ _ (Ext.refl h), fun i p d hp _ => by simp at hp⟩
theorem PlanLent.grow {h0 h h' : Heap} {e : Hdr} {pl : List PlanV} {hs : List Hdr} (t : PlanLent h0 h e pl hs) (x : Ext h h') : PlanLent h0 h' e pl hs := ⟨t.len, t.rows.grow x, t.packs⟩
theorem PlanLent.in_ {h0 h : Heap} {e : Hdr} {pl : List PlanV} {hs : List Hdr} (t : PlanLent h0 h e pl hs) : PlansIn h e.a e.l e.c pl hs :=
  ⟨t.len, t.rows.rows, fun i p d hp hd => by
    obtain ⟨ds, g1, g2, g3⟩ := (t.packs i p d hp hd).grow t.rows.ext
    exact ⟨ds, g1, by omega, g3⟩⟩
theorem PlanLent.app {h0 h : Heap} {e d : Hdr} {pl : List PlanV} {hs : List Hdr} {p : PlanV} {b : Nat} {K : Option Addr → Nat → Nat → Heap → Prop} (t : PlanLent h0 h e pl hs) (hd : Hd h0 p.2 d) (hb : h[b]? = some (.cells (planC p d).toArray 49 (0, 0))) (room : e.l < 1099511627776)
    (hK : ∀ e' h', e'.l = e.l + 1 → PlanLent h0 h' e' (pl ++ [p]) (hs ++ [d]) → K e'.a e'.l e'.c h') : appK Tryd.prog 49 h e.a e.l e.c (.slice (some (at0 b)) 1 1) K := by
  refine appK_R (new := [planC p d]) (m := 1) size49 t.rows (srcK_slice rfl (fun ad e => by cases e; exact cells_blk0 hb) (by rintro ⟨⟩)) rfl (by intro r hr; simp at hr; subst hr; rfl) (by intro r hr; simp at hr; subst hr; exact plan_one p d) (by rw [bytes49]; omega) z49 fun a' c' h' o' k' _ => hK ⟨a', e.l + 1, c'⟩ h' rfl ⟨by simp [t.len], ?_, fun i q x hq hx => ?_⟩
  · have : List.zipWith planC (pl ++ [p]) (hs ++ [d]) = List.zipWith planC pl hs ++ [planC p d] := by
      rw [List.zipWith_append t.len.symm]; rfl
    rw [this]; exact o'
  · have hlen := t.len
    by_cases hi : i < pl.length
    · rw [List.getElem?_append_left (by omega)] at hq hx
      exact t.packs i q x hq hx
    · have hi2 := (List.getElem?_eq_some_iff.1 hq).1
      simp at hi2
      rw [List.getElem?_append_right (by omega), show i - pl.length = 0 by omega] at hq
      rw [List.getElem?_append_right (by omega), show i - hs.length = 0 by omega] at hx
      simp at hq hx
      subst hq; subst hx
      exact hd
def RefAllR (h0 : Heap) (res : List PlanV × Nat × Nat) : Value → Heap → Prop := fun v h' => ∃ a l c pl hs, v = .tuple #[.slice a l c, .int .i64 res.2.1, .int .i64 res.2.2] ∧ PlansIn h' a l c pl hs ∧ InOrder pl res.1 ∧ Ext h0 h'
theorem made4 : mkCells (zeroC Tryd.prog 4) (7 * 1) = (namedP []).toArray := by kernel_rfl
theorem planIn_one {h h' : Heap} {b : Nat} {p : PlanV} {d : Hdr} (hb : h'[b]? = some (.cells (planC p d).toArray 49 (0, 0))) (x : Ext h h') (hsz : h.size ≤ b) (hd : Hd h' p.2 d) : PlansIn h' (some (at0 b)) 1 1 [p] [d] := by
  have own : OwnR 49 2 h h' (some ⟨b, 0, none⟩) 1 1 [planC p d] := OwnR.new_ (rows := [planC p d]) hb x hsz (by intro r hr; simp at hr; subst hr; rfl) rfl
  refine ⟨rfl, own.rows, fun i p' d' h1 h2 => ?_⟩
  match i, h1, h2 with
  | 0, h1, h2 =>
    cases h1; cases h2
    obtain ⟨ds, g1, g2, g3⟩ := hd
    exact ⟨ds, g1, by omega, g3⟩
theorem refAll_ok (a : Option Addr) (l c : Nat) (sts : List (List PackV)) (hs : List Hdr) (owner : Int) (a2 : Option Addr) (l2 c2 : Nat) (os : List OpV) (ds : List Hdr) (h : Heap) (hst : StacksAt h a l c sts hs) (hsm : ∀ ps ∈ sts, Small ps) (hop : OpsAt h a2 l2 c2 os ds)
    (hl : l < 9223372036854775807) :
    HEnt Tryd.prog 20 #[.slice a l c, .int .i64 owner, .slice a2 l2 c2] h (RefAllR h (allC sts owner os)) := by
  have hlen := hop.length
  have bad : ∀ {h' : Heap} (i n : Nat), Ext h h' → allC sts owner os = ([], i, n) → RefAllR h (allC sts owner os) (.tuple #[.slice none 0 0, .int .i64 i, .int .i64 n]) h' := fun i n x e => ⟨none, 0, 0, [], [], by rw [e], PlansIn.nil _, by rw [e]; exact ⟨List.Perm.refl _, fun i j p q _ hp _ => by simp at hp⟩, x⟩
  refine F20_ent _ _ _ _ _ _ _ _ _ ?_
  unfold F20
  refine br_of (fun g => ?_) (fun g => ?_)
  · have g' : l2 = 0 := by simpa using g
    exact bad 0 9 (Ext.refl h) (by unfold allC; rw [if_pos (by omega)])
  unfold F20_k1
  refine br_of (fun g8 => ?_) (fun g8 => ?_)
  · have g' : ¬ l2 = 0 := by simpa using g
    have g8' : l2 > 8 := by simp at g8; omega
    exact bad 0 3 (Ext.refl h) (by unfold allC; rw [if_neg (by omega), if_pos (by omega)])
  have g' : ¬ l2 = 0 := by simpa using g
  have g8' : ¬ l2 > 8 := by simp at g8; omega
  have hall : allC sts owner os = runC sts owner [] 0 os := by unfold allC; rw [if_neg (by omega), if_neg (by omega)]
  unfold F20_k2
  refine HEnt.use (refPut_ok a l c sts hs none 0 0 [] [] h hst (PlansIn.nil h) (by simp) hl (by decide)) ?_
  rintro _ h1 ⟨e1, es1, rfl, t1⟩
  have x1 : Ext h h1 := t1.rows.ext
  refine ⟨_, _, _, rfl, by decide, by decide, by decide, by decide, newK_intro fun h2 hb2 x2 _ => ?_⟩
  rw [made4] at hb2
  refine ⟨fun a9 l9 c9 x hh => ∃ (i : Nat) (pl : List PlanV) (hn : List Hdr), x = i ∧ i ≤ l2 ∧ l9 = 6 ∧ StacksAt hh a9 l9 c9 (putS sts pl) hn ∧ GoodPl pl ∧ runC sts owner [] 0 os = runC sts owner pl i (os.drop i) ∧ hh[h1.size]? = some (.cells (namedP pl).toArray 4 (0, 0)) ∧ Ext h1 hh, fun _ _ _ x _ => ((l2 : Int) - x).toNat, ⟨0, [], es1, rfl, by omega, by have := t1.stacks.length; rw [putS_len] at this; exact this.symm, t1.stacks.grow x2, ⟨by simp, by simp⟩, rfl, hb2, x2⟩, ?_⟩
  rintro h3 a9 l9 c9 _ ⟨i, pl, hn, rfl, hi, rfl, tn, gp, hrun, hbn, x13⟩
  have x03 := x1.trans x13
  have smp := putS_small hsm gp
  unfold F20_b3
  refine br_of (fun gi => ?_) (fun gi => ?_)
  case refine_2 =>
    have hil : i = l2 := by
      have : ¬ (i : Int) < (l2 : Int) := by simpa using gi
      omega
    subst hil
    have hres : allC sts owner os = (pl, 0, 0) := by
      rw [hall, hrun, List.drop_of_length_le (by omega)]; rfl
    unfold F20_k7
    refine ⟨fun a14 l14 c14 x hh => ∃ (k : Nat) (ho : List Hdr), x = ((k + 1 : Nat) : Int) ∧ k ≤ 6 ∧ l14 ≤ k ∧ PlanLent h3 hh ⟨a14, l14, c14⟩ (outP pl k) ho, fun _ _ _ x _ => ((7 : Int) - x).toNat, ⟨0, [], rfl, by omega, by omega, PlanLent.nil h3⟩, ?_⟩
    rintro h4 a14 l14 c14 _ ⟨k, ho, rfl, hk, hlk, to⟩
    have x4 := to.rows.ext
    unfold F20_b8
    refine br_of (fun gk => ?_) (fun gk => ?_)
    case refine_2 =>
      have hk6 : k = 6 := by
        have : ¬ ((k + 1 : Nat) : Int) ≤ 6 := by simpa using gk
        omega
      subst hk6
      unfold F20_k11
      rw [hres]
      refine ⟨a14, l14, c14, outP pl 6, ho, rfl, to.in_, ⟨outP_perm gp.2 fun p hp => (gp.1 p hp).1, fun i j p q hij hp hq => ?_⟩, x03.trans x4⟩
      have hpw := outP_pair pl 6
      rw [List.pairwise_iff_getElem] at hpw
      obtain ⟨li, rfl⟩ := List.getElem?_eq_some_iff.1 hp
      obtain ⟨lj, rfl⟩ := List.getElem?_eq_some_iff.1 hq
      exact Int.le_of_lt (hpw i j li lj hij)
    have hk6 : k < 6 := by
      have : ((k + 1 : Nat) : Int) ≤ 6 := by simpa using gk
      omega
    have hb4 := x4.blk hbn
    have hw : IntKind.i64.wrap (((k + 1 : Nat) : Int) + 1) = ((k + 1 + 1 : Nat) : Int) := by rw [i64_lt _ (by omega) (by omega)]; omega
    have hw1 : IntKind.i64.wrap (((k + 1 : Nat) : Int) - 1) = (k : Int) := by rw [i64_lt _ (by omega) (by omega)]; omega
    have hsucc := outP_succ pl k
    unfold F20_k9
    rw [hw1, Int.toNat_natCast, Int.toNat_natCast]
    refine ⟨at0 h1.size, rfl, by omega, by omega, (lookP pl ((k + 1 : Nat) : Int)).isSome, ?_, br_of (fun gb => ?_) (fun gb => ?_)⟩
    · rw [Nat.mul_one, at_cell hb4, List.getElem?_toArray, named_get pl (k + 1) (by omega)]
    · obtain ⟨x, hx⟩ := Option.isSome_iff_exists.1 gb
      rw [hx] at hsucc
      have hg := putS_get sts pl ((k + 1 : Nat) : Int) ⟨by omega, by omega⟩ gp.2
      have hnow : nowC sts pl ((k + 1 : Nat) : Int) = x := by unfold nowC; rw [hx]
      rw [hnow, show (((k + 1 : Nat) : Int) - 1).toNat = k by omega, List.getD_eq_getElem?_getD] at hg
      have hsl := tn.length
      have hnl := tn.len
      have s1 : (putS sts pl)[k]? = some x := by
        rw [List.getElem?_eq_getElem (by omega)] at hg ⊢
        rw [← hg]; rfl
      have d1 : hn[k]? = some (hn[k]'(by omega)) := List.getElem?_eq_getElem (by omega)
      have hdk : Hd h3 x (hn[k]'(by omega)) := tn.packs k _ _ s1 d1
      have hz : (hn.map fun d => [Value.slice d.a d.l d.c])[k]? = some [.slice (hn[k]'(by omega)).a (hn[k]'(by omega)).l (hn[k]'(by omega)).c] := by rw [List.getElem?_map, d1]; rfl
      generalize hn[k]'(by omega) = d at *
      obtain ⟨q, eq, _, hc⟩ := (tn.grow x4).rows.get hz
      have hc : Vc.cell h4 (q.add (k * 1)) = some (.slice d.a d.l d.c) := by
        have := hc 0 _ rfl
        unfold Addr.add at this ⊢
        simpa using this
      refine ⟨q, eq, by omega, by omega, d.a, d.l, d.c, hc, rfl, by decide, newK_intro fun h5 hb5 x5 _ => ?_⟩
      refine (to.grow x5).app (e := ⟨a14, l14, c14⟩) (p := (((k + 1 : Nat) : Int), x)) (d := d) hdk hb5 (by show l14 < _; omega) fun e' h6 hl' t6 => ?_
      have hl' : e'.l = l14 + 1 := hl'
      unfold F20_k10
      rw [hw]
      refine ⟨⟨k + 1, ho ++ [d], rfl, by omega, by omega, ?_⟩, by show ((7 : Int) - ((k + 1 + 1 : Nat) : Int)).toNat < ((7 : Int) - ((k + 1 : Nat) : Int)).toNat; omega⟩
      rw [hsucc]; exact t6
    · have hx : lookP pl ((k + 1 : Nat) : Int) = none := by
        cases h : lookP pl ((k + 1 : Nat) : Int) with
        | none => rfl
        | some x => rw [h] at gb; cases gb
      rw [hx] at hsucc
      unfold F20_k10
      rw [hw]
      refine ⟨⟨k + 1, ho, rfl, by omega, by omega, ?_⟩, by show ((7 : Int) - ((k + 1 + 1 : Nat) : Int)).toNat < ((7 : Int) - ((k + 1 : Nat) : Int)).toNat; omega⟩
      rw [hsucc, List.append_nil]; exact to
  have hil : i < l2 := by
    have : (i : Int) < (l2 : Int) := by simpa using gi
    omega
  obtain ⟨q, o, d, hoi, hdi, ea, ook, hr, qc⟩ := (hop.grow x03).get hil
  rw [dropR_cons hoi] at hrun
  unfold F20_k4
  refine ⟨Ext, Ext.refl, fun _ _ _ => Ext.trans, q, ea, by omega, by omega, o.root, fun w x => run_loadCell (x.some (by rw [Int.toNat_natCast]; exact qc 1 _ rfl)) Tryd.underlying3 rfl, q, ea, by omega, by omega, o.kind, o.root, o.name, o.ver, d.a, d.l, d.c, fun w x => by rw [Int.toNat_natCast]; exact run_loadAt (cs := (OpV.cells o d).toArray) (fun j v hj => x.some (qc j v (by simpa using hj))) Tryd.underlying25 rfl (by rw [size25]; rfl), HEnt.use (at_ok a9 6 c9 (putS sts pl) hn o.root h3 h3 tn (Ext.refl _) (by decide)) ?_⟩
  rintro _ h3 ⟨d4, rfl, rfl, ⟨ds4, g1, g2, g3⟩⟩
  refine ⟨_, _, _, rfl, Ext.refl _, HEnt.use (refDo_ok d4.a d4.l d4.c _ ds4 owner o d _ g1 hr ook.1 ook.2 g2) ?_⟩
  rintro _ h5 ⟨a5, l5, c5, ds5, rfl, pk5, x5⟩
  have hsame := doC_now sts owner o gp.2
  have hsame : doC (stackC (putS sts pl) o.root) owner o = doC (nowC sts pl o.root) owner o := hsame
  rw [hsame] at pk5 ⊢
  refine ⟨_, _, _, _, rfl, x5, br_of (fun ge => ?_) (fun ge => ?_)⟩
  · have ge' : (doC (nowC sts pl o.root) owner o).2 ≠ 0 := by simp at ge; omega
    refine bad i _ (x03.trans x5) ?_
    rw [hall, hrun]
    unfold runC; rw [if_pos ge']
  have ge' : (doC (nowC sts pl o.root) owner o).2 = 0 := by simp at ge; omega
  have hroot := doC_root ge'
  have gd : GoodPs (doC (nowC sts pl o.root) owner o).1 := good_one (sts := sts) (now_ok hsm gp o.root) ⟨ook, hr.ok⟩
  have hd5 : Hd h5 (doC (nowC sts pl o.root) owner o).1 ⟨a5, l5, c5⟩ := Hd.of pk5 (good_small gd)
  have hrun' : runC sts owner [] 0 os = runC sts owner (putP pl o.root (doC (nowC sts pl o.root) owner o).1) (i + 1) (os.drop (i + 1)) := by
    rw [hrun]
    conv => lhs; unfold runC
    rw [if_neg (fun e => e ge')]
  unfold F20_k5
  have rd : ∀ {h' : Heap}, Ext h3 h' → Vc.cell h' ((q.add (i * 5)).add 1) = some (.int .i64 o.root) := fun x => x.some (qc 1 _ rfl)
  refine ⟨q, ea, by omega, by omega, o.root, by rw [Int.toNat_natCast]; exact rd x5, rfl, by decide, newK_intro fun h6 hb6 x6 _ => ?_⟩
  have x36 := x5.trans x6
  have p6 := planIn_one (h := h5) (p := (o.root, (doC (nowC sts pl o.root) owner o).1)) (d := ⟨a5, l5, c5⟩) hb6 x6 (Nat.le_refl _) (hd5.grow x6)
  refine HEnt.use (refPut_ok a9 6 c9 (putS sts pl) hn _ 1 1 _ _ h6 (tn.grow x36) p6 (fun p hp => by simp at hp; subst hp; exact good_small gd) (by decide) (by decide)) ?_
  rintro _ h7 ⟨e7, es7, rfl, t7⟩
  have x7 : Ext h6 h7 := t7.rows.ext
  rw [putS_step sts o.root _ gp.2] at t7
  have x37 := x36.trans x7
  have hb7 := x37.blk hbn
  refine ⟨_, _, _, rfl, q, ea, by omega, by omega, o.root, by rw [Int.toNat_natCast]; exact rd x37, at0 h1.size, rfl, by omega, by omega, ?_⟩
  rw [Nat.mul_one, add_at0]
  refine storeK_one hb7 (by simp only [List.size_toArray, named_len]; omega) (.inr (Nat.zero_le _)) rfl fun h8 hb8 o8 => ?_
  rw [named_put pl o.root (doC (nowC sts pl o.root) owner o).1 hroot] at hb8
  have k8 : Keep (· = h1.size) h7 h8 := o8.keep rfl
  unfold F20_k6
  rw [wrap_succ i l2 hil (by omega)]
  refine ⟨⟨i + 1, _, es7, rfl, by omega, by have := t7.stacks.length; rw [putS_len] at this; exact this.symm, StacksAt.shun t7.stacks hb7 (named_bool pl) k8, good_put gp hroot gd, hrun', hb8, Keep.since (x13.trans x37) k8 fun j hj e => by omega⟩, less_succ i l2 hil⟩
end Go.Proofs.YtfknpbgneeefjaaDoor

namespace Go.Proofs.YtfknpbgneeefjaaDoor
open Go.Vc Go.Sha Go.Trail Go.Packs Go.Plan Go.Man
set_option linter.unusedVariables false
set_option linter.unusedSimpArgs false
set_option maxRecDepth 20000
/-- what spoiling leaves as it was -/
structure SpInv (h0 h h' : Heap) : Prop where
  keep : Keep (h0.size ≤ ·) h h'
  sp : ∀ e es, SpoilAt h0 h e es → SpoilAt h0 h' e es
  sl : ∀ (b o : Nat) (a : Option Addr) (l c : Nat), Vc.cell h ⟨b, o, none⟩ = some (.slice a l c) → Vc.cell h' ⟨b, o, none⟩ = some (.slice a l c)
theorem SpInv.refl (h0 h : Heap) : SpInv h0 h h := ⟨Keep.refl _ _, fun _ _ x => x, fun _ _ _ _ _ x => x⟩
theorem SpInv.trans {h0 a b c : Heap} (x : SpInv h0 a b) (y : SpInv h0 b c) : SpInv h0 a c := ⟨x.keep.trans y.keep, fun e es t => y.sp e es (x.sp e es t), fun b o p l c t => y.sl b o p l c (x.sl b o p l c t)⟩
theorem only_sl {b k : Nat} {h h' : Heap} {cs : Array Value} {t : TypeId} {z y : Int} (hb : h[b]? = some (.cells cs t (0, 0))) (hz : cs[k]? = some (.int .i64 z)) (hb' : h'[b]? = some (.cells (cs.setIfInBounds k (.int .i64 y)) t (0, 0))) (o : Only b h h') :
    ∀ (b o : Nat) (a : Option Addr) (l c : Nat), Vc.cell h ⟨b, o, none⟩ = some (.slice a l c) → Vc.cell h' ⟨b, o, none⟩ = some (.slice a l c) := by
  intro b2 j a l c hc
  by_cases e : b2 = b
  · subst e
    rw [cell_blk hb] at hc
    rw [cell_blk hb', Array.getElem?_setIfInBounds]
    by_cases e2 : k = j
    · subst e2; rw [hz] at hc; cases hc
    · rw [if_neg e2]; exact hc
  · rw [← hc]; simp only [Vc.cell, o.block b2 e]
theorem set_int {cs : Array Value} {k j : Nat} {y : Int} (h : ∃ z, cs[j]? = some (.int .i64 z)) : ∃ z, (cs.setIfInBounds k (.int .i64 y))[j]? = some (.int .i64 z) := by
  obtain ⟨z, hz⟩ := h
  have hlt := (Array.getElem?_eq_some_iff.1 hz).1
  rw [Array.getElem?_setIfInBounds]
  by_cases e : k = j
  · rw [if_pos e, if_pos (by omega)]; exact ⟨_, rfl⟩
  · rw [if_neg e]; exact ⟨z, hz⟩
theorem sp_row {h0 h h' : Heap} {b i : Nat} {cs : Array Value} {z y : Int} (hsz : h0.size ≤ b) (hb : h[b]? = some (.cells cs 61 (0, 0))) (hz : cs[i * 4]? = some (.int .i64 z)) (hb' : h'[b]? = some (.cells (cs.setIfInBounds (i * 4) (.int .i64 y)) 61 (0, 0))) (o : Only b h h') : SpInv h0 h h' := by
  refine ⟨o.keep hsz, fun e es t => ⟨?_, fun d hd => ?_⟩, only_sl hb hz hb' o⟩
  · rcases t.rows with e0 | ⟨b2, cs2, e2, q1, q2, q3⟩
    · exact .inl e0
    · by_cases hbb : b2 = b
      · subst hbb
        rw [hb] at q2
        injection q2 with q2; injection q2 with q2 _
        subst q2
        refine .inr ⟨b2, _, e2, q1, hb', fun j hj => ?_⟩
        obtain ⟨hz', d, hd, hde⟩ := q3 j hj
        refine ⟨set_int hz', d, ?_, hde⟩
        rw [Array.getElem?_setIfInBounds, if_neg (by omega)]; exact hd
      · exact .inr ⟨b2, cs2, e2, q1, o.blk q2 hbb, q3⟩
  · rcases t.refs d hd with e0 | ⟨b2, cs2, e2, q1, q2, q3⟩
    · exact .inl e0
    · refine .inr ⟨b2, cs2, e2, q1, o.blk q2 (fun e3 => ?_), q3⟩
      subst e3
      rw [hb] at q2
      injection q2 with q2; injection q2 with _ q2; exact absurd q2 (by decide)
theorem sp_ref {h0 h h' : Heap} {b j : Nat} {cs : Array Value} {z y : Int} (hsz : h0.size ≤ b) (hb : h[b]? = some (.cells cs 75 (0, 0))) (hz : cs[j]? = some (.int .i64 z)) (hb' : h'[b]? = some (.cells (cs.setIfInBounds j (.int .i64 y)) 75 (0, 0))) (o : Only b h h') : SpInv h0 h h' := by
  refine ⟨o.keep hsz, fun e es t => ⟨?_, fun d hd => ?_⟩, only_sl hb hz hb' o⟩
  · rcases t.rows with e0 | ⟨b2, cs2, e2, q1, q2, q3⟩
    · exact .inl e0
    · refine .inr ⟨b2, cs2, e2, q1, o.blk q2 (fun e3 => ?_), q3⟩
      subst e3
      rw [hb] at q2
      injection q2 with q2; injection q2 with _ q2; exact absurd q2 (by decide)
  · rcases t.refs d hd with e0 | ⟨b2, cs2, e2, q1, q2, q3⟩
    · exact .inl e0
    · by_cases hbb : b2 = b
      · subst hbb
        rw [hb] at q2
        injection q2 with q2; injection q2 with q2 _
        subst q2
        exact .inr ⟨b2, _, e2, q1, hb', fun k hk => set_int (q3 k hk)⟩
      · exact .inr ⟨b2, cs2, e2, q1, o.blk q2 hbb, q3⟩
theorem spoil2_ok (e : Hdr) (es : List Hdr) (h0 h : Heap) (t : SpoilAt h0 h e es) (hl : e.l < 9223372036854775808) (hls : ∀ d ∈ es, d.l < 9223372036854775808) :
    HEnt Tryd.prog 16 #[.slice e.a e.l e.c] h fun v h' => v = .tuple #[] ∧ SpInv h0 h h' := by
  refine F16_ent _ _ _ _ _ ?_
  unfold F16
  refine ⟨fun x hh => ∃ i : Nat, x = i ∧ i ≤ e.l ∧ SpInv h0 h hh, fun x _ => ((e.l : Int) - x).toNat, ⟨0, rfl, by omega, SpInv.refl _ _⟩, ?_⟩
  rintro h1 _ ⟨i, rfl, hi, k1⟩
  have t1 := k1.sp e es t
  unfold F16_b1
  refine br_of (fun g => ?_) (fun g => ⟨rfl, k1⟩)
  have hil : i < e.l := by
    have : (i : Int) < (e.l : Int) := by simpa using g
    omega
  rcases t1.rows with e0 | ⟨b, cs, ea, g1, g2, hc⟩
  · omega
  obtain ⟨⟨z, hz⟩, d, hd, hde⟩ := hc i hil
  have hdl := hls d hde
  unfold F16_k2
  rw [Int.toNat_natCast, ea]
  simp only [add_mk, Nat.zero_add, Nat.add_zero]
  refine ⟨_, rfl, by omega, by omega, z, by rw [add_mk, add_mk, cell_blk g2, Nat.zero_add, Nat.add_zero]; exact hz, _, rfl, by omega, by omega, ?_⟩
  have hlt := (List.getElem?_eq_some_iff.1 (by simpa using hd : cs.toList[i * 4 + 3]? = _)).1
  rw [Array.length_toList] at hlt
  rw [add_mk, add_mk, Nat.zero_add, Nat.add_zero]
  refine storeK_one g2 (by omega) (.inr (Nat.zero_le _)) rfl fun h2 hb2 o2 => ?_
  have k2 : SpInv h0 h h2 := k1.trans (sp_row g1 g2 hz hb2 o2)
  have hd2 : (cs.setIfInBounds (i * 4) (.int .i64 (IntKind.i64.wrap (z + 1))))[i * 4 + 3]? = some (.slice d.a d.l d.c) := by
    rw [Array.getElem?_setIfInBounds, if_neg (by omega)]; exact hd
  refine ⟨_, rfl, by omega, by omega, d.a, d.l, d.c, by rw [add_mk, add_mk, add_mk, cell_blk hb2, Nat.zero_add]; exact hd2, ?_⟩
  refine ⟨fun x hh => ∃ j : Nat, x = j ∧ j ≤ d.l ∧ SpInv h0 h hh ∧ hh[b]? = some (.cells (cs.setIfInBounds (i * 4) (.int .i64 (IntKind.i64.wrap (z + 1)))) 61 (0, 0)), fun x _ => ((d.l : Int) - x).toNat, ⟨0, rfl, by omega, k2, hb2⟩, ?_⟩
  rintro h3 _ ⟨j, rfl, hj, k3, hb3⟩
  unfold F16_b3
  refine br_of (fun gj => ?_) (fun gj => ?_)
  · have hjl : j < d.l := by
      have : (j : Int) < (d.l : Int) := by simpa using gj
      omega
    rcases (k3.sp e es t).refs d hde with e0 | ⟨b', cs', e1, f1, f2, f3⟩
    · omega
    obtain ⟨y, hy⟩ := f3 j hjl
    have hlt' := (List.getElem?_eq_some_iff.1 (by simpa using hy : cs'.toList[j * 33 + 32]? = _)).1
    rw [Array.length_toList] at hlt'
    unfold F16_k4
    rw [Int.toNat_natCast, Int.toNat_natCast]
    refine ⟨_, rfl, by omega, by omega, d.a, d.l, d.c, by rw [add_mk, add_mk, add_mk, cell_blk hb3, Nat.zero_add]; exact hd2, _, e1, by omega, by omega, y, by rw [add_mk, add_mk, cell_blk f2, Nat.zero_add]; exact hy, _, e1, by omega, by omega, ?_⟩
    rw [add_mk, add_mk, Nat.zero_add]
    refine storeK_one f2 (by omega) (.inr (Nat.zero_le _)) rfl fun h4 hb4 o4 => ?_
    rw [wrap_succ j d.l hjl hdl]
    have hne : b ≠ b' := fun e2 => by
      subst e2
      rw [hb3] at f2
      injection f2 with f2; injection f2 with _ f2; exact absurd f2 (by decide)
    exact ⟨⟨j + 1, rfl, by omega, k3.trans (sp_ref f1 f2 hy hb4 o4), o4.blk hb3 hne⟩, less_succ j d.l hjl⟩
  · unfold F16_k5
    rw [wrap_succ i e.l hil hl]
    exact ⟨⟨i + 1, rfl, by omega, k3⟩, less_succ i e.l hil⟩
theorem runC_good {sts : List (List PackV)} {owner : Int} (s : ∀ ps ∈ sts, Small ps) : ∀ (os : List OpV) (pl : List PlanV) (i : Nat), (∀ o ∈ os, OpV.ok o ∧ ∀ r ∈ o.refs, r.ok) → GoodPl pl → GoodPl (runC sts owner pl i os).1 ∧ (runC sts owner pl i os).1.length ≤ pl.length + os.length
  | [], pl, i, _, g => ⟨g, Nat.le_refl _⟩
  | o :: t, pl, i, ho, g => by
    unfold runC
    split
    · exact ⟨⟨by simp, by simp⟩, Nat.zero_le _⟩
    · rename_i h
      have h : (doC (nowC sts pl o.root) owner o).2 = 0 := Classical.byContradiction h
      have := runC_good (owner := owner) s t (putP pl o.root (doC (nowC sts pl o.root) owner o).1) (i + 1) (fun q hq => ho q (List.mem_cons_of_mem _ hq)) (good_put g (doC_root h) (good_one (sts := sts) (now_ok s g o.root) (ho o List.mem_cons_self)))
      have hl := putP_len pl o.root (doC (nowC sts pl o.root) owner o).1
      refine ⟨this.1, Nat.le_trans this.2 ?_⟩
      simp only [List.length_cons]; omega
theorem allC_good {sts : List (List PackV)} {owner : Int} (s : ∀ ps ∈ sts, Small ps) (os : List OpV) (ho : ∀ o ∈ os, OpV.ok o ∧ ∀ r ∈ o.refs, r.ok) : GoodPl (allC sts owner os).1 ∧ (allC sts owner os).1.length ≤ os.length := by
  unfold allC
  split
  · exact ⟨⟨by simp, by simp⟩, Nat.zero_le _⟩
  split
  · exact ⟨⟨by simp, by simp⟩, Nat.zero_le _⟩
  · have := runC_good (owner := owner) s os [] 0 ho ⟨by simp, by simp⟩
    simpa using this
theorem OpsAt.oks {h : Heap} {a : Option Addr} {l c : Nat} {os : List OpV} {ds : List Hdr} (p : OpsAt h a l c os ds) : ∀ o ∈ os, OpV.ok o ∧ ∀ r ∈ o.refs, r.ok := fun o ho => by
  refine ⟨p.ok o ho, ?_⟩
  obtain ⟨i, hi⟩ := List.getElem?_of_mem ho
  have hlt := (List.getElem?_eq_some_iff.1 hi).1
  have hle := p.len
  exact (p.refs i o _ hi (List.getElem?_eq_getElem (show i < ds.length by omega))).ok
theorem alls_ok (a : Option Addr) (l c : Nat) (sts0 : List (List PackV)) (hs0 : List Hdr) (owner : Int) (a2 : Option Addr) (l2 c2 : Nat) (os0 : List OpV) (ds0 : List Hdr) (h : Heap) (hst : StacksIn h a l c sts0 hs0) (hop : OpsAt h a2 l2 c2 os0 ds0) (hl : l < 9223372036854775808) (hl2 : l2 < 9223372036854775808) (hm : Ord.MaxAt h) :
    HEnt Tryd.prog 4 #[.slice a l c, .int .i64 owner, .slice a2 l2 c2] h (yes h) := by
  have hsm := hst.small
  have hfl : (fewStacks sts0).length ≤ 9 := by unfold fewStacks; rw [List.length_map, List.length_take]; omega
  refine F4_ent _ _ _ _ _ _ _ _ _ ?_
  unfold F4
  refine HEnt.use (stacksOf_ok a l c sts0 hs0 h hst hl) ?_
  rintro _ h1 ⟨es, hes, rfl, ts⟩
  have x1 : Ext h h1 := ts.ext
  refine ⟨_, _, _, rfl, HEnt.use (opsOf_ok a2 l2 c2 os0 ds0 h1 (hop.grow x1) hl2) ?_⟩
  rintro _ h2 ⟨eo, heo, rfl, to⟩
  have x2 : Ext h1 h2 := to.rows.ext
  have hops := opsTwin_at hop to
  have hho := opsTwin_hdr to
  have hstk := (ts.grow x2).stacks hsm
  have hel := ts.length
  have hol := hops.length
  have x02 := x1.trans x2
  obtain ⟨hgood, hglen⟩ := allC_good (owner := owner) hsm _ hops.oks
  refine ⟨_, _, _, rfl, HEnt.use (all_ok es.a es.l es.c _ hes owner eo.a eo.l eo.c _ heo h2 hstk hops (fun x hx => by have := hho.2 x hx; omega) (by omega) (hm.ext x02)) ?_⟩
  rintro _ h3 ⟨a3, l3, c3, pl3, hs3, rfl, hpa, hio, x3⟩
  have x03 := x02.trans x3
  refine ⟨_, _, _, _, _, rfl, HEnt.use (stacksOf_ok a l c sts0 hs0 h3 (hst.grow x03) hl) ?_⟩
  rintro _ h4 ⟨es', hes', rfl, ts'⟩
  have x4 : Ext h3 h4 := ts'.ext
  have x04 := x03.trans x4
  refine ⟨_, _, _, rfl, HEnt.use (opsOf_ok a2 l2 c2 os0 ds0 h4 (hop.grow x04) hl2) ?_⟩
  rintro _ h5 ⟨eo', heo', rfl, to'⟩
  have x5 : Ext h4 h5 := to'.rows.ext
  have hops' := opsTwin_at hop to'
  have hstk' := (ts'.grow x5).stacks hsm
  have hel' := ts'.length
  refine ⟨_, _, _, rfl, HEnt.use (refAll_ok es'.a es'.l es'.c _ hes' owner eo'.a eo'.l eo'.c _ heo' h5 hstk' hsm hops' (by omega)) ?_⟩
  rintro _ h6 ⟨a6, l6, c6, pl6, hs6, rfl, hpi, hio6, x6⟩
  have x36 := (x4.trans x5).trans x6
  have epl := inOrder_one hio hio6 (List.Perm.refl _) hgood.2
  subst epl
  have g3 : ∀ p ∈ pl3, GoodPs p.2 := fun p hp => (hgood.1 p (hio.1.mem_iff.1 hp)).2
  have hl3 := hpa.length
  have hl3' := hio.1.length_eq
  refine ⟨_, _, _, _, _, rfl, HEnt.use (samePlans_ok a3 l3 c3 a6 l6 c6 pl3 hs3 hs6 h6 ((hpa.in_ g3).grow x36) hpi (by omega)) ?_⟩
  rintro _ h7 ⟨rfl, x7⟩
  have x37 := x36.trans x7
  refine ⟨true, rfl, br_of (fun _ => br_of (fun _ => ?_) (fun e => by simp at e)) (fun e => by cases e)⟩
  have e1 : (((allC (fewStacks sts0) owner (fewOps os0)).2.2 : Int) == ((allC (fewStacks sts0) owner (fewOps os0)).2.2 : Int)) = true := by simp
  rw [e1]
  unfold F4_k1
  refine ⟨fun x hh => ∃ i : Nat, x = i ∧ i ≤ l3 ∧ SpInv h2 h7 hh, fun x _ => ((l3 : Int) - x).toNat, ⟨0, rfl, by omega, SpInv.refl _ _⟩, ?_⟩
  rintro h8 _ ⟨i, rfl, hi, sp⟩
  unfold F4_b2
  refine br_of (fun gi => ?_) (fun gi => ?_)
  · have hil : i < l3 := by
      have : (i : Int) < (l3 : Int) := by simpa using gi
      omega
    have hn3 := hpa.len
    have s1 : pl3[i]? = some (pl3[i]'(by omega)) := List.getElem?_eq_getElem (by omega)
    have d1 : hs3[i]? = some (hs3[i]'(by omega)) := List.getElem?_eq_getElem (by omega)
    obtain ⟨ei, tw⟩ := hpa.packs i _ _ s1 d1
    have gp := g3 _ (List.mem_of_getElem? s1)
    have hz : (List.zipWith planC pl3 hs3)[i]? = some (planC (pl3[i]'(by omega)) (hs3[i]'(by omega))) := by rw [List.getElem?_zipWith, s1, d1]
    generalize pl3[i]'(by omega) = p at *
    generalize hs3[i]'(by omega) = d at *
    obtain ⟨b, o, hab, _, hc⟩ := (hpa.rows.grow x37).at_ (fun e => by rw [e] at hz; simp at hz)
    have hc1 := sp.sl _ _ _ _ _ (hc i _ hz 1 _ rfl)
    have b3 := twin_small tw gp.1
    unfold F4_k3
    rw [Int.toNat_natCast]
    refine ⟨⟨b, o, none⟩, hab, by omega, by omega, d.a, d.l, d.c, by rw [add_mk, add_mk]; exact hc1, ?_⟩
    refine HEnt.use (spoil2_ok d ei h2 h8 (sp.sp d ei ((tw.grow x37).spoil fun p hp => (gp.2 p hp).2)) (by omega) (fun x hx => by have := b3.2 x hx; omega)) ?_
    rintro _ h9 ⟨rfl, sp9⟩
    refine ⟨rfl, ?_⟩
    rw [wrap_succ i l3 hil (by omega)]
    exact ⟨⟨i + 1, rfl, by omega, sp.trans sp9⟩, less_succ i l3 hil⟩
  · have x28 : Ext h2 h8 := Keep.since (x3.trans x37) sp.keep fun j hj e => by omega
    have x08 := x02.trans x28
    unfold F4_k4
    refine br_of (fun _ => ?_) (fun e => by cases e)
    refine HEnt.use (stacksOf_ok a l c sts0 hs0 h8 (hst.grow x08) hl) ?_
    rintro _ h9 ⟨e9, hes9, rfl, t9⟩
    have x9 : Ext h8 h9 := t9.ext
    refine ⟨_, _, _, rfl, HEnt.use (sameStacks_ok es.a es.l es.c e9.a e9.l e9.c _ hes hes9 h9 (hstk.grow (x28.trans x9)) (t9.stacks hsm) (by omega)) ?_⟩
    rintro _ h10 ⟨rfl, x10⟩
    exact ⟨true, rfl, br_of (fun _ => works_yes ((x08.trans x9).trans x10) hm) (fun e => by cases e)⟩
end Go.Proofs.YtfknpbgneeefjaaDoor

namespace Go.Proofs.YtfknpbgneeefjaaDoor
open Go.Vc Go.Sha Go.Trail Go.Packs Go.Plan Go.Man
set_option linter.unusedVariables false
set_option linter.unusedSimpArgs false
set_option maxRecDepth 20000
def sumS (rs : List RefV) : Int := (rs.map RefV.size).sum
def sizeS (nm vr : ByteArray) (rs : List RefV) : Int := if manC nm vr rs = 0 then sumS rs else 0
def oneS (p : PackV) (owner : Int) : Int := if p.owner = owner then sizeS p.name p.ver p.refs else 0
def ownS (ps : List PackV) (owner : Int) : Int := (ps.map fun p => oneS p owner).sum
def moreS (a b : List PackV) (owner : Int) : Int := if ownS b owner < ownS a owner then 0 else ownS b owner - ownS a owner
theorem refsC_rng : ∀ (rs : List RefV) (seen : List (List Nat)), refsC seen rs = 0 → ∀ r ∈ rs, 0 ≤ r.size ∧ r.size ≤ 2147483647
  | [], _, _, r, hr => by cases hr
  | x :: t, seen, h, r, hr => by
    unfold refsC at h
    split at h
    · cases h
    split at h
    · cases h
    rcases List.mem_cons.1 hr with rfl | hr
    · omega
    · exact refsC_rng t _ h r hr
theorem manC_rng {nm vr : ByteArray} {rs : List RefV} (h : manC nm vr rs = 0) : ∀ r ∈ rs, 0 ≤ r.size ∧ r.size ≤ 2147483647 := by
  unfold manC at h
  split at h
  · cases h
  split at h
  · cases h
  split at h
  · cases h
  exact refsC_rng rs _ h
theorem sumS_take {rs : List RefV} {k : Nat} {r : RefV} (h : rs[k]? = some r) : sumS (rs.take (k + 1)) = sumS (rs.take k) + r.size := by
  unfold sumS; rw [List.take_add_one, h]; simp
theorem sumS_bound : ∀ (rs : List RefV), (∀ r ∈ rs, 0 ≤ r.size ∧ r.size ≤ 2147483647) → 0 ≤ sumS rs ∧ sumS rs ≤ rs.length * 2147483647
  | [], _ => by simp [sumS]
  | r :: rs, h => by
    have h1 := h r (List.mem_cons_self ..)
    obtain ⟨h2, h3⟩ := sumS_bound rs fun x hx => h x (List.mem_cons_of_mem _ hx)
    unfold sumS at *
    simp only [List.map_cons, List.sum_cons, List.length_cons]
    omega
theorem sizeS_bound (nm vr : ByteArray) (rs : List RefV) : 0 ≤ sizeS nm vr rs ∧ sizeS nm vr rs ≤ 17179869184 := by
  unfold sizeS
  split
  · rename_i h
    have := sumS_bound rs (manC_rng h)
    have := manC_len h
    omega
  · omega
theorem ownS_take {ps : List PackV} {k : Nat} {p : PackV} (owner : Int) (h : ps[k]? = some p) : ownS (ps.take (k + 1)) owner = ownS (ps.take k) owner + oneS p owner := by
  unfold ownS; rw [List.take_add_one, h]; simp
theorem ownS_bound (owner : Int) : ∀ (ps : List PackV), 0 ≤ ownS ps owner ∧ ownS ps owner ≤ ps.length * 17179869184
  | [] => by simp [ownS]
  | p :: ps => by
    have h1 := sizeS_bound p.name p.ver p.refs
    obtain ⟨h2, h3⟩ := ownS_bound owner ps
    have : 0 ≤ oneS p owner ∧ oneS p owner ≤ 17179869184 := by
      unfold oneS; split <;> omega
    unfold ownS at *
    simp only [List.map_cons, List.sum_cons, List.length_cons]
    omega
theorem size_ok (nm vr : ByteArray) (a : Option Addr) (l c : Nat) (rs : List RefV) (h : Heap) (hr : RefsAt h a l c rs) (hn : nm.size < 9223372036854775808) (hv : vr.size < 9223372036854775808) :
    HEnt Tryd.prog 64 #[.agg #[.string nm, .string vr, .slice a l c]] h fun v h' => v = .int .i64 (sizeS nm vr rs) ∧ Ext h h' := by
  have hlen := hr.len
  refine F64_ent _ _ _ _ _ _ _ ?_
  unfold F64
  refine newK_intro fun h1 hb1 x1 _ => ⟨nm, vr, a, l, c, by rw [at_cell hb1]; rfl, by rw [at_cell hb1]; rfl, by rw [at_cell hb1]; rfl, rfl, HEnt.use (man_ok nm vr a l c rs h1 (hr.grow x1) hn hv) ?_⟩
  rintro _ h2 ⟨rfl, x2⟩
  refine ⟨_, rfl, br_of (fun hne => ⟨?_, x1.trans x2⟩) (fun heq => ?_)⟩
  · have : (manC nm vr rs : Int) ≠ 0 := by simpa using hne
    unfold sizeS; rw [if_neg (by omega)]
  have h0 : manC nm vr rs = 0 := by
    have : (manC nm vr rs : Int) = 0 := by simpa using heq
    omega
  have hrng := manC_rng h0
  have h8 := manC_len h0
  unfold F64_k1
  rintro _ rfl
  refine ⟨a, l, c, by rw [at_cell (x2.blk hb1)]; rfl, fun s x h' => ∃ k : Nat, x = k ∧ k ≤ l ∧ s = sumS (rs.take k) ∧ Ext h h', fun _ x _ => (l - x).toNat, ⟨0, rfl, by omega, rfl, x1.trans x2⟩, ?_⟩
  rintro h4 _ _ ⟨k, rfl, hk, rfl, x4⟩
  unfold F64_b2
  refine br_of (fun ht => ?_) (fun hf => ?_)
  rotate_left
  · have hk' : k = l := by
      have : ¬ (k : Int) < (l : Int) := by simpa using hf
      omega
    unfold F64_k4
    refine ⟨?_, x4⟩
    unfold sizeS; rw [if_pos h0, List.take_of_length_le (by omega)]
  have hk' : k < l := by
    have : (k : Int) < (l : Int) := by simpa using ht
    omega
  obtain ⟨q, r, hri, ea, hrok, hc33, hc32, hsz⟩ := (hr.grow x4).get hk'
  have hbd := sumS_bound (rs.take (k + 1)) fun x hx => hrng x (List.mem_of_mem_take hx)
  rw [List.length_take] at hbd
  unfold F64_k3
  refine ⟨q, ea, by omega, by omega, r.cells.toArray, by simp [cells_len r hrok], by rw [Int.toNat_natCast]; exact hc33, ?_⟩
  refine (St.start h4).new fun b5 h5 s5 x5 hb5 => ?_
  refine s5.storeAll 0 rfl (by simp [cells_len r hrok]) zeroC75 (by simpa using cells_one r) fun h6 s6 o6 => ?_
  have x6 : Ext h4 h6 := s6.ext
  have c32 : r.cells[32]? = some (.int .i64 r.size) := by simp [RefV.cells, sumCells, hrok.1]
  refine ⟨r.size, s6.cell 0 rfl (by simpa using c32), ?_⟩
  rintro _ rfl
  rw [wrap_succ k l hk' (by omega), ← sumS_take hri, i64_lt _ (by omega) (by omega)]
  exact ⟨⟨k + 1, rfl, by omega, rfl, x4.trans x6⟩, less_succ k l hk'⟩
theorem refSize_ok (nm vr : ByteArray) (a : Option Addr) (l c : Nat) (rs : List RefV) (h : Heap) (hr : RefsAt h a l c rs) (hn : nm.size < 9223372036854775808) (hv : vr.size < 9223372036854775808) :
    HEnt Tryd.prog 65 #[.agg #[.string nm, .string vr, .slice a l c]] h fun v h' => v = .int .i64 (sizeS nm vr rs) ∧ Ext h h' := by
  have hlen := hr.len
  refine F65_ent _ _ _ _ _ _ _ ?_
  unfold F65
  refine newK_intro fun h1 hb1 x1 _ => ?_
  rintro _ rfl _ rfl
  refine ⟨fun s x h' => ∃ k : Nat, x = k ∧ k ≤ l ∧ s = sumS (rs.take k) ∧ (0 < k → manC nm vr rs = 0) ∧ Ext h1 h', fun _ x _ => (l - x).toNat, ⟨0, rfl, by omega, rfl, by omega, Ext.refl _⟩, ?_⟩
  rintro h4 _ _ ⟨k, rfl, hk, rfl, hpos, x4⟩
  have hb4 := x4.blk hb1
  have sl : Vc.cell h4 ((at0 h.size).add 2) = some (.slice a l c) := by rw [at_cell hb4]; rfl
  unfold F65_b1
  refine ⟨a, l, c, sl, br_of (fun ht => ?_) (fun hf => ?_)⟩
  rotate_left
  · have hk' : k = l := by
      have : ¬ (k : Int) < (l : Int) := by simpa using hf
      omega
    unfold F65_k2
    refine br_of (fun e => by cases e) (fun _ => ?_)
    unfold F65_k4
    refine ⟨?_, x1.trans x4⟩
    unfold sizeS
    by_cases h0 : manC nm vr rs = 0
    · rw [if_pos h0, List.take_of_length_le (by omega)]
    · have hk0 : k = 0 := Nat.eq_zero_of_not_pos fun hp => h0 (hpos hp)
      rw [if_neg h0, hk0]; rfl
  have hk' : k < l := by
    have : (k : Int) < (l : Int) := by simpa using ht
    omega
  refine ⟨nm, vr, a, l, c, by rw [at_cell hb4]; rfl, by rw [at_cell hb4]; rfl, sl, rfl, HEnt.use (refMan_ok nm vr a l c rs h4 (hr.grow (x1.trans x4)) hn hv) ?_⟩
  rintro _ h5 ⟨rfl, x5⟩
  refine ⟨_, rfl, ?_⟩
  unfold F65_k2
  refine br_of (fun hz => ?_) (fun hnz => ?_)
  · have h0 : manC nm vr rs = 0 := by
      have : (manC nm vr rs : Int) = 0 := by simpa using hz
      omega
    have hrng := manC_rng h0
    have h8 := manC_len h0
    obtain ⟨q, r, hri, ea, hrok, hc33, hc32, hsz⟩ := (hr.grow ((x1.trans x4).trans x5)).get hk'
    have hbd := sumS_bound (rs.take (k + 1)) fun x hx => hrng x (List.mem_of_mem_take hx)
    rw [List.length_take] at hbd
    unfold F65_k3
    refine ⟨a, l, c, by rw [at_cell (x5.blk hb4)]; rfl, q, ea, by omega, by omega, r.size, by rw [Int.toNat_natCast]; exact hsz, ?_⟩
    rintro _ rfl _ rfl
    rw [wrap_succ k l hk' (by omega), ← sumS_take hri, i64_lt _ (by omega) (by omega)]
    exact ⟨⟨k + 1, rfl, by omega, rfl, fun _ => h0, x4.trans x5⟩, less_succ k l hk'⟩
  · have h0 : manC nm vr rs ≠ 0 := by
      have : (manC nm vr rs : Int) ≠ 0 := by simpa using hnz
      omega
    have hk0 : k = 0 := Nat.eq_zero_of_not_pos fun hp => h0 (hpos hp)
    unfold F65_k4
    refine ⟨?_, (x1.trans x4).trans x5⟩
    unfold sizeS
    rw [if_neg h0, hk0]; rfl
theorem charge_ok (a : Option Addr) (l c : Nat) (ps : List PackV) (ds : List Hdr) (owner : Int) (h : Heap) (hp : PacksAt h a l c ps ds) (hl : l < 200000000) :
    HEnt Tryd.prog 48 #[.slice a l c, .int .i64 owner] h fun v h' => v = .int .i64 (ownS ps owner) ∧ Ext h h' := by
  have hlen := hp.length
  refine F48_ent _ _ _ _ _ _ ?_
  unfold F48
  rintro _ rfl
  refine ⟨fun s x h' => ∃ k : Nat, x = k ∧ k ≤ l ∧ s = ownS (ps.take k) owner ∧ Ext h h', fun _ x _ => (l - x).toNat, ⟨0, rfl, by omega, rfl, Ext.refl h⟩, ?_⟩
  rintro h1 _ _ ⟨k, rfl, hk, rfl, x1⟩
  unfold F48_b1
  refine br_of (fun ht => ?_) (fun hf => ?_)
  rotate_left
  · have hk' : k = l := by
      have : ¬ (k : Int) < (l : Int) := by simpa using hf
      omega
    unfold F48_k4
    exact ⟨by rw [List.take_of_length_le (by omega)], x1⟩
  have hk' : k < l := by
    have : (k : Int) < (l : Int) := by simpa using ht
    omega
  obtain ⟨q, p, d, hpi, hdi, ea, hpok, hrefs, c0, c1, c2, c3⟩ := (hp.grow x1).get hk'
  have hbd := ownS_bound owner (ps.take (k + 1))
  rw [List.length_take] at hbd
  have hst := ownS_take owner hpi
  unfold F48_k2
  refine ⟨q, ea, by omega, by omega, p.owner, p.name, p.ver, d.a, d.l, d.c, by rw [Int.toNat_natCast]; exact c0, by rw [Int.toNat_natCast]; exact c1, by rw [Int.toNat_natCast]; exact c2, by rw [Int.toNat_natCast]; exact c3, rfl, ?_⟩
  refine newK_intro fun h2 hb2 x2 _ => ?_
  refine storeK_whole (vs := (p.cells d).toArray) hb2 rfl (by kernel_rfl) (by intro u hu; simp [PackV.cells] at hu; rcases hu with rfl | rfl | rfl | rfl <;> rfl) fun h3 hb3 o3 => ?_
  have x13 : Ext h1 h3 := Keep.since x2 (o3.keep rfl : Keep (· = h1.size) h2 h3) fun j hj e => by omega
  refine ⟨p.owner, by rw [at_cell hb3]; rfl, br_of (fun e => ?_) (fun e => ?_)⟩
  · have e : p.owner = owner := by simpa using e
    refine ⟨p.name, p.ver, d.a, d.l, d.c, by rw [add_mk, add_mk, cell_blk hb3]; rfl, by rw [add_mk, add_mk, cell_blk hb3]; rfl, by rw [add_mk, add_mk, cell_blk hb3]; rfl, rfl, HEnt.use (size_ok p.name p.ver d.a d.l d.c p.refs h3 (hrefs.grow x13) hpok.1 hpok.2) ?_⟩
    rintro _ h4 ⟨rfl, x4⟩
    refine ⟨_, rfl, ?_⟩
    rintro _ rfl
    have e1 : oneS p owner = sizeS p.name p.ver p.refs := by unfold oneS; rw [if_pos e]
    rw [e1] at hst
    unfold F48_k3
    rw [wrap_succ k l hk' (by omega), ← hst, i64_lt _ (by omega) (by omega)]
    exact ⟨⟨k + 1, rfl, by omega, rfl, (x1.trans x13).trans x4⟩, less_succ k l hk'⟩
  · have e : ¬ p.owner = owner := by simpa using e
    have e1 : oneS p owner = 0 := by unfold oneS; rw [if_neg e]
    rw [e1, Int.add_zero] at hst
    unfold F48_k3
    rw [wrap_succ k l hk' (by omega), ← hst]
    exact ⟨⟨k + 1, rfl, by omega, rfl, x1.trans x13⟩, less_succ k l hk'⟩
theorem refCharge_ok (a : Option Addr) (l c : Nat) (ps : List PackV) (ds : List Hdr) (owner : Int) (h : Heap) (hp : PacksAt h a l c ps ds) (hl : l < 200000000) :
    HEnt Tryd.prog 49 #[.slice a l c, .int .i64 owner] h fun v h' => v = .int .i64 (ownS ps owner) ∧ Ext h h' := by
  have hlen := hp.length
  refine F49_ent _ _ _ _ _ _ ?_
  unfold F49
  rintro _ rfl _ rfl
  refine ⟨fun s x h' => ∃ k : Nat, x = k ∧ k ≤ l ∧ s = ownS (ps.take k) owner ∧ Ext h h', fun _ x _ => (l - x).toNat, ⟨0, rfl, by omega, rfl, Ext.refl h⟩, ?_⟩
  rintro h1 _ _ ⟨k, rfl, hk, rfl, x1⟩
  unfold F49_b1
  refine br_of (fun ht => ?_) (fun hf => ?_)
  rotate_left
  · have hk' : k = l := by
      have : ¬ (k : Int) < (l : Int) := by simpa using hf
      omega
    unfold F49_k4
    exact ⟨by rw [List.take_of_length_le (by omega)], x1⟩
  have hk' : k < l := by
    have : (k : Int) < (l : Int) := by simpa using ht
    omega
  obtain ⟨b, o, p, d, hpi, hdi, ea, hpok, hrefs, hc⟩ := (hp.grow x1).at_ hk'
  have hbd := ownS_bound owner (ps.take (k + 1))
  rw [List.length_take] at hbd
  have hst := ownS_take owner hpi
  unfold F49_k2
  rw [Int.toNat_natCast]
  simp only [ea]
  refine ⟨_, rfl, by omega, by omega, p.owner, by rw [add_mk, add_mk]; exact hc 0 _ rfl, br_of (fun e => ?_) (fun e => ?_)⟩
  · have e : p.owner = owner := by simpa using e
    refine ⟨_, rfl, by omega, by omega, p.name, p.ver, d.a, d.l, d.c, by rw [add_mk, add_mk, add_mk]; exact hc 1 _ rfl, by rw [add_mk, add_mk, add_mk]; exact hc 2 _ rfl, by rw [add_mk, add_mk, add_mk]; exact hc 3 _ rfl, trivial, HEnt.use (refSize_ok p.name p.ver d.a d.l d.c p.refs h1 hrefs hpok.1 hpok.2) ?_⟩
    rintro _ h4 ⟨rfl, x4⟩
    refine ⟨_, rfl, ?_⟩
    rintro _ rfl
    have e1 : oneS p owner = sizeS p.name p.ver p.refs := by unfold oneS; rw [if_pos e]
    rw [e1] at hst
    unfold F49_k3
    rintro _ rfl
    rw [wrap_succ k l hk' (by omega), ← hst, i64_lt _ (by omega) (by omega)]
    exact ⟨⟨k + 1, rfl, by omega, rfl, x1.trans x4⟩, less_succ k l hk'⟩
  · have e : ¬ p.owner = owner := by simpa using e
    have e1 : oneS p owner = 0 := by unfold oneS; rw [if_neg e]
    rw [e1, Int.add_zero] at hst
    unfold F49_k3
    rintro _ rfl
    rw [wrap_succ k l hk' (by omega), ← hst]
    exact ⟨⟨k + 1, rfl, by omega, rfl, x1⟩, less_succ k l hk'⟩
theorem more_ok (a : Option Addr) (l c : Nat) (ps : List PackV) (ds : List Hdr) (a1 : Option Addr) (l1 c1 : Nat) (qs : List PackV) (es : List Hdr) (owner : Int) (h : Heap) (hp : PacksAt h a l c ps ds) (hq : PacksAt h a1 l1 c1 qs es) (hl : l < 200000000) (hl1 : l1 < 200000000) :
    HEnt Tryd.prog 26 #[.slice a l c, .slice a1 l1 c1, .int .i64 owner] h fun v h' => v = .int .i64 (moreS ps qs owner) ∧ Ext h h' := by
  have e1 := hp.length
  have e2 := hq.length
  have b1 := ownS_bound owner ps
  have b2 := ownS_bound owner qs
  refine F26_ent _ _ _ _ _ _ _ _ _ ?_
  unfold F26
  refine HEnt.use (charge_ok a1 l1 c1 qs es owner h hq hl1) ?_
  rintro _ h1 ⟨rfl, x1⟩
  refine ⟨_, rfl, HEnt.use (charge_ok a l c ps ds owner h1 (hp.grow x1) hl) ?_⟩
  rintro _ h2 ⟨rfl, x2⟩
  refine ⟨_, rfl, ?_, x1.trans x2⟩
  rw [i64_lt _ (by omega) (by omega)]
  congr 1
  unfold moreS maxI
  split <;> split <;> omega
theorem refMore_ok (a : Option Addr) (l c : Nat) (ps : List PackV) (ds : List Hdr) (a1 : Option Addr) (l1 c1 : Nat) (qs : List PackV) (es : List Hdr) (owner : Int) (h : Heap) (hp : PacksAt h a l c ps ds) (hq : PacksAt h a1 l1 c1 qs es) (hl : l < 200000000) (hl1 : l1 < 200000000) :
    HEnt Tryd.prog 27 #[.slice a l c, .slice a1 l1 c1, .int .i64 owner] h fun v h' => v = .int .i64 (moreS ps qs owner) ∧ Ext h h' := by
  have e1 := hp.length
  have e2 := hq.length
  have b1 := ownS_bound owner ps
  have b2 := ownS_bound owner qs
  refine F27_ent _ _ _ _ _ _ _ _ _ ?_
  unfold F27
  refine HEnt.use (refCharge_ok a l c ps ds owner h hp hl) ?_
  rintro _ h1 ⟨rfl, x1⟩
  refine ⟨_, rfl, HEnt.use (refCharge_ok a1 l1 c1 qs es owner h1 (hq.grow x1) hl1) ?_⟩
  rintro _ h2 ⟨rfl, x2⟩
  refine ⟨_, rfl, br_of (fun g => ⟨?_, x1.trans x2⟩) (fun g => ?_)⟩
  · have g : ownS qs owner < ownS ps owner := by simpa using g
    unfold moreS; rw [if_pos g]
  · have g : ¬ ownS qs owner < ownS ps owner := by simpa using g
    unfold F27_k1
    refine ⟨?_, x1.trans x2⟩
    rw [i64_lt _ (by omega) (by omega)]
    unfold moreS; rw [if_neg g]
end Go.Proofs.YtfknpbgneeefjaaDoor

namespace Go.Proofs.YtfknpbgneeefjaaDoor
open Go.Vc Go.Sha Go.Trail Go.Packs Go.Plan Go.Man
set_option linter.unusedVariables false
set_option linter.unusedSimpArgs false
set_option maxRecDepth 20000
theorem cell_low {h : Heap} {ad : Addr} {v : Value} (hc : Vc.cell h ad = some v) : ad.block < h.size := by
  unfold Vc.cell at hc
  cases e : h[ad.block]? with
  | none => simp [e] at hc
  | some o => exact blk_lt e
theorem ext_keep {S : Nat → Prop} {h h' : Heap} (x : Ext h h') : Keep S h h' := ⟨x.size, fun k hk _ => x.block k hk⟩
/-- plans that came in, whatever their length -/
structure PlansArg (h : Heap) (a : Option Addr) (l c : Nat) (pl : List PlanV) (hs : List Hdr) : Prop where
  len : hs.length = pl.length
  rows : Tab 2 h a l c (List.zipWith planC pl hs)
  packs : ∀ (i : Nat) (p : PlanV) (d : Hdr), pl[i]? = some p → hs[i]? = some d → ∃ ds, PacksAt h d.a d.l d.c p.2 ds ∧ d.l < 9223372036854775808
theorem PlansArg.length {h : Heap} {a : Option Addr} {l c : Nat} {pl : List PlanV} {hs : List Hdr} (t : PlansArg h a l c pl hs) : pl.length = l := by
  have := t.rows.len
  rw [List.length_zipWith, t.len, Nat.min_self] at this; exact this
theorem PlansArg.get {h : Heap} {a : Option Addr} {l c : Nat} {pl : List PlanV} {hs : List Hdr} (t : PlansArg h a l c pl hs) {i : Nat} (hi : i < l) :
    ∃ q p d ds, pl[i]? = some p ∧ hs[i]? = some d ∧ a = some q ∧ cell h ((q.add (i * 2)).add 0) = some (.int .i64 p.1) ∧ cell h ((q.add (i * 2)).add 1) = some (.slice d.a d.l d.c) ∧ PacksAt h d.a d.l d.c p.2 ds ∧ d.l < 9223372036854775808 := by
  have hl := t.length
  have hle := t.len
  have h1 : pl[i]? = some (pl[i]'(by omega)) := List.getElem?_eq_getElem (by omega)
  have h2 : hs[i]? = some (hs[i]'(by omega)) := List.getElem?_eq_getElem (by omega)
  have hz : (List.zipWith planC pl hs)[i]? = some (planC (pl[i]'(by omega)) (hs[i]'(by omega))) := by rw [List.getElem?_zipWith, h1, h2]
  obtain ⟨q, e1, _, hc⟩ := t.rows.get hz
  obtain ⟨ds, g1, g2⟩ := t.packs i _ _ h1 h2
  exact ⟨q, _, _, ds, h1, h2, e1, hc 0 _ rfl, hc 1 _ rfl, g1, g2⟩
theorem PlansArg.take {h : Heap} {a : Option Addr} {l c : Nat} {pl : List PlanV} {hs : List Hdr} (p : PlansArg h a l c pl hs) (k : Nat) (hk : k ≤ l) : PlansArg h a k c (pl.take k) (hs.take k) := by
  refine ⟨by rw [List.length_take, List.length_take, p.len], ?_, fun i q d hi hd => ?_⟩
  · rw [← List.take_zipWith]; exact p.rows.take k hk
  · rw [List.getElem?_take] at hi hd
    split at hi
    · rename_i hik
      rw [if_pos hik] at hd
      exact p.packs i q d hi hd
    · cases hi
/-- plans in memory of their own -/
structure PlanOwn (h0 h : Heap) (e : Hdr) (pl : List PlanV) (hs : List Hdr) : Prop where
  len : hs.length = pl.length
  rows : OwnR 49 2 h0 h e.a e.l e.c (List.zipWith planC pl hs)
  packs : ∀ (i : Nat) (p : PlanV) (d : Hdr), pl[i]? = some p → hs[i]? = some d → ∃ es, TwinAt h0 h d p.2 es
theorem PlanOwn.nil {h0 h : Heap} (x : Ext h0 h) : PlanOwn h0 h ⟨none, 0, 0⟩ [] [] := ⟨rfl, OwnR.nil _ _ x, fun i p d hp _ => by simp at hp⟩
theorem PlanOwn.grow {h0 h h' : Heap} {e : Hdr} {pl : List PlanV} {hs : List Hdr} (t : PlanOwn h0 h e pl hs) (x : Ext h h') : PlanOwn h0 h' e pl hs :=
  ⟨t.len, t.rows.grow x, fun i p d hp hd => let ⟨es, g⟩ := t.packs i p d hp hd; ⟨es, g.grow x⟩⟩
theorem PlanOwn.in_ {h0 h : Heap} {e : Hdr} {pl : List PlanV} {hs : List Hdr} (t : PlanOwn h0 h e pl hs) (s : ∀ p ∈ pl, Small p.2) : PlansIn h e.a e.l e.c pl hs :=
  ⟨t.len, t.rows.rows, fun i p d hp hd => by
    obtain ⟨es, g⟩ := t.packs i p d hp hd
    have sm := s p (List.mem_of_getElem? hp)
    have b := twin_hdr g sm
    exact ⟨es, g.packs fun p hp => (sm.1 p hp).1, by omega, fun x hx => by have := b.2 x hx; omega⟩⟩
theorem PlanOwn.app {h0 h : Heap} {e d : Hdr} {pl : List PlanV} {hs es : List Hdr} {p : PlanV} {b : Nat} {K : Option Addr → Nat → Nat → Heap → Prop} (t : PlanOwn h0 h e pl hs) (hd : TwinAt h0 h d p.2 es) (hb : h[b]? = some (.cells (planC p d).toArray 49 (0, 0))) (room : e.l < 1099511627776)
    (hK : ∀ e' h', e'.l = e.l + 1 → Keep (h0.size ≤ ·) h h' → PlanOwn h0 h' e' (pl ++ [p]) (hs ++ [d]) → K e'.a e'.l e'.c h') : appK Tryd.prog 49 h e.a e.l e.c (.slice (some (at0 b)) 1 1) K := by
  have xs := t.rows.ext.size
  refine appK_R (new := [planC p d]) (m := 1) size49 t.rows (srcK_slice rfl (fun ad e => by cases e; exact cells_blk0 hb) (by rintro ⟨⟩)) rfl (by intro r hr; simp at hr; subst hr; rfl) (by intro r hr; simp at hr; subst hr; exact plan_one p d) (by rw [bytes49]; omega) z49 fun a' c' h' o' k' _ => hK ⟨a', e.l + 1, c'⟩ h' rfl (k'.mono fun k hk e => ?_) ⟨by simp [t.len], ?_, fun i q x hq hx => ?_⟩
  · rcases e with e | e
    · exact (own_type t.rows e).1
    · omega
  · have : List.zipWith planC (pl ++ [p]) (hs ++ [d]) = List.zipWith planC pl hs ++ [planC p d] := by
      rw [List.zipWith_append t.len.symm]; rfl
    rw [this]; exact o'
  have keepR : ∀ {d : Hdr} {ps : List PackV} {es : List Hdr}, TwinAt h0 h d ps es → TwinAt h0 h' d ps es := fun o => by
    refine o.keepT k' (fun k hk e => ?_) (fun k cs el g hel e => ?_)
    · rcases e with e | e
      · have := (own_type t.rows e).1; omega
      · omega
    · rcases e with e | e
      · have := (own_type t.rows e).2.2 _ _ g
        rcases hel with rfl | rfl <;> exact absurd this (by decide)
      · have := blk_lt g; omega
  have hlen := t.len
  by_cases hi : i < pl.length
  · rw [List.getElem?_append_left (by omega)] at hq hx
    obtain ⟨es', g⟩ := t.packs i q x hq hx
    exact ⟨es', keepR g⟩
  · have hi2 := (List.getElem?_eq_some_iff.1 hq).1
    simp at hi2
    rw [List.getElem?_append_right (by omega), show i - pl.length = 0 by omega] at hq
    rw [List.getElem?_append_right (by omega), show i - hs.length = 0 by omega] at hx
    simp at hq hx
    subst hq; subst hx
    exact ⟨es, keepR hd⟩
def ownP (p : PlanV) : PlanV := (p.1, fewPacks p.2)
theorem SpInv.ext {h0 h h' : Heap} (s : SpInv h0 h h') (x : Ext h0 h) : Ext h0 h' := Keep.since x s.keep fun j hj e => by omega
theorem puts_k1 (a : Option Addr) (l c : Nat) (sts0 : List (List PackV)) (hs0 : List Hdr) (a1 : Option Addr) (l1 c1 : Nat) (pl0 : List PlanV) (hs1 : List Hdr) (owner : Int) (h : Heap) (hst : StacksIn h a l c sts0 hs0) (hpl : PlansArg h a1 l1 c1 pl0 hs1) (hl : l < 9223372036854775808) (hl1 : l1 ≤ 10) (hm : Ord.MaxAt h) :
    F8_k1 a l c a1 l1 c1 owner h (yes h) := by
  have hsm := hst.small
  have hfl : (fewStacks sts0).length ≤ 9 := by unfold fewStacks; rw [List.length_map, List.length_take]; omega
  have hpll := hpl.length
  have psm : ∀ p ∈ pl0.map ownP, Small p.2 := by
    intro p hp
    obtain ⟨q, hq, rfl⟩ := List.mem_map.1 hp
    obtain ⟨i, hi⟩ := List.getElem?_of_mem hq
    have hlt := (List.getElem?_eq_some_iff.1 hi).1
    have hle := hpl.len
    obtain ⟨ds, g1, _⟩ := hpl.packs i q _ hi (List.getElem?_eq_getElem (show i < hs1.length by omega))
    exact few_small (PacksAt.oks g1)
  unfold F8_k1
  refine ⟨fun a7 l7 c7 x hh => ∃ (i : Nat) (es : List Hdr), x = i ∧ i ≤ l1 ∧ l7 = i ∧ PlanOwn h hh ⟨a7, l7, c7⟩ ((pl0.take i).map ownP) es, fun _ _ _ x _ => ((l1 : Int) - x).toNat, ⟨0, [], rfl, by omega, rfl, PlanOwn.nil (Ext.refl h)⟩, ?_⟩
  rintro h1 a7 i c7 _ ⟨_, es, rfl, hi, rfl, t⟩
  have x1 := t.rows.ext
  unfold F8_b2
  refine br_of (fun g => ?_) (fun g => ?_)
  · have hil : i < l1 := by
      have : (i : Int) < (l1 : Int) := by simpa using g
      omega
    obtain ⟨q, p, d, ds, s1, d1, eq, g0, g1, gp, gl⟩ := hpl.get hil
    unfold F8_k3
    refine ⟨Keep (h.size ≤ ·), Keep.refl _, fun _ _ _ => Keep.trans, q, eq, by omega, by omega, p.1, fun w x => run_loadCell (by rw [Int.toNat_natCast]; exact ((ext_keep x1).trans x).cell g0 (cell_low g0)) Tryd.underlying3 rfl, q, eq, by omega, by omega, d.a, d.l, d.c, fun w x => run_loadCell (by rw [Int.toNat_natCast]; exact ((ext_keep x1).trans x).cell g1 (cell_low g1)) Tryd.underlying22 rfl, HEnt.use (packsOf_ok d.a d.l d.c p.2 ds h1 (gp.grow x1) gl) ?_⟩
    rintro _ h2 ⟨e2, es2, rfl, t2⟩
    have x2 : Ext h1 h2 := t2.ext
    refine ⟨_, _, _, rfl, ext_keep x2, rfl, by decide, newK_intro fun h3 hb3 x3 _ => ⟨ext_keep x3, ?_⟩⟩
    refine ((t.grow x2).grow x3).app (e := ⟨a7, i, c7⟩) (d := e2) (p := ownP p) ((t2.since x1).grow x3) hb3 (by show i < _; omega) fun e' h4 hl4 k4 t4 => ?_
    have hl4 : e'.l = i + 1 := hl4
    refine ⟨k4, ?_⟩
    rw [wrap_succ i l1 hil (by omega)]
    refine ⟨⟨i + 1, es ++ [e2], rfl, by omega, hl4, ?_⟩, less_succ i l1 hil⟩
    rw [takeR_succ s1, List.map_append]
    exact t4
  have hil : i = l1 := by
    have : ¬ (i : Int) < (l1 : Int) := by simpa using g
    omega
  subst hil
  rw [List.take_of_length_le (by omega)] at t
  unfold F8_k4
  refine HEnt.use (stacksOf_ok a l c sts0 hs0 h1 (hst.grow x1) hl) ?_
  rintro _ h2 ⟨ei, hei, rfl, ts⟩
  have x2 : Ext h1 h2 := ts.ext
  have x02 := x1.trans x2
  have own2 := (t.grow x2).in_ psm
  have in2 := ts.stacks hsm
  have hinl := ts.length
  refine ⟨_, _, _, rfl, HEnt.use (put_ok ei.a ei.l ei.c _ hei a7 i c7 _ es h2 in2 own2 (by omega)) ?_⟩
  rintro _ h3 ⟨ex, hex, rfl, tx⟩
  have x3 : Ext h2 h3 := tx.ext
  have x03 := x02.trans x3
  have putsm : ∀ ps ∈ putS (fewStacks sts0) (pl0.map ownP), Small ps := by
    intro ps hps
    rcases mem_putS _ _ ps hps with (h1 | h1) | ⟨p, hp, rfl⟩
    · exact hsm ps h1
    · subst h1; exact ⟨by simp, by simp⟩
    · exact psm p hp
  refine ⟨_, _, _, rfl, HEnt.use (stacksOf_ok a l c sts0 hs0 h3 (hst.grow x03) hl) ?_⟩
  rintro _ h4 ⟨e4, he4, rfl, t4⟩
  have x4 : Ext h3 h4 := t4.ext
  have h4l := t4.length
  refine ⟨_, _, _, rfl, HEnt.use (refPut_ok e4.a e4.l e4.c _ he4 a7 i c7 _ es h4 (t4.stacks hsm) ((own2.grow x3).grow x4) psm (by omega) (by omega)) ?_⟩
  rintro _ h5 ⟨e5, he5, rfl, t5⟩
  have x5 : Ext h4 h5 := t5.rows.ext
  have x35 := x4.trans x5
  have hxl := tx.length
  rw [putS_len] at hxl
  refine ⟨_, _, _, rfl, HEnt.use (sameStacks_ok ex.a ex.l ex.c e5.a e5.l e5.c _ hex he5 h5 ((tx.grow x35).stacks putsm) t5.stacks (by omega)) ?_⟩
  rintro _ h6 ⟨rfl, x6⟩
  have x36 := x35.trans x6
  refine ⟨true, rfl, fun x hh => ∃ k : Nat, x = k ∧ k ≤ ex.l ∧ SpInv h2 h6 hh, fun x _ => ((ex.l : Int) - x).toNat, ⟨0, rfl, by omega, SpInv.refl _ _⟩, ?_⟩
  rintro h7 _ ⟨k, rfl, hk, sp⟩
  unfold F8_b5
  refine br_of (fun gk => ?_) (fun gk => ?_)
  · have hkl : k < ex.l := by
      have : (k : Int) < (ex.l : Int) := by simpa using gk
      omega
    have hn3 := tx.len
    have hpl6 := putS_len (fewStacks sts0) (pl0.map ownP)
    have s1 : (putS (fewStacks sts0) (pl0.map ownP))[k]? = some ((putS (fewStacks sts0) (pl0.map ownP))[k]'(by omega)) := List.getElem?_eq_getElem (by omega)
    have d1 : hex[k]? = some (hex[k]'(by omega)) := List.getElem?_eq_getElem (by omega)
    obtain ⟨ek, tw⟩ := tx.packs k _ _ s1 d1
    have gp := putsm _ (List.mem_of_getElem? s1)
    have hz : (hex.map sliceC)[k]? = some (sliceC (hex[k]'(by omega))) := by rw [List.getElem?_map, d1]; rfl
    generalize (putS (fewStacks sts0) (pl0.map ownP))[k]'(by omega) = p at *
    generalize hex[k]'(by omega) = d at *
    obtain ⟨b, o, hab, _, hc⟩ := (tx.rows.grow x36).rows.at_ (fun e => by rw [e] at hz; simp at hz)
    have hc1 := sp.sl _ _ _ _ _ (hc k _ hz 0 _ rfl)
    have b3 := twin_hdr tw gp
    unfold F8_k6
    rw [Int.toNat_natCast]
    refine ⟨⟨b, o, none⟩, hab, by omega, by omega, d.a, d.l, d.c, by rw [add_mk]; exact hc1, ?_⟩
    refine HEnt.use (spoil2_ok d ek h2 h7 (sp.sp d ek ((tw.grow x36).spoil fun p hp => (gp.1 p hp).1.2)) (by omega) (fun x hx => by have := b3.2 x hx; omega)) ?_
    rintro _ h8 ⟨rfl, sp8⟩
    refine ⟨rfl, ?_⟩
    rw [wrap_succ k ex.l hkl (by omega)]
    exact ⟨⟨k + 1, rfl, by omega, sp.trans sp8⟩, less_succ k ex.l hkl⟩
  have x27 : Ext h2 h7 := sp.ext (x3.trans x36)
  have x07 := x02.trans x27
  unfold F8_k7
  refine br_of (fun e => by cases e) (fun _ => ?_)
  refine HEnt.use (stacksOf_ok a l c sts0 hs0 h7 (hst.grow x07) hl) ?_
  rintro _ h8 ⟨e8, he8, rfl, t8⟩
  have x8 : Ext h7 h8 := t8.ext
  refine ⟨_, _, _, rfl, HEnt.use (sameStacks_ok ei.a ei.l ei.c e8.a e8.l e8.c _ hei he8 h8 (in2.grow (x27.trans x8)) (t8.stacks hsm) (by omega)) ?_⟩
  rintro _ h9 ⟨rfl, x9⟩
  have x29 := (x27.trans x8).trans x9
  refine ⟨true, rfl, ?_⟩
  unfold F8_k8
  refine br_of (fun e => by cases e) (fun _ => ?_)
  unfold F8_k9
  refine ⟨fun x hh => ∃ k : Nat, x = k ∧ k ≤ i ∧ Ext h9 hh, fun x _ => ((i : Int) - x).toNat, ⟨0, rfl, by omega, Ext.refl _⟩, ?_⟩
  rintro h10 _ ⟨k, rfl, hk, x10⟩
  have x210 := x29.trans x10
  unfold F8_b10
  refine br_of (fun gk => ?_) (fun gk => ?_)
  · have hkl : k < i := by
      have : (k : Int) < (i : Int) := by simpa using gk
      omega
    obtain ⟨q, p, d, s1, d1, eq, c0, c1⟩ := (own2.grow x210).get hkl
    have spl := psm p (List.mem_of_getElem? s1)
    obtain ⟨ds, g1, g2, g3⟩ := (own2.grow x210).packs k p d s1 d1
    have g1l := g1.length
    have := spl.2
    have k12 : ∀ h' b, b = false → Ext h10 h' → F8_k12 (fun x hh => ∃ k : Nat, x = k ∧ k ≤ i ∧ Ext h9 hh) (fun x _ => ((i : Int) - x).toNat) ((i : Int) - (k : Int)).toNat owner a7 i c7 ei.a ei.l ei.c i k b h' (yes h) := by
      rintro h' _ rfl x'
      unfold F8_k12
      refine br_of (fun e => by cases e) (fun _ => ?_)
      unfold F8_k13
      rw [wrap_succ k i hkl (by omega)]
      exact ⟨⟨k + 1, rfl, by omega, x10.trans x'⟩, less_succ k i hkl⟩
    unfold F8_k11
    refine ⟨Ext, Ext.refl, fun _ _ _ => Ext.trans, br_of (fun gi => ?_) (fun gi => k12 h10 false rfl (Ext.refl _))⟩
    have hki : k < ei.l := by
      have : (k : Int) < (ei.l : Int) := by simpa using gi
      omega
    obtain ⟨q2, ps2, d2, ds2, s2, eq2, c2, g4, g5⟩ := (in2.grow x210).in_.get hki
    have g4l := g4.length
    have := (hsm ps2 (List.mem_of_getElem? s2)).2
    refine ⟨q2, eq2, by omega, by omega, d2.a, d2.l, d2.c, fun w x => run_loadCell (x.some (by rw [Int.toNat_natCast]; exact c2)) Tryd.underlying22 rfl, q, eq, by omega, by omega, d.a, d.l, d.c, fun w x => run_loadCell (x.some (by rw [Int.toNat_natCast]; exact c1)) Tryd.underlying22 rfl, q2, eq2, by omega, by omega, d2.a, d2.l, d2.c, fun w x => run_loadCell (x.some (by rw [Int.toNat_natCast]; exact c2)) Tryd.underlying22 rfl, q, eq, by omega, by omega, d.a, d.l, d.c, fun w x => run_loadCell (x.some (by rw [Int.toNat_natCast]; exact c1)) Tryd.underlying22 rfl, ?_⟩
    refine HEnt.use (more_ok d2.a d2.l d2.c ps2 ds2 d.a d.l d.c p.2 ds owner h10 g4 g1 (by omega) (by omega)) ?_
    rintro _ h11 ⟨rfl, x11⟩
    refine ⟨_, rfl, x11, HEnt.use (refMore_ok d2.a d2.l d2.c ps2 ds2 d.a d.l d.c p.2 ds owner h11 (g4.grow x11) (g1.grow x11) (by omega) (by omega)) ?_⟩
    rintro _ h12 ⟨rfl, x12⟩
    exact ⟨_, rfl, x12, k12 h12 _ (by simp) (x11.trans x12)⟩
  · unfold F8_k14
    exact works_yes (x02.trans x210) hm
theorem puts_ok (a : Option Addr) (l c : Nat) (sts0 : List (List PackV)) (hs0 : List Hdr) (a1 : Option Addr) (l1 c1 : Nat) (pl0 : List PlanV) (hs1 : List Hdr) (owner : Int) (h : Heap) (hst : StacksIn h a l c sts0 hs0) (hpl : PlansArg h a1 l1 c1 pl0 hs1) (hl : l < 9223372036854775808) (hm : Ord.MaxAt h) :
    HEnt Tryd.prog 8 #[.slice a l c, .slice a1 l1 c1, .int .i64 owner] h (yes h) := by
  refine F8_ent _ _ _ _ _ _ _ _ _ ?_
  unfold F8
  refine br_of (fun g => ?_) (fun g => ?_)
  · have g : 10 < l1 := by
      have : (10 : Int) < (l1 : Int) := by simpa using g
      omega
    have hcap := hpl.rows.cap
    refine ⟨by omega, by omega, by omega, ?_⟩
    rw [cutAt0]
    have hp := hpl.take 10 (by omega)
    exact puts_k1 a l c sts0 hs0 a1 10 c1 _ _ owner h hst hp hl (by omega) hm
  · have g : ¬ 10 < l1 := by
      have : ¬ (10 : Int) < (l1 : Int) := by simpa using g
      omega
    exact puts_k1 a l c sts0 hs0 a1 l1 c1 _ _ owner h hst hpl hl (by omega) hm
end Go.Proofs.YtfknpbgneeefjaaDoor
