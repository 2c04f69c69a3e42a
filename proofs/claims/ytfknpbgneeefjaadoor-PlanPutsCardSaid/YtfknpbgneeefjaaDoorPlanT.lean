import Derived.Test.YtfknpbgneeefjaaDoorPlanSort
import Derived.Test.YtfknpbgneeefjaaDoorPlanK
import Derived.Test.YtfknpbgneeefjaaDoorVppG

namespace Go.Proofs.YtfknpbgneeefjaaDoor
open Go.Vc Go.Sha Go.Trail Go.Packs Go.Plan Go.Sort
set_option linter.unusedVariables false
set_option linter.unusedSimpArgs false
set_option maxRecDepth 20000
/-- a plan as it is sorted: its root, and where its packages lie -/
def PE : Type := { p : Int × Hdr // -1000 ≤ p.1 ∧ p.1 ≤ 1000 }
instance : Inhabited PE := ⟨⟨(0, ⟨none, 0, 0⟩), by decide⟩⟩
def encP (x : PE) : List Value := [.int .i64 x.1.1, .slice x.1.2.a x.1.2.l x.1.2.c]
def cfP (x y : PE) : Int := x.1.1 - y.1.1
theorem ltP (x y : PE) : ltOf cfP x y = decide (x.1.1 < y.1.1) := by
  unfold ltOf cfP
  apply decide_eq_decide.2
  omega
theorem swoP : SWO (ltOf cfP) where
  irrefl x := by rw [ltP]; simp
  trans x y z h1 h2 := by rw [ltP] at *; simp at *; omega
  ntrans x y z h1 h2 := by rw [ltP] at *; simp at *; omega
set_option maxHeartbeats 1000000 in
theorem closure44 (x y : PE) (W : World) : Calls Tryd.prog 44 #[.agg #[.int .i64 x.1.1, .slice x.1.2.a x.1.2.l x.1.2.c], .agg #[.int .i64 y.1.1, .slice y.1.2.a y.1.2.l y.1.2.c]] W fun e w' => e = .returned (.int .i64 (cfP x y)) ∧ ∃ q os', w' = grow (W.drewN q) os' := by
  have hx := x.2
  have hy := y.2
  have hw : IntKind.i64.wrap (x.1.1 - y.1.1) = x.1.1 - y.1.1 := i64_lt _ (by omega) (by omega)
  unfold cfP
  rw [← hw]
  clear hw hx hy
  generalize x.1.1 = u
  generalize y.1.1 = v
  generalize x.1.2 = d
  generalize y.1.2 = d2
  go_enter Tryd.func44, Tryd.ntmps44
  go_wp2_with (fail)
  go_ret
  exact ⟨by show Ending.returned (Value.int .i64 (RowKit.wrap64 (u - v))) = _; rw [IntWalk.i64_left], 0, _, by rw [alloc_eq_grow, alloc_eq_grow, grow_grow]; rfl⟩
theorem cmpLays44 (blk off size : Nat) (w : World) : CmpLays Tryd.prog 44 #[] encP 2 cfP blk off size w := fun _ _ _ _ x y => closure44 x y _
/-- the rows of the plans, in the cells of a block -/
def PRows (cs : Array Value) (d : Array PE) : Prop := ∀ i, i < d.size → cs[i * 2]? = some (.int .i64 d[i]!.1.1) ∧ cs[i * 2 + 1]? = some (.slice d[i]!.1.2.a d[i]!.1.2.l d[i]!.1.2.c)
theorem flat_get2 (d : Array PE) (i : Nat) (h : i < d.size) : (flatK encP 2 d)[i * 2]! = .int .i64 d[i]!.1.1 ∧ (flatK encP 2 d)[i * 2 + 1]! = .slice d[i]!.1.2.a d[i]!.1.2.l d[i]!.1.2.c := by
  rw [get_flatK _ _ _ _ (by omega), get_flatK _ _ _ _ (by omega), show i * 2 / 2 = i by omega, show i * 2 % 2 = 0 by omega, show (i * 2 + 1) / 2 = i by omega, show (i * 2 + 1) % 2 = 1 by omega]
  exact ⟨rfl, rfl⟩
theorem sort_ok (b c : Nat) (d : Array PE) (cs : Array Value) (h : Heap) (hb : h[b]? = some (.cells cs 49 (0, 0))) (hr : PRows cs d) (hsz : d.size < 1000) :
    HEnt Tryd.prog 43 #[.slice (some ⟨b, 0, none⟩) d.size c, .func (.func 44) #[] #[]] h fun v h' => v = .tuple #[] ∧ ∃ (d' : Array PE) (cs' : Array Value), d'.size = d.size ∧ d'.toList.Perm d.toList ∧ (∀ i j, i < j → j < d.size → d'[i]!.1.1 ≤ d'[j]!.1.1) ∧ h'[b]? = some (.cells cs' 49 (0, 0)) ∧ PRows cs' d' ∧ Keep (· = b) h h' := by
  refine HEnt.of_body Tryd.func43 (by kernel_rfl) (by kernel_rfl) fun w hw => ?_
  have eg : ∀ args w, (callFunc 44 args).run Tryd.prog w = .ok (.enter 44 args) w := enters_of Tryd.func44 (by kernel_rfl) rfl
  have hcell : ∀ j, j < cs.size → w.cell? ⟨b, j, none⟩ = cs[j]? := fun j hj => by
    show Vc.cell w.heap _ = _
    rw [hw, cell_blk hb]
  have hH : HoldsK encP 2 w b 0 d := by
    intro j hj
    rw [size_flatK] at hj
    refine ⟨?_, ?_⟩
    · have hc : w.cell? ⟨b, 0 + j, none⟩ = cs[j]? := by
        show Vc.cell w.heap _ = _
        rw [hw, cell_blk hb, Nat.zero_add]
      rw [hc]
      obtain ⟨g1, g2⟩ := hr (j / 2) (by omega)
      obtain ⟨f1, f2⟩ := flat_get2 d (j / 2) (by omega)
      rcases Nat.mod_two_eq_zero_or_one j with e | e
      · have ej : j / 2 * 2 = j := by omega
        rw [ej] at g1 f1
        rw [g1, f1]; rfl
      · have ej : j / 2 * 2 + 1 = j := by omega
        rw [ej] at g2 f2
        rw [g2, f2]; rfl
    · unfold World.frozen?
      simp [hw, hb]
  have hblk : b < w.heap.size := by rw [hw]; exact blk_lt hb
  have hcon := AnyQ.slices_SortFunc Tryd.sf43 2 Tryd.isAgg49 Tryd.sizeOf49 encP (fun _ => rfl) (fun x v hv => by simp [encP] at hv; rcases hv with rfl | rfl <;> rfl) cfP swoP 44 #[] b 0 c d w eg (cmpLays44 b 0 d.size w) hH hblk (by omega)
  change Calls Tryd.prog 43 _ _ _ at hcon
  refine hcon.mono fun e w' ⟨he, d', n, os, hp, hs, hw'⟩ => ?_
  subst hw'
  refine ⟨_, he, ⟨rfl, rfl, rfl⟩, rfl, d', putCells id 0 (flatK encP 2 d') cs, hp.1, ?_, fun i j hij hj => ?_, ?_, ?_, ?_⟩
  · have h2 := hp.2.2
    rw [show d'.extract 0 d.size = d' by rw [← hp.1]; simp, show d.extract 0 d.size = d by simp] at h2
    exact h2
  · have := hs i j (Nat.zero_le _) hij hj
    rw [ltP] at this
    simpa using this
  · show ((w.heap.modify b (onCells (putCells id 0 (flatK encP 2 d')))) ++ os)[b]? = _
    rw [Array.getElem?_append_left (by rw [Array.size_modify]; exact hblk), Array.getElem?_modify, if_pos rfl, hw, hb]
    rfl
  · intro i hi
    obtain ⟨g1, g2⟩ := hr i (by rw [← hp.1]; exact hi)
    obtain ⟨f1, f2⟩ := flat_get2 d' i hi
    unfold putCells
    rw [Array.getElem?_mapIdx, Array.getElem?_mapIdx, g1, g2]
    simp only [Option.map_some, size_flatK, Nat.zero_add, Nat.sub_zero, Nat.zero_le, true_and]
    rw [if_pos (by omega), if_pos (by omega), f1, f2]
    exact ⟨rfl, rfl⟩
  · refine ⟨?_, fun k hk hne => ?_⟩
    · show h.size ≤ ((w.heap.modify b (onCells (putCells id 0 (flatK encP 2 d')))) ++ os).size
      rw [Array.size_append, Array.size_modify, hw]; omega
    · show ((w.heap.modify b (onCells (putCells id 0 (flatK encP 2 d')))) ++ os)[k]? = _
      rw [Array.getElem?_append_left (by rw [Array.size_modify, hw]; exact hk), Array.getElem?_modify, if_neg (fun e => hne e.symm), hw]
end Go.Proofs.YtfknpbgneeefjaaDoor

namespace Go.Plan
open Go.Vc Go.Sha Go.Trail Go.Packs Go.Man
set_option linter.unusedVariables false
abbrev PlanV : Type := Int × List PackV
def lookP : List PlanV → Int → Option (List PackV)
  | [], _ => none
  | (q, x) :: t, r => if q = r then some x else lookP t r
def putP : List PlanV → Int → List PackV → List PlanV
  | [], r, ps => [(r, ps)]
  | (q, x) :: t, r, ps => if q = r then (q, ps) :: t else (q, x) :: putP t r ps
def stackC (sts : List (List PackV)) (r : Int) : List PackV := if 1 ≤ r ∧ r ≤ sts.length then sts.getD (r - 1).toNat [] else []
def nowC (sts : List (List PackV)) (pl : List PlanV) (r : Int) : List PackV := match lookP pl r with
  | some x => x
  | none => stackC sts r
def runC (sts : List (List PackV)) (owner : Int) : List PlanV → Nat → List OpV → List PlanV × Nat × Nat
  | pl, _, [] => (pl, 0, 0)
  | pl, i, o :: t => if (doC (nowC sts pl o.root) owner o).2 ≠ 0 then ([], i, (doC (nowC sts pl o.root) owner o).2) else runC sts owner (putP pl o.root (doC (nowC sts pl o.root) owner o).1) (i + 1) t
def allC (sts : List (List PackV)) (owner : Int) (os : List OpV) : List PlanV × Nat × Nat := if os.length = 0 then ([], 0, 9) else if os.length > 8 then ([], 0, 3) else runC sts owner [] 0 os
def idxP : List PlanV → Int → Nat → Int
  | [], _, _ => -1
  | (q, x) :: t, r, k => if q = r then k else idxP t r (k + 1)
theorem idxP_some : ∀ {pl : List PlanV} {r : Int} {k : Nat} {x : List PackV}, lookP pl r = some x → ∃ j, idxP pl r k = ((k + j : Nat) : Int) ∧ pl[j]? = some (r, x) ∧ ∀ ps, putP pl r ps = pl.set j (r, ps)
  | [], _, _, _, h => by cases h
  | (q, y) :: t, r, k, x, h => by
    unfold lookP at h
    by_cases e : q = r
    · rw [if_pos e] at h
      cases h
      subst e
      exact ⟨0, by unfold idxP; rw [if_pos rfl]; rfl, rfl, fun ps => by unfold putP; rw [if_pos rfl]; rfl⟩
    · rw [if_neg e] at h
      obtain ⟨j, h1, h2, h3⟩ := idxP_some (k := k + 1) h
      refine ⟨j + 1, ?_, by simpa using h2, fun ps => ?_⟩
      · unfold idxP; rw [if_neg e, h1]; congr 1; omega
      · unfold putP; rw [if_neg e, h3 ps]; rfl
theorem idxP_none : ∀ {pl : List PlanV} {r : Int} {k : Nat}, lookP pl r = none → idxP pl r k = -1 ∧ (∀ ps, putP pl r ps = pl ++ [(r, ps)]) ∧ ∀ p ∈ pl, p.1 ≠ r
  | [], _, _, _ => ⟨rfl, fun _ => rfl, by simp⟩
  | (q, y) :: t, r, k, h => by
    unfold lookP at h
    by_cases e : q = r
    · rw [if_pos e] at h; cases h
    · rw [if_neg e] at h
      obtain ⟨h1, h2, h3⟩ := idxP_none (k := k + 1) h
      refine ⟨by unfold idxP; rw [if_neg e, h1], fun ps => by unfold putP; rw [if_neg e, h2 ps]; rfl, fun p hp => ?_⟩
      rcases List.mem_cons.1 hp with rfl | hp
      · exact e
      · exact h3 p hp
theorem idxP_at : ∀ {pl : List PlanV} {r : Int} {j k : Nat} {p : PlanV}, (∀ q ∈ pl.take j, q.1 ≠ r) → pl[j]? = some p → p.1 = r → idxP pl r k = ((k + j : Nat) : Int)
  | [], _, _, _, _, _, h, _ => by simp at h
  | (q, y) :: t, r, 0, k, p, _, h, e => by
    simp at h; subst h
    unfold idxP; rw [if_pos e]; rfl
  | (q, y) :: t, r, j + 1, k, p, h0, h, e => by
    unfold idxP
    rw [if_neg (h0 (q, y) (by simp)), idxP_at (j := j) (k := k + 1) (fun r hr => h0 r (by simp [hr])) (by simpa using h) e]
    congr 1; omega
theorem idxP_no : ∀ {pl : List PlanV} {r : Int} {k : Nat}, (∀ q ∈ pl, q.1 ≠ r) → idxP pl r k = -1
  | [], _, _, _ => rfl
  | (q, y) :: t, r, k, h => by
    unfold idxP
    rw [if_neg (h (q, y) (by simp))]
    exact idxP_no fun r hr => h r (by simp [hr])
theorem doC_zero (ps : List PackV) (owner : Int) (o : OpV) : packsC [] 0 (doC ps owner o).1 = 0 := by
  have chk : ∀ l, packsC [] 0 (chkC l).1 = 0 := fun l => by
    unfold chkC
    split
    · assumption
    · rfl
  unfold doC
  split
  · rfl
  split
  · rfl
  rename_i h2
  split
  · rfl
  split
  · split
    · exact chk _
    · rfl
  · rename_i k p _
    split
    · rfl
    split
    · rfl
    split
    · exact packsC_erase ps k (by omega)
    split
    · rfl
    · exact chk _
theorem doC_mem (ps : List PackV) (owner : Int) (o : OpV) : ∀ p ∈ (doC ps owner o).1, p ∈ ps ∨ p = layV owner o := by
  have chk : ∀ l : List PackV, (∀ p ∈ l, p ∈ ps ∨ p = layV owner o) → ∀ p ∈ (chkC l).1, p ∈ ps ∨ p = layV owner o := fun l hl p hp => by
    unfold chkC at hp
    split at hp
    · exact hl p hp
    · simp at hp
  intro p hp
  unfold doC at hp
  split at hp
  · simp at hp
  split at hp
  · simp at hp
  split at hp
  · simp at hp
  split at hp
  · split at hp
    · refine chk _ (fun q hq => ?_) p hp
      rcases List.mem_append.1 hq with hq | hq
      · exact .inl hq
      · simp at hq; exact .inr hq
    · simp at hp
  · split at hp
    · simp at hp
    split at hp
    · simp at hp
    split at hp
    · exact .inl (List.mem_of_mem_eraseIdx hp)
    split at hp
    · simp at hp
    · refine chk _ (fun q hq => ?_) p hp
      rcases List.mem_or_eq_of_mem_set hq with hq | hq
      · exact .inl hq
      · exact .inr hq
theorem doC_root {ps : List PackV} {owner : Int} {o : OpV} (h : (doC ps owner o).2 = 0) : 1 ≤ o.root ∧ o.root ≤ 6 := by
  unfold doC at h
  split at h
  · rename_i h1; exact absurd h h1
  · rename_i h1
    have h1' : opC o = 0 := by omega
    unfold opC at h1'
    split at h1'
    · cases h1'
    · split at h1'
      · cases h1'
      · omega
theorem perm_map {α β : Type} {f : α → β} {L L' : List β} (h : L.Perm L') : ∀ M : List α, M.map f = L → ∃ M' : List α, M'.Perm M ∧ M'.map f = L' := by
  induction h with
  | nil => intro M e; exact ⟨[], by rw [List.map_eq_nil_iff.1 e], rfl⟩
  | cons x _ ih =>
    intro M e
    cases M with
    | nil => cases e
    | cons m M =>
      simp only [List.map_cons, List.cons.injEq] at e
      obtain ⟨M', h1, h2⟩ := ih M e.2
      exact ⟨m :: M', h1.cons m, by rw [List.map_cons, h2, e.1]⟩
  | swap x y l =>
    intro M e
    cases M with
    | nil => cases e
    | cons m M =>
      cases M with
      | nil => simp at e
      | cons n M =>
        simp only [List.map_cons, List.cons.injEq] at e
        obtain ⟨e1, e2, e3⟩ := e
        exact ⟨n :: m :: M, List.Perm.swap m n M, by simp [e1, e2, e3]⟩
  | trans _ _ ih1 ih2 =>
    intro M e
    obtain ⟨M1, h1, h2⟩ := ih1 M e
    obtain ⟨M2, h3, h4⟩ := ih2 M1 h2
    exact ⟨M2, h3.trans h1, h4⟩
end Go.Plan
namespace Go.Proofs.YtfknpbgneeefjaaDoor
open Go.Vc Go.Sha Go.Trail Go.Packs Go.Plan Go.Man
set_option linter.unusedVariables false
set_option linter.unusedSimpArgs false
set_option maxRecDepth 20000
def planC (p : PlanV) (d : Hdr) : List Value := [.int .i64 p.1, .slice d.a d.l d.c]
theorem size49 : Tryd.prog.cellsOf 49 = 2 := by kernel_rfl
theorem bytes49 : Tryd.prog.bytesOf 49 = 32 := by kernel_rfl
theorem z49 : (((Tryd.prog.info? 49).bind (·.zero)).getD undef).cells.size = 2 := by kernel_rfl
theorem plan_one (p : PlanV) (d : Hdr) : ∀ u ∈ planC p d, Vc.one u = true := by
  intro u hu
  simp only [planC, List.mem_cons, List.not_mem_nil, or_false] at hu
  rcases hu with rfl | rfl <;> rfl
/-- packages that may be, and are sound -/
def GoodPs (ps : List PackV) : Prop := packsC [] 0 ps = 0 ∧ ∀ p ∈ ps, p.ok ∧ ∀ r ∈ p.refs, r.ok
structure PlanTw (h0 h : Heap) (e : Hdr) (pl : List PlanV) (hs : List Hdr) : Prop where
  len : hs.length = pl.length
  rows : OwnR 49 2 h0 h e.a e.l e.c (List.zipWith planC pl hs)
  packs : ∀ (i : Nat) (p : PlanV) (d : Hdr), pl[i]? = some p → hs[i]? = some d → ∃ es, TwinAt h0 h d p.2 es
theorem PlanTw.nil {h0 h : Heap} (x : Ext h0 h) : PlanTw h0 h ⟨none, 0, 0⟩ [] [] := ⟨rfl, OwnR.nil _ _ x, fun i p d hp _ => by simp at hp⟩
theorem PlanTw.length {h0 h : Heap} {e : Hdr} {pl : List PlanV} {hs : List Hdr} (t : PlanTw h0 h e pl hs) : pl.length = e.l := by
  have := t.rows.len
  rw [List.length_zipWith, t.len, Nat.min_self] at this; exact this
theorem PlanTw.grow {h0 h h' : Heap} {e : Hdr} {pl : List PlanV} {hs : List Hdr} (t : PlanTw h0 h e pl hs) (x : Ext h h') : PlanTw h0 h' e pl hs :=
  ⟨t.len, t.rows.grow x, fun i p d hp hd => let ⟨es, g⟩ := t.packs i p d hp hd; ⟨es, g.grow x⟩⟩
theorem PlanTw.get {h0 h : Heap} {e : Hdr} {pl : List PlanV} {hs : List Hdr} (t : PlanTw h0 h e pl hs) {i : Nat} (hi : i < e.l) :
    ∃ q p d, pl[i]? = some p ∧ hs[i]? = some d ∧ e.a = some q ∧ cell h ((q.add (i * 2)).add 0) = some (.int .i64 p.1) ∧ cell h ((q.add (i * 2)).add 1) = some (.slice d.a d.l d.c) := by
  have hl := t.length
  have hle := t.len
  have h1 : pl[i]? = some (pl[i]'(by omega)) := List.getElem?_eq_getElem (by omega)
  have h2 : hs[i]? = some (hs[i]'(by omega)) := List.getElem?_eq_getElem (by omega)
  have hz : (List.zipWith planC pl hs)[i]? = some (planC (pl[i]'(by omega)) (hs[i]'(by omega))) := by rw [List.getElem?_zipWith, h1, h2]
  obtain ⟨q, e1, _, hc⟩ := t.rows.rows.get hz
  exact ⟨q, _, _, h1, h2, e1, hc 0 _ rfl, hc 1 _ rfl⟩
theorem PlanTw.app {h0 h : Heap} {e d : Hdr} {pl : List PlanV} {hs es : List Hdr} {p : PlanV} {b : Nat} {K : Option Addr → Nat → Nat → Heap → Prop} (t : PlanTw h0 h e pl hs) (hd : TwinAt h0 h d p.2 es) (hb : h[b]? = some (.cells (planC p d).toArray 49 (0, 0))) (room : e.l < 1099511627776)
    (hK : ∀ e' h', e'.l = e.l + 1 → PlanTw h0 h' e' (pl ++ [p]) (hs ++ [d]) → K e'.a e'.l e'.c h') : appK Tryd.prog 49 h e.a e.l e.c (.slice (some (at0 b)) 1 1) K := by
  refine appK_R (new := [planC p d]) (m := 1) size49 t.rows (srcK_slice rfl (fun ad e => by cases e; exact cells_blk0 hb) (by rintro ⟨⟩)) rfl (by intro r hr; simp at hr; subst hr; rfl) (by intro r hr; simp at hr; subst hr; exact plan_one p d) (by rw [bytes49]; omega) z49 fun a' c' h' o' k' _ => hK ⟨a', e.l + 1, c'⟩ h' rfl ⟨by simp [t.len], ?_, fun i q x hq hx => ?_⟩
  · have : List.zipWith planC (pl ++ [p]) (hs ++ [d]) = List.zipWith planC pl hs ++ [planC p d] := by
      rw [List.zipWith_append t.len.symm]; rfl
    rw [this]; exact o'
  · have keepR : ∀ {d : Hdr} {ps : List PackV} {es : List Hdr}, TwinAt h0 h d ps es → TwinAt h0 h' d ps es := fun o => by
      refine o.keepT k' (fun k hk e => ?_) (fun k cs el g hel e => ?_)
      · rcases e with e | e
        · have := (own_type t.rows e).1; omega
        · have := t.rows.ext.size; omega
      · rcases e with e | e
        · have := (own_type t.rows e).2.2 _ _ g
          rcases hel with rfl | rfl <;> exact absurd this (by decide)
        · have := blk_lt g; omega
    have hlen := t.len
    by_cases hi : i < pl.length
    · rw [List.getElem?_append_left (by omega)] at hq hx
      obtain ⟨es', g⟩ := t.packs i q x hq hx
      exact ⟨es', keepR g⟩
    · have hi2 := (List.getElem?_eq_some_iff.1 hq).1
      simp at hi2
      rw [List.getElem?_append_right (by omega), show i - pl.length = 0 by omega] at hq
      rw [List.getElem?_append_right (by omega), show i - hs.length = 0 by omega] at hx
      simp at hq hx
      subst hq; subst hx
      exact ⟨es, keepR hd⟩
theorem PlanTw.put {h0 h : Heap} {e d : Hdr} {pl : List PlanV} {hs es : List Hdr} {p : PlanV} {k : Nat} {q : Addr} {ps : List PackV} {K : Heap → Prop} (t : PlanTw h0 h e pl hs) (hp : pl[k]? = some p) (hd : TwinAt h0 h d ps es) (hq : e.a = some q)
    (hK : ∀ h', PlanTw h0 h' e (pl.set k (p.1, ps)) (hs.set k d) → K h') : storeK 1 h ((q.add (k * 2)).add 1) (.slice d.a d.l d.c) K := by
  have hlen := t.len
  have hpl := t.length
  have hk := (List.getElem?_eq_some_iff.1 hp).1
  have hd0 : hs[k]? = some (hs[k]'(by omega)) := List.getElem?_eq_getElem (by omega)
  have hz : (List.zipWith planC pl hs)[k]? = some (planC p (hs[k]'(by omega))) := by rw [List.getElem?_zipWith, hp, hd0]
  refine t.rows.store hz (by decide) rfl (fun h' o' on => hK h' ⟨by simp [hlen], ?_, fun i r x hr hx => ?_⟩) hq
  · have : List.zipWith planC (pl.set k (p.1, ps)) (hs.set k d) = (List.zipWith planC pl hs).set k ((planC p (hs[k]'(by omega))).set 1 (.slice d.a d.l d.c)) := by
      apply List.ext_getElem?
      intro i
      rw [List.getElem?_zipWith, List.getElem?_set, List.getElem?_set, List.getElem?_set, List.getElem?_zipWith, List.length_zipWith]
      by_cases hki : k = i
      · subst hki
        rw [if_pos rfl, if_pos rfl, if_pos rfl, if_pos (by omega), if_pos (by omega), if_pos (by omega)]; rfl
      · rw [if_neg hki, if_neg hki, if_neg hki]
    rw [this]; exact o'
  · have keepR : ∀ {d : Hdr} {ps : List PackV} {es : List Hdr}, TwinAt h0 h d ps es → TwinAt h0 h' d ps es := fun o => by
      rcases t.rows.own with ⟨e2, _⟩ | ⟨b, cs, e2, g1, g2, _⟩
      · rw [e2] at hq; cases hq
      · refine o.keepT ((on b e2).keep (S := (· = b)) rfl) (fun k hk e => by omega) (fun k cs el g hel e => ?_)
        subst e
        have := (own_type t.rows e2).2.2 _ _ g
        rcases hel with rfl | rfl <;> exact absurd this (by decide)
    rw [List.getElem?_set] at hr hx
    by_cases hki : k = i
    · subst hki
      rw [if_pos rfl, if_pos (by omega)] at hr hx
      cases hr; cases hx
      exact ⟨es, keepR hd⟩
    · rw [if_neg hki] at hr hx
      obtain ⟨es', g⟩ := t.packs i r x hr hx
      exact ⟨es', keepR g⟩
theorem rooted_ok (p : PlanV) (d : Hdr) (q : Addr) (r : Int) (h : Heap) (hq : Vc.cell h (q.add 1) = some (.int .i64 r)) :
    HEnt Tryd.prog 42 #[.agg #[.int .i64 p.1, .slice d.a d.l d.c], .pointer (some q)] h fun v h' => v = .bool (decide (p.1 = r)) ∧ Ext h h' := by
  refine F42_ent _ _ _ _ _ _ _ ?_
  unfold F42
  refine newK_intro fun h1 hb1 x1 _ => ⟨_, by rw [at_cell hb1]; rfl, _, x1.some hq, ?_, x1⟩
  by_cases e : p.1 = r <;> simp [e]
theorem planAt_ok (e : Hdr) (pl : List PlanV) (hs : List Hdr) (q : Addr) (r : Int) (h0 h : Heap) (t : PlanTw h0 h e pl hs) (hl : e.l < 9223372036854775808) (hq : Vc.cell h (q.add 1) = some (.int .i64 r)) :
    HEnt Tryd.prog 41 #[.slice e.a e.l e.c, .func (.func 42) #[] #[.pointer (some q)]] h fun v h' => v = .int .i64 (idxP pl r 0) ∧ Ext h h' := by
  refine F41_ent _ _ _ _ _ _ ?_
  unfold F41
  have hlen := t.length
  have main : HEnt Tryd.prog 61 #[.slice e.a e.l e.c, .func (.func 42) #[] #[.pointer (some q)]] h fun v h' => v = .int .i64 (idxP pl r 0) ∧ Ext h h' := by
    refine F61_ent _ _ _ _ _ _ ?_
    unfold F61
    refine ⟨fun y h' => ∃ k : Nat, y = k ∧ k ≤ e.l ∧ (∀ p ∈ pl.take k, p.1 ≠ r) ∧ Ext h h', fun y _ => ((e.l : Int) - y).toNat, ⟨0, rfl, by omega, by simp, Ext.refl h⟩, ?_⟩
    rintro h1 _ ⟨k, rfl, hk, hno, x1⟩
    unfold F61_b1
    refine br_of (fun ht => ?_) (fun hf => ?_)
    · have hk' : k < e.l := by
        have : (k : Int) < (e.l : Int) := by simpa using ht
        omega
      obtain ⟨q', p, d, hpi, hdi, ea, c0, c1⟩ := (t.grow x1).get hk'
      unfold F61_k2
      refine ⟨q', ea, by omega, by omega, p.1, d.a, d.l, d.c, by rw [Int.toNat_natCast]; exact c0, by rw [Int.toNat_natCast]; exact c1, rfl, ?_⟩
      refine HEnt.use (rooted_ok p d q r h1 (x1.some hq)) ?_
      rintro _ h2 ⟨rfl, x2⟩
      refine ⟨_, rfl, br_of (fun he => ?_) (fun he => ?_)⟩
      · have he' := of_decide_eq_true he
        refine ⟨?_, x1.trans x2⟩
        rw [idxP_at (k := 0) hno hpi he', Nat.zero_add]
      · have he' := of_decide_eq_false he
        unfold F61_k3
        rw [wrap_succ k _ hk' hl]
        refine ⟨⟨k + 1, rfl, by omega, fun s hs => ?_, x1.trans x2⟩, less_succ _ _ hk'⟩
        rw [takeR_succ hpi] at hs
        rcases List.mem_append.1 hs with hs | hs
        · exact hno s hs
        · simp at hs; subst hs; exact he'
    · have hk' : k = e.l := by
        have : ¬ (k : Int) < (e.l : Int) := by simpa using hf
        omega
      rw [List.take_of_length_le (by omega)] at hno
      unfold F61_k4
      exact ⟨by rw [idxP_no hno], x1⟩
  refine HEnt.use main ?_
  rintro _ h1 ⟨rfl, x1⟩
  exact ⟨_, rfl, rfl, x1⟩
end Go.Proofs.YtfknpbgneeefjaaDoor

namespace Go.Proofs.YtfknpbgneeefjaaDoor
open Go.Vc Go.Sha Go.Trail Go.Packs Go.Plan Go.Man
set_option linter.unusedVariables false
set_option linter.unusedSimpArgs false
set_option maxRecDepth 20000
/-- stacks that came in -/
structure StacksAt (h : Heap) (a : Option Addr) (l c : Nat) (sts : List (List PackV)) (hs : List Hdr) : Prop where
  len : hs.length = sts.length
  rows : Tab 1 h a l c (hs.map fun d => [.slice d.a d.l d.c])
  packs : ∀ (i : Nat) (ps : List PackV) (d : Hdr), sts[i]? = some ps → hs[i]? = some d → ∃ ds, PacksAt h d.a d.l d.c ps ds ∧ d.l < 1099511627776 ∧ ∀ x ∈ ds, x.l ≤ 1099511627776
theorem StacksAt.grow {h h' : Heap} {a : Option Addr} {l c : Nat} {sts : List (List PackV)} {hs : List Hdr} (t : StacksAt h a l c sts hs) (x : Ext h h') : StacksAt h' a l c sts hs :=
  ⟨t.len, t.rows.grow x, fun i ps d hp hd => let ⟨ds, g1, g2⟩ := t.packs i ps d hp hd; ⟨ds, g1.grow x, g2⟩⟩
theorem StacksAt.length {h : Heap} {a : Option Addr} {l c : Nat} {sts : List (List PackV)} {hs : List Hdr} (t : StacksAt h a l c sts hs) : sts.length = l := by
  have := t.rows.len
  rw [List.length_map, t.len] at this; exact this
/-- plans as they are handed back -/
structure PlansAt (h0 h : Heap) (a : Option Addr) (l c : Nat) (pl : List PlanV) (hs : List Hdr) : Prop where
  len : hs.length = pl.length
  rows : Tab 2 h a l c (List.zipWith planC pl hs)
  packs : ∀ (i : Nat) (p : PlanV) (d : Hdr), pl[i]? = some p → hs[i]? = some d → ∃ es, TwinAt h0 h d p.2 es
/-- the same plans, in the order of their roots -/
def InOrder (pl' pl : List PlanV) : Prop := pl'.Perm pl ∧ ∀ (i j : Nat) (p q : PlanV), i < j → pl'[i]? = some p → pl'[j]? = some q → p.1 ≤ q.1
def AllR (h0 : Heap) (res : List PlanV × Nat × Nat) : Value → Heap → Prop := fun v h' => ∃ a l c pl hs, v = .tuple #[.slice a l c, .int .i64 res.2.1, .int .i64 res.2.2] ∧ PlansAt h0 h' a l c pl hs ∧ InOrder pl res.1 ∧ Ext h0 h'
def GoodPl (pl : List PlanV) : Prop := (∀ p ∈ pl, (1 ≤ p.1 ∧ p.1 ≤ 6) ∧ GoodPs p.2) ∧ (pl.map Prod.fst).Nodup
theorem twin_small {h0 h : Heap} {e : Hdr} {ps : List PackV} {es : List Hdr} (t : TwinAt h0 h e ps es) (g : packsC [] 0 ps = 0) : e.l ≤ 16 ∧ ∀ x ∈ es, x.l ≤ 8 := by
  have hlen := t.length
  refine ⟨?_, fun x hx => ?_⟩
  · rcases packsC_each ps g with h1 | h1
    · omega
    · rw [h1] at hlen; simp at hlen; omega
  · obtain ⟨i, hi⟩ := List.getElem?_of_mem hx
    have hlt := (List.getElem?_eq_some_iff.1 hi).1
    have hl := t.len
    have p1 : ps[i]? = some (ps[i]'(by omega)) := List.getElem?_eq_getElem (by omega)
    have o := (t.refs i _ x p1 hi).len
    rw [List.length_map] at o
    have := (manC_pos (packsC_mem ps g _ (List.mem_of_getElem? p1))).2.1
    omega
theorem good_put {pl : List PlanV} {r : Int} {ps : List PackV} (g : GoodPl pl) (hr : 1 ≤ r ∧ r ≤ 6) (hp : GoodPs ps) : GoodPl (putP pl r ps) := by
  cases hl : lookP pl r with
  | some x =>
    obtain ⟨j, _, h2, h3⟩ := idxP_some (k := 0) hl
    rw [h3 ps]
    refine ⟨fun p hp' => ?_, ?_⟩
    · rcases List.mem_or_eq_of_mem_set hp' with h | rfl
      · exact g.1 p h
      · exact ⟨hr, hp⟩
    · have : (pl.set j (r, ps)).map Prod.fst = pl.map Prod.fst := by
        rw [List.map_set]
        apply List.ext_getElem?
        intro i
        rw [List.getElem?_set]
        by_cases e : j = i
        · subst e
          have hj := (List.getElem?_eq_some_iff.1 h2).1
          rw [if_pos rfl, List.length_map, if_pos hj, List.getElem?_map, h2]; rfl
        · rw [if_neg e]
      rw [this]; exact g.2
  | none =>
    obtain ⟨_, h2, h3⟩ := idxP_none (k := 0) hl
    rw [h2 ps]
    refine ⟨fun p hp' => ?_, ?_⟩
    · rcases List.mem_append.1 hp' with h | h
      · exact g.1 p h
      · simp at h; subst h; exact ⟨hr, hp⟩
    · rw [List.map_append, List.nodup_append]
      refine ⟨g.2, by simp, fun x hx y hy => ?_⟩
      simp at hy; subst hy
      obtain ⟨p, hp1, rfl⟩ := List.mem_map.1 hx
      exact h3 p hp1
def mkPE (r : Int) (d : Hdr) : PE := if h : -1000 ≤ r ∧ r ≤ 1000 then (show PE from ⟨(r, d), h⟩) else default
theorem mkPE_val {r : Int} {d : Hdr} (h : -1000 ≤ r ∧ r ≤ 1000) : (mkPE r d).1 = (r, d) := by
  unfold mkPE
  split
  · rfl
  · rename_i e; exact absurd h e
/-- the plans sorted -/
theorem sorted_ok (e : Hdr) (pl : List PlanV) (hs : List Hdr) (h0 h : Heap) (t : PlanTw h0 h e pl hs) (g : ∀ p ∈ pl, 1 ≤ p.1 ∧ p.1 ≤ 6) (hl0 : 0 < e.l) (hl : e.l < 1000) :
    HEnt Tryd.prog 43 #[.slice e.a e.l e.c, .func (.func 44) #[] #[]] h fun v h' => v = .tuple #[] ∧ ∃ pl' hs', PlansAt h0 h' e.a e.l e.c pl' hs' ∧ InOrder pl' pl ∧ Ext h0 h' := by
  have hlen := t.len
  have hpl := t.length
  rcases t.rows.own with ⟨e1, e2⟩ | ⟨b, cs, ea, g1, g2, g3, g4⟩
  · have := t.rows.cap; omega
  obtain ⟨M, hM⟩ : ∃ M : List (PlanV × Hdr), M = pl.zip hs := ⟨_, rfl⟩
  have hMl : M.length = e.l := by rw [hM, List.length_zip]; omega
  obtain ⟨f, hf⟩ : ∃ f : PlanV × Hdr → PE, f = fun x => mkPE x.1.1 x.2 := ⟨_, rfl⟩
  obtain ⟨d, hd⟩ : ∃ d : Array PE, d = (M.map f).toArray := ⟨_, rfl⟩
  have hds : d.size = e.l := by rw [hd]; simp [hMl]
  have hMg : ∀ x ∈ M, (-1000 ≤ x.1.1 ∧ x.1.1 ≤ 1000) := fun x hx => by
    rw [hM] at hx
    have := g x.1 (List.of_mem_zip hx).1
    omega
  have val : ∀ (N : List (PlanV × Hdr)) (dd : Array PE), (∀ x ∈ N, -1000 ≤ x.1.1 ∧ x.1.1 ≤ 1000) → dd.toList = N.map f → ∀ (i : Nat) (x : PlanV × Hdr), N[i]? = some x → (dd[i]! : PE).1 = (x.1.1, x.2) := by
    intro N dd hN he i x hi
    have : dd.toList[i]? = some (f x) := by rw [he, List.getElem?_map, hi]; rfl
    rw [Array.getElem?_toList] at this
    obtain ⟨hlt, he2⟩ := Array.getElem?_eq_some_iff.1 this
    rw [getElem!_pos dd i hlt, he2, hf]
    exact mkPE_val (hN x (List.mem_of_getElem? hi))
  have hr : PRows cs d := by
    intro i hi
    have hi' : i < e.l := by omega
    obtain ⟨q, p, dd, hp, hdd, hq, c0, c1⟩ := t.get hi'
    rw [ea] at hq; cases hq
    rw [add_mk, add_mk, cell_blk g2, Nat.zero_add] at c0 c1
    have hMi : M[i]? = some (p, dd) := by rw [hM, List.getElem?_zip_eq_some]; exact ⟨hp, hdd⟩
    rw [val M d hMg (by rw [hd]) i _ hMi]
    exact ⟨c0, c1⟩
  have base := sort_ok b e.c d cs h g2 hr (by omega)
  rw [hds, ← ea] at base
  refine base.mono ?_
  rintro v h' ⟨rfl, d', cs', hs', hperm, hsort, hb', hr', kk⟩
  refine ⟨rfl, ?_⟩
  rw [hd] at hperm
  obtain ⟨M', hp1, hp2⟩ := perm_map hperm.symm M rfl
  have hM'l : M'.length = e.l := by rw [hp1.length_eq, hMl]
  have hM'g : ∀ x ∈ M', (-1000 ≤ x.1.1 ∧ x.1.1 ≤ 1000) := fun x hx => hMg x (hp1.mem_iff.1 hx)
  have v' := val M' d' hM'g hp2.symm
  have x' : Ext h0 h' := Keep.since t.rows.ext kk fun j hj e2 => by omega
  have hzw : List.zipWith planC (M'.map Prod.fst) (M'.map Prod.snd) = M'.map fun x => planC x.1 x.2 := by
    rw [List.zipWith_map, List.zipWith_self]
  refine ⟨M'.map Prod.fst, M'.map Prod.snd, ⟨by simp, ?_, ?_⟩, ⟨?_, ?_⟩, x'⟩
  · rw [hzw]
    refine ⟨by rw [List.length_map, hM'l], t.rows.cap, fun r hr2 => ?_, fun _ => ⟨b, 0, ea, blk_lt hb', fun i r hi j v hj => ?_⟩, fun e2 => by rw [ea] at e2; cases e2⟩
    · obtain ⟨x, _, rfl⟩ := List.mem_map.1 hr2; rfl
    · rw [List.getElem?_map] at hi
      obtain ⟨x, hx, rfl⟩ := Option.map_eq_some_iff.1 hi
      have hlt := (List.getElem?_eq_some_iff.1 hx).1
      obtain ⟨f1, f2⟩ := hr' i (by omega)
      rw [v' i x hx] at f1 f2
      rw [cell_blk hb', Nat.zero_add]
      match j, hj with
      | 0, hj => cases hj; exact f1
      | 1, hj => cases hj; exact f2
  · intro i p dd hp hdd
    rw [List.getElem?_map] at hp hdd
    obtain ⟨x, hx, rfl⟩ := Option.map_eq_some_iff.1 hp
    rw [hx] at hdd
    cases hdd
    have hmem := hp1.mem_iff.1 (List.mem_of_getElem? hx)
    rw [hM] at hmem
    obtain ⟨j, hj⟩ := List.getElem?_of_mem hmem
    obtain ⟨j1, j2⟩ := List.getElem?_zip_eq_some.1 hj
    obtain ⟨es, tt⟩ := t.packs j x.1 x.2 j1 j2
    refine ⟨es, tt.keepT kk (fun k hk e2 => by omega) (fun k cs2 el gg hel e2 => ?_)⟩
    subst e2
    have := (own_type t.rows ea).2.2 _ _ gg
    rcases hel with rfl | rfl <;> exact absurd this (by decide)
  · have := hp1.map Prod.fst
    rwa [hM, List.map_fst_zip (by omega)] at this
  · intro i j p q hij hp hq
    rw [List.getElem?_map] at hp hq
    obtain ⟨x, hx, rfl⟩ := Option.map_eq_some_iff.1 hp
    obtain ⟨y, hy, rfl⟩ := Option.map_eq_some_iff.1 hq
    have hlt := (List.getElem?_eq_some_iff.1 hy).1
    have := hsort i j hij (by omega)
    rw [v' i x hx, v' j y hy] at this
    exact this
end Go.Proofs.YtfknpbgneeefjaaDoor

namespace Go.Proofs.YtfknpbgneeefjaaDoor
open Go.Vc Go.Sha Go.Trail Go.Packs Go.Plan Go.Man
set_option linter.unusedVariables false
set_option linter.unusedSimpArgs false
set_option maxRecDepth 20000
theorem all_ok (a : Option Addr) (l c : Nat) (sts : List (List PackV)) (hs : List Hdr) (owner : Int) (a2 : Option Addr) (l2 c2 : Nat) (os : List OpV) (ds : List Hdr) (h : Heap) (hst : StacksAt h a l c sts hs) (hop : OpsAt h a2 l2 c2 os ds)
    (hdl : ∀ x ∈ ds, x.l ≤ 1099511627776) (hl : l < 9223372036854775807) (hm : Ord.MaxAt h) :
    HEnt Tryd.prog 19 #[.slice a l c, .int .i64 owner, .slice a2 l2 c2] h (AllR h (allC sts owner os)) := by
  have hlen := hop.length
  have hsl := hst.length
  have bad : ∀ {h' : Heap} (i n : Nat), Ext h h' → allC sts owner os = ([], i, n) → AllR h (allC sts owner os) (.tuple #[.slice none 0 0, .int .i64 i, .int .i64 n]) h' := fun i n x e => ⟨none, 0, 0, [], [], by rw [e], ⟨rfl, Tab.empty _ _ _ _, fun i p d hp _ => by simp at hp⟩, by rw [e]; exact ⟨List.Perm.refl _, fun i j p q _ hp _ => by simp at hp⟩, x⟩
  refine F19_ent _ _ _ _ _ _ _ _ _ ?_
  unfold F19
  refine br_of (fun g => ?_) (fun g => br_of (fun g8 => ?_) (fun g8 => ?_))
  · have g' : l2 = 0 := by simpa using g
    exact bad 0 9 (Ext.refl h) (by unfold allC; rw [if_pos (by omega)])
  · have g' : ¬ l2 = 0 := by simpa using g
    have g8' : l2 > 8 := by simp at g8; omega
    exact bad 0 3 (Ext.refl h) (by unfold allC; rw [if_neg (by omega), if_pos (by omega)])
  have g' : ¬ l2 = 0 := by simpa using g
  have g8' : ¬ l2 > 8 := by simp at g8; omega
  have hall : allC sts owner os = runC sts owner [] 0 os := by unfold allC; rw [if_neg (by omega), if_neg (by omega)]
  unfold F19_k1
  refine ⟨fun a9 l9 c9 x hh => ∃ (i : Nat) (pl : List PlanV) (ps : List Hdr), x = i ∧ i ≤ l2 ∧ PlanTw h hh ⟨a9, l9, c9⟩ pl ps ∧ GoodPl pl ∧ runC sts owner [] 0 os = runC sts owner pl i (os.drop i) ∧ l9 ≤ i ∧ (0 < i → 0 < l9), fun _ _ _ x _ => ((l2 : Int) - x).toNat, ⟨0, [], [], rfl, by omega, PlanTw.nil (Ext.refl h), ⟨by simp, by simp⟩, rfl, by omega, fun e => absurd e (Nat.lt_irrefl 0)⟩, ?_⟩
  rintro h1 a9 l9 c9 _ ⟨i, pl, hps, rfl, hi, t, gp, hrun, hle, hpos⟩
  have x1 : Ext h h1 := t.rows.ext
  unfold F19_b2
  refine br_of (fun gi => ?_) (fun gi => ?_)
  case refine_2 =>
    have hil : i = l2 := by
      have : ¬ (i : Int) < (l2 : Int) := by simpa using gi
      omega
    subst hil
    unfold F19_k8
    refine HEnt.use (sorted_ok ⟨a9, l9, c9⟩ pl hps h h1 t (fun p hp => (gp.1 p hp).1) (hpos (by omega)) (by show l9 < _; omega)) ?_
    rintro v h2 ⟨rfl, pl', hs', hpa, hord, x2⟩
    refine ⟨rfl, ?_⟩
    have hres : allC sts owner os = (pl, 0, 0) := by
      rw [hall, hrun, List.drop_of_length_le (by omega)]; rfl
    rw [hres]
    exact ⟨a9, l9, c9, pl', hs', rfl, hpa, hord, x2⟩
  have hil : i < l2 := by
    have : (i : Int) < (l2 : Int) := by simpa using gi
    omega
  obtain ⟨q, o, d, hoi, hdi, ea, ook, hr, qc⟩ := (hop.grow x1).get hil
  have hdd := hdl d (List.mem_of_getElem? hdi)
  rw [dropR_cons hoi] at hrun
  unfold F19_k3
  refine ⟨q, ea, by omega, by omega, o.kind, o.root, o.name, o.ver, d.a, d.l, d.c, by rw [Int.toNat_natCast]; exact qc 0 _ rfl, by rw [Int.toNat_natCast]; exact qc 1 _ rfl, by rw [Int.toNat_natCast]; exact qc 2 _ rfl, by rw [Int.toNat_natCast]; exact qc 3 _ rfl, by rw [Int.toNat_natCast]; exact qc 4 _ rfl, rfl, newK_intro fun h2 hb2 x2 _ => ?_⟩
  refine storeK_whole (vs := (OpV.cells o d).toArray) hb2 rfl zsize25 (op_one o d) fun h3 hb3 o3 => ?_
  have x13 : Ext h1 h3 := Keep.since x2 (o3.keep rfl : Keep (· = h1.size) h2 h3) fun j hj e => by omega
  refine HEnt.use (planAt_ok ⟨a9, l9, c9⟩ pl hps (at0 h1.size) o.root h h3 (t.grow x13) (by show l9 < _; omega) (by rw [at_cell hb3]; rfl)) ?_
  rintro _ h4 ⟨rfl, x4⟩
  have x14 := x13.trans x4
  have x04 := x1.trans x14
  have hb4 := x4.blk hb3
  have t4 := t.grow x14
  refine ⟨_, rfl, ?_⟩
  -- behind the packages that stand now
  have k4 : ∀ (an : Option Addr) (ln cn : Nat) (dn : List Hdr), PacksAt h4 an ln cn (nowC sts pl o.root) dn → ln < 1099511627776 → (∀ x ∈ dn, x.l ≤ 1099511627776) →
      F19_k4 (fun a9 l9 c9 x hh => ∃ (i : Nat) (pl : List PlanV) (ps : List Hdr), x = i ∧ i ≤ l2 ∧ PlanTw h hh ⟨a9, l9, c9⟩ pl ps ∧ GoodPl pl ∧ runC sts owner [] 0 os = runC sts owner pl i (os.drop i) ∧ l9 ≤ i ∧ (0 < i → 0 < l9)) (fun _ _ _ x _ => ((l2 : Int) - x).toNat) ((l2 : Int) - (i : Int)).toNat a l c owner a9 l9 c9 i (at0 h1.size) (idxP pl o.root 0) an ln cn a2 l2 c2 l2 i h4 (AllR h (allC sts owner os)) := by
    intro an ln cn dn hpn hln hdn
    have hoks := PacksAt.oks hpn
    unfold F19_k4
    refine ⟨_, _, _, _, _, _, _, by rw [at_cell hb4]; rfl, by rw [at_cell hb4]; rfl, by rw [at_cell hb4]; rfl, by rw [at_cell hb4]; rfl, by rw [at_cell hb4]; rfl, rfl, HEnt.use (do_ok an ln cn (nowC sts pl o.root) dn owner o d h4 hpn (hr.grow x14) ook.1 ook.2 hln hdn hdd (hm.ext x04)) ?_⟩
    rintro _ h5 ⟨e5, es5, rfl, t5⟩
    have x5 : Ext h4 h5 := t5.ext
    refine ⟨_, _, _, _, rfl, br_of (fun ge => ?_) (fun ge => ?_)⟩
    · have ge' : (doC (nowC sts pl o.root) owner o).2 ≠ 0 := by simp at ge; omega
      refine bad i _ (x04.trans x5) ?_
      rw [hall, hrun]
      unfold runC; rw [if_pos ge']
    have ge' : (doC (nowC sts pl o.root) owner o).2 = 0 := by simp at ge; omega
    have hroot := doC_root ge'
    have hgood : GoodPs (doC (nowC sts pl o.root) owner o).1 := ⟨doC_zero _ _ _, fun p hp => by
      rcases doC_mem _ _ _ p hp with h | rfl
      · exact hoks p h
      · exact lay_ok ook.1 ook.2 hr.ok⟩
    have hrun' : runC sts owner [] 0 os = runC sts owner (putP pl o.root (doC (nowC sts pl o.root) owner o).1) (i + 1) (os.drop (i + 1)) := by
      rw [hrun]
      conv => lhs; unfold runC
      rw [if_neg (fun e => e ge')]
    have gput := good_put gp hroot hgood
    have t5' := t5.since x04
    have tp := t4.grow x5
    have hpl9 : pl.length = l9 := t.length
    unfold F19_k5
    cases hlk : lookP pl o.root with
    | some x =>
      obtain ⟨k, hk1, hk2, hk3⟩ := idxP_some (k := 0) hlk
      rw [Nat.zero_add] at hk1
      have hkl := (List.getElem?_eq_some_iff.1 hk2).1
      rw [hk1]
      refine br_of (fun _ => ?_) (fun e => by simp at e)
      obtain ⟨qq, _, _, _, _, eq9, _, _⟩ := tp.get (i := k) (by show k < l9; omega)
      refine ⟨qq, eq9, by omega, by omega, ?_⟩
      rw [Int.toNat_natCast]
      refine tp.put hk2 t5' eq9 fun h6 t6 => ?_
      unfold F19_k6
      rw [wrap_succ i l2 hil (by omega)]
      refine ⟨⟨i + 1, _, _, rfl, by omega, t6, ?_, ?_, by omega, fun _ => by omega⟩, less_succ i l2 hil⟩
      · rw [← hk3]; exact gput
      · rw [hrun', hk3]
    | none =>
      obtain ⟨hk1, hk2, _⟩ := idxP_none (k := 0) hlk
      rw [hk1]
      refine br_of (fun e => by simp at e) (fun _ => ?_)
      have hb5 := x5.blk hb4
      refine ⟨o.root, by rw [at_cell hb5]; rfl, rfl, by decide, newK_intro fun h6 hb6 x6 _ => ?_⟩
      refine (tp.grow x6).app (e := ⟨a9, l9, c9⟩) (p := (o.root, (doC (nowC sts pl o.root) owner o).1)) (d := e5) (t5'.grow x6) hb6 (by show l9 < _; omega) fun e' h7 hl' t7 => ?_
      have hl' : e'.l = l9 + 1 := hl'
      unfold F19_k6
      rw [wrap_succ i l2 hil (by omega)]
      refine ⟨⟨i + 1, _, _, rfl, by omega, t7, ?_, ?_, by omega, fun _ => by omega⟩, less_succ i l2 hil⟩
      · rw [← hk2]; exact gput
      · rw [hrun', hk2]
  have hpl9 : pl.length = l9 := t.length
  cases hlk : lookP pl o.root with
  | some x =>
    obtain ⟨k, hk1, hk2, hk3⟩ := idxP_some (k := 0) hlk
    rw [Nat.zero_add] at hk1
    have hkl := (List.getElem?_eq_some_iff.1 hk2).1
    obtain ⟨qq, p, dd, hpk, hdk, eq9, _, c1⟩ := t4.get (i := k) (by show k < l9; omega)
    rw [hk2] at hpk
    cases hpk
    obtain ⟨es, tw⟩ := t4.packs k _ dd hk2 hdk
    have gx := (gp.1 _ (List.mem_of_getElem? hk2)).2
    have hnow : nowC sts pl o.root = x := by unfold nowC; rw [hlk]
    have sm := twin_small tw gx.1
    have := k4 dd.a dd.l dd.c es (by rw [hnow]; exact tw.packs gx.2) (by omega) (fun y hy => by have := sm.2 y hy; omega)
    rw [hk1] at this ⊢
    refine br_of (fun _ => ⟨qq, eq9, by omega, by omega, dd.a, dd.l, dd.c, by rw [Int.toNat_natCast]; exact c1, this⟩) (fun e => by simp at e)
  | none =>
    obtain ⟨hk1, hk2, _⟩ := idxP_none (k := 0) hlk
    have hnow : nowC sts pl o.root = stackC sts o.root := by unfold nowC; rw [hlk]
    have k7 : ∀ b, (b = true ↔ (1 ≤ o.root ∧ o.root ≤ (l : Int))) → F19_k7 (fun a9 l9 c9 x hh => ∃ (i : Nat) (pl : List PlanV) (ps : List Hdr), x = i ∧ i ≤ l2 ∧ PlanTw h hh ⟨a9, l9, c9⟩ pl ps ∧ GoodPl pl ∧ runC sts owner [] 0 os = runC sts owner pl i (os.drop i) ∧ l9 ≤ i ∧ (0 < i → 0 < l9)) (fun _ _ _ x _ => ((l2 : Int) - x).toNat) ((l2 : Int) - (i : Int)).toNat a l c owner a9 l9 c9 i (at0 h1.size) (idxP pl o.root 0) none 0 0 a2 l2 c2 l2 i b h4 (AllR h (allC sts owner os)) := by
      intro b hb
      unfold F19_k7
      refine br_of (fun e => ?_) (fun e => ?_)
      · obtain ⟨r1, r2⟩ := hb.1 e
        have ew : IntKind.i64.wrap (o.root - 1) = (((o.root - 1).toNat : Nat) : Int) := by rw [i64_lt _ (by omega) (by omega)]; omega
        obtain ⟨n, hn⟩ : ∃ n, (o.root - 1).toNat = n := ⟨_, rfl⟩
        rw [hn] at ew
        have hnl : n < l := by omega
        have s1 : sts[n]? = some (sts[n]'(by omega)) := List.getElem?_eq_getElem (by omega)
        have d1 : hs[n]? = some (hs[n]'(by have := hst.len; omega)) := List.getElem?_eq_getElem (by have := hst.len; omega)
        generalize sts[n]'(by omega) = st at s1
        generalize hs[n]'(by have := hst.len; omega) = dd at d1
        obtain ⟨dn, p1, p2, p3⟩ := (hst.grow x04).packs n st dd s1 d1
        have hz : (hs.map fun d => [Value.slice d.a d.l d.c])[n]? = some [.slice dd.a dd.l dd.c] := by rw [List.getElem?_map, d1]; rfl
        obtain ⟨qq, eqq, _, hc⟩ := (hst.grow x04).rows.get hz
        have hstk : stackC sts o.root = st := by
          unfold stackC
          rw [if_pos ⟨r1, by omega⟩, hn, List.getD_eq_getElem?_getD, s1]; rfl
        refine ⟨o.root, by rw [at_cell hb4]; rfl, qq, eqq, by rw [ew]; omega, by rw [ew]; omega, dd.a, dd.l, dd.c, ?_, k4 dd.a dd.l dd.c dn (by rw [hnow, hstk]; exact p1) p2 p3⟩
        rw [ew, Int.toNat_natCast]
        have := hc 0 _ rfl
        unfold Addr.add at this ⊢
        simpa using this
      · have hno : ¬ (1 ≤ o.root ∧ o.root ≤ (l : Int)) := fun hh => by rw [hb.2 hh] at e; cases e
        have hstk : stackC sts o.root = [] := by
          unfold stackC
          rw [if_neg (by omega)]
        refine k4 none 0 0 [] ?_ (by decide) (by simp)
        rw [hnow, hstk]
        exact (TwinAt.nil x04).packs (by simp)
    rw [hk1] at k7 ⊢
    refine br_of (fun e => by simp at e) (fun _ => ⟨o.root, by rw [at_cell hb4]; rfl, br_of (fun e => ⟨o.root, by rw [at_cell hb4]; rfl, k7 _ ?_⟩) (fun e => k7 _ ?_)⟩)
    · have e' : 1 ≤ o.root := by simp at e; omega
      simp only [decide_eq_true_eq]; omega
    · have e' : ¬ 1 ≤ o.root := by simp at e; omega
      exact ⟨fun hh => (by cases hh), fun hh => absurd hh.1 e'⟩
end Go.Proofs.YtfknpbgneeefjaaDoor

namespace Go.Proofs.YtfknpbgneeefjaaDoor
open Go.Vc Go.Sha Go.Trail Go.Packs Go.Plan Go.Man
set_option linter.unusedVariables false
set_option linter.unusedSimpArgs false
set_option maxRecDepth 20000
def ref5 : RefV := ⟨List.replicate 32 0, 5⟩
theorem ref5_ok : ref5.ok := ⟨rfl, by decide⟩
theorem op_ok (k r : Int) (nm vr : ByteArray) (hk : k ≠ 3) (h : Heap) : HEnt Tryd.prog 40 #[.int .i64 k, .int .i64 r, .string nm, .string vr] h fun v h' => ∃ d : Hdr, v = .agg (opA ⟨k, r, nm, vr, [ref5]⟩ d) ∧ RefsAt h' d.a d.l d.c [ref5] ∧ d.l = 1 ∧ Ext h h' := by
  refine F40_ent _ _ _ _ _ _ ?_
  unfold F40
  refine newK_intro fun h1 hb1 x1 z1 => newK_intro fun h2 hb2 x2 z2 => ?_
  refine storeK_whole (vs := (OpV.cells ⟨k, r, nm, vr, []⟩ ⟨none, 0, 0⟩).toArray) hb2 rfl zsize25 (op_one _ _) fun h3 hb3 o3 => ?_
  have hb1' := o3.blk (x2.blk hb1) (by omega)
  have z3 := o3.size
  refine br_of (fun _ => ⟨rfl, by decide, newK_intro fun h4 hb4 x4 z4 => ?_⟩) (fun e => by simp at e; exact absurd e hk)
  have o4 : OwnR 75 33 h3 h4 (some ⟨h3.size, 0, none⟩) 1 1 [ref5.cells] := OwnR.new_ (rows := [ref5.cells]) hb4 x4 (Nat.le_refl _) (by intro r hr; simp at hr; subst hr; rfl) rfl
  rw [add_at0]
  refine storeK_one (x4.blk hb3) (by simp [OpV.cells]) (.inr (Nat.zero_le _)) rfl fun h5 hb5 o5 => ?_
  have hb5 : h5[h1.size]? = some (.cells (opA ⟨k, r, nm, vr, [ref5]⟩ ⟨some (at0 h3.size), 1, 1⟩) 25 (0, 0)) := hb5
  unfold F40_k1
  refine ⟨_, _, _, _, _, _, _, by rw [at_cell hb5]; rfl, by rw [at_cell hb5]; rfl, by rw [at_cell hb5]; rfl, by rw [at_cell hb5]; rfl, by rw [at_cell hb5]; rfl, rfl, ?_⟩
  have hb15 := o5.blk (x4.blk hb1') (by omega)
  refine storeK_whole (vs := opA ⟨k, r, nm, vr, [ref5]⟩ ⟨some (at0 h3.size), 1, 1⟩) hb15 rfl zsize25 (op_one ⟨k, r, nm, vr, [ref5]⟩ ⟨some (at0 h3.size), 1, 1⟩) fun h6 hb6 o6 => ?_
  refine ⟨_, _, _, _, _, _, _, by rw [at_cell hb6]; rfl, by rw [at_cell hb6]; rfl, by rw [at_cell hb6]; rfl, by rw [at_cell hb6]; rfl, by rw [at_cell hb6]; rfl, rfl, ⟨some (at0 h3.size), 1, 1⟩, rfl, ⟨?_, by intro q hq; simp at hq; subst hq; exact ref5_ok⟩, rfl, ?_⟩
  · have k5 : Keep (fun j => j = h.size ∨ j = h1.size) h4 h6 := (o5.keep (.inr rfl)).trans (o6.keep (.inl rfl))
    refine o4.rows.block fun k o e => ?_
    cases e
    exact k5.block h3.size (by omega) (by omega)
  · have k6 : Keep (fun j => j = h.size ∨ j = h1.size) h3 h6 := (x4.keep _).trans ((o5.keep (.inr rfl)).trans (o6.keep (.inl rfl)))
    have x02 : Ext h h2 := x1.trans x2
    have k3 : Keep (fun j => j = h.size ∨ j = h1.size) h2 h3 := o3.keep (.inr rfl)
    exact Keep.since x02 (k3.trans k6) fun j hj e => by omega
def oA : OpV := ⟨1, 1, ⟨#[97]⟩, ⟨#[49]⟩, [ref5]⟩
def oB : OpV := ⟨2, 1, ⟨#[97]⟩, ⟨#[50]⟩, [ref5]⟩
def pB : PackV := ⟨1, ⟨#[97]⟩, ⟨#[50]⟩, [ref5]⟩
theorem all_ex : allC [] 1 [oA, oB] = ([(1, [pB])], 0, 0) := by kernel_rfl
theorem works_ok (h : Heap) (hm : Ord.MaxAt h) : HEnt Tryd.prog 17 #[] h fun v h' => v = .bool true ∧ Ext h h' := by
  refine F17_ent _ _ ?_
  unfold F17
  refine HEnt.use (op_ok 1 1 ⟨#[97]⟩ ⟨#[49]⟩ (by decide) h) ?_
  rintro _ h1 ⟨d1, rfl, r1, l1, x1⟩
  refine ⟨_, _, _, _, _, _, _, rfl, HEnt.use (op_ok 2 1 ⟨#[97]⟩ ⟨#[50]⟩ (by decide) h1) ?_⟩
  rintro _ h2 ⟨d2, rfl, r2, l2, x2⟩
  refine ⟨_, _, _, _, _, _, _, rfl, rfl, rfl, by decide, newK_intro fun h3 hb3 x3 z3 => ?_⟩
  have o3 : OwnR 25 5 h2 h3 (some ⟨h2.size, 0, none⟩) 2 2 [OpV.cells oA d1, OpV.cells oB d2] := OwnR.new_ (rows := [OpV.cells oA d1, OpV.cells oB d2]) hb3 x3 (Nat.le_refl _) (by intro r hr; simp at hr; rcases hr with rfl | rfl <;> rfl) rfl
  have hop : OpsAt h3 (some (at0 h2.size)) 2 2 [oA, oB] [d1, d2] := by
    refine ⟨rfl, o3.rows, fun i o d ho hd => ?_, fun o ho => ?_⟩
    · match i, ho, hd with
      | 0, ho, hd => cases ho; cases hd; exact r1.grow (x2.trans x3)
      | 1, ho, hd => cases ho; cases hd; exact r2.grow x3
    · simp at ho
      rcases ho with rfl | rfl <;> exact ⟨by decide, by decide⟩
  have hst : StacksAt h3 none 0 0 [] [] := ⟨rfl, Tab.empty _ _ _ _, fun i ps d hp _ => by simp at hp⟩
  have x03 := (x1.trans x2).trans x3
  refine HEnt.use (all_ok none 0 0 [] [] 1 (some (at0 h2.size)) 2 2 [oA, oB] [d1, d2] h3 hst hop (by intro x hx; simp at hx; rcases hx with rfl | rfl <;> omega) (by decide) (hm.ext x03)) ?_
  rintro _ h4 ⟨a, l, c, pl, hs, rfl, hp, hord, x4⟩
  rw [all_ex] at hord
  have hpl : pl = [(1, [pB])] := List.perm_singleton.1 hord.1
  subst hpl
  have hlen := hp.len
  have hl : l = 1 := by
    have := hp.rows.len
    rw [List.length_zipWith, hlen] at this; simp at this; omega
  subst hl
  match hs, hlen with
  | [d], _ =>
    obtain ⟨es, t⟩ := hp.packs 0 (1, [pB]) d rfl rfl
    have hd1 := t.length
    simp at hd1
    obtain ⟨q, eq, _, hc⟩ := hp.rows.get (i := 0) (r := planC (1, [pB]) d) rfl
    subst eq
    have hel := t.len
    match es, hel with
    | [dd], _ =>
      obtain ⟨q2, eq2, _, hc2⟩ := t.rows.rows.get (i := 0) (r := PackV.cells pB dd) rfl
      rw [all_ex]
      refine ⟨_, _, _, _, _, rfl, br_of (fun _ => br_of (fun _ => br_of (fun _ => ?_) (fun e => by simp at e)) (fun e => by simp at e)) (fun e => by simp at e)⟩
      have g1 : Vc.cell h4 ((q.add (0 * 2)).add 1) = some (.slice d.a d.l d.c) := hc 1 _ rfl
      refine ⟨q, rfl, by decide, by decide, 1, hc 0 _ rfl, br_of (fun _ => ?_) (fun e => by simp at e)⟩
      refine ⟨q, rfl, by decide, by decide, _, _, _, g1, br_of (fun _ => ?_) (fun e => by simp at e; omega)⟩
      refine ⟨q, rfl, by decide, by decide, _, _, _, g1, q2, eq2, by decide, by omega, ⟨#[50]⟩, by rw [hadd2]; exact hc2 2 _ rfl, br_of (fun _ => ?_) (fun e => by rw [seq_self] at e; cases e)⟩
      exact ⟨q, rfl, by decide, by decide, _, _, _, g1, q2, eq2, by decide, by omega, 1, hc2 0 _ rfl, rfl, x03.trans x4⟩
end Go.Proofs.YtfknpbgneeefjaaDoor

namespace Go.Proofs.YtfknpbgneeefjaaDoor
open Go.Vc Go.Sha Go.Trail Go.Packs Go.Plan Go.Man
set_option linter.unusedVariables false
set_option linter.unusedSimpArgs false
set_option maxRecDepth 20000
theorem run_loadAt {P : Program} {w : World} {ad : Addr} {cs : Array Value} {t : TypeId} {d : TypeDesc} (hc : CellsAt w.heap ad cs.toList) (hd : P.underlying t = some d) (hp : plainD d = false) (hn : cs.size = P.cellsOf t) : (loadVar t ad).run P w = .ok (.agg cs) w := by
  have hr := run_cells (P := P) hc
  simp only [Array.length_toList] at hr
  unfold loadVar
  simp [Sem.run_bind, run_isAgg_true hd hp, run_size hd, ← hn, hr]
def yes (h : Heap) : Value → Heap → Prop := fun v h' => v = .bool true ∧ Ext h h'
theorem works_yes {h h1 : Heap} (x : Ext h h1) (hm : Ord.MaxAt h) : HCalls Tryd.prog 17 #[] h1 fun r h2 => ∃ b, r = .bool b ∧ yes h (.bool b) h2 := by
  refine HEnt.use (works_ok h1 (hm.ext x)) ?_
  rintro _ h2 ⟨rfl, x2⟩
  exact ⟨true, rfl, rfl, x.trans x2⟩
theorem few_len (ps : List PackV) : (fewPacks ps).length ≤ 20 := by unfold fewPacks; rw [List.length_map, List.length_take]; omega
theorem few_oks {ps : List PackV} (ok : ∀ p ∈ ps, p.ok ∧ ∀ r ∈ p.refs, r.ok) : ∀ p ∈ fewPacks ps, p.ok ∧ ∀ r ∈ p.refs, r.ok := by
  intro p hp
  unfold fewPacks at hp
  obtain ⟨q, hq, rfl⟩ := List.mem_map.1 hp
  have := ok q (List.mem_of_mem_take hq)
  exact ⟨this.1, fun r hr => this.2 r (List.mem_of_mem_take hr)⟩
theorem few_hdr {h0 h : Heap} {e : Hdr} {ps : List PackV} {es : List Hdr} (t : TwinAt h0 h e (fewPacks ps) es) : e.l ≤ 20 ∧ ∀ x ∈ es, x.l ≤ 20 := by
  refine ⟨by have := t.length; have := few_len ps; omega, fun x hx => ?_⟩
  obtain ⟨i, hi⟩ := List.getElem?_of_mem hx
  have hlt := (List.getElem?_eq_some_iff.1 hi).1
  have hl := t.len
  have p1 : (fewPacks ps)[i]? = some ((fewPacks ps)[i]'(by omega)) := List.getElem?_eq_getElem (by omega)
  have o := (t.refs i _ x p1 hi).len
  have hm := List.mem_of_getElem? p1
  generalize (fewPacks ps)[i]'(by omega) = p at *
  unfold fewPacks at hm
  obtain ⟨q, _, rfl⟩ := List.mem_map.1 hm
  rw [List.length_map] at o
  have : ((fewPack q).refs).length ≤ 20 := by unfold fewPack; simp only [List.length_take]; omega
  omega
theorem does_ok (a : Option Addr) (l c : Nat) (ps : List PackV) (ds : List Hdr) (owner : Int) (o : OpV) (dd : Hdr) (h : Heap) (hp : PacksAt h a l c ps ds) (hr : RefsAt h dd.a dd.l dd.c o.refs) (ho : OpV.ok o) (hl : l < 9223372036854775808) (hm : Ord.MaxAt h) :
    HEnt Tryd.prog 3 #[.slice a l c, .int .i64 owner, .agg (opA o dd)] h (yes h) := by
  have oks := few_oks (PacksAt.oks hp)
  have hrok : ∀ r ∈ (fewOp o).refs, r.ok := fun r hr' => hr.ok r (List.mem_of_mem_take hr')
  refine F3_ent _ _ _ _ _ _ _ _ _ _ _ _ _ ?_
  unfold F3
  refine newK_intro fun h1 hb1 x1 z1 => ?_
  have opn : ∀ {h' : Heap} {b : Nat}, h'[b]? = some (.cells (opA o dd) 25 (0, 0)) → Ext h h' → h.size ≤ b → OpsAt h' (some (at0 b)) 1 1 [o] [dd] := fun {h' b} hb x hsz => by
    have own : OwnR 25 5 h h' (some ⟨b, 0, none⟩) 1 1 [OpV.cells o dd] := OwnR.new_ (rows := [OpV.cells o dd]) hb x hsz (by intro r hr; simp at hr; subst hr; rfl) rfl
    refine ⟨rfl, own.rows, fun i o' d' h1 h2 => ?_, by intro x hx; simp at hx; subst hx; exact ho⟩
    match i, h1, h2 with
    | 0, h1, h2 => cases h1; cases h2; exact hr.grow x
  have stk : ∀ {h' : Heap} {K : Value → Heap → Prop}, Ext h h' → (∀ e es h'', TwinAt h' h'' e (fewPacks ps) es → K (.slice e.a e.l e.c) h'') → HCalls Tryd.prog 9 #[.slice a l c] h' K := fun x hK => by
    refine HEnt.use (packsOf_ok a l c ps ds _ (hp.grow x) hl) ?_
    rintro _ h'' ⟨e, es, rfl, t⟩
    exact hK e es h'' t
  have ops : ∀ {h' : Heap} {b : Nat} {K : Value → Heap → Prop}, h'[b]? = some (.cells (opA o dd) 25 (0, 0)) → Ext h h' → h.size ≤ b → (∀ e es h'', OpTwin h' h'' e [fewOp o] es → K (.slice e.a e.l e.c) h'') → HCalls Tryd.prog 10 #[.slice (some (at0 b)) 1 1] h' K := fun hb x hsz hK => by
    refine HEnt.use (opsOf_ok _ 1 1 [o] [dd] _ (opn hb x hsz) (by decide)) ?_
    rintro _ h'' ⟨e, es, rfl, t⟩
    exact hK e es h'' t
  have ld : ∀ {w : World}, Ext h1 w.heap → (loadVar 25 (at0 h.size)).run Tryd.prog w = .ok (.agg (opA o dd)) w := fun x => run_loadAgg (x.blk hb1) Tryd.underlying25 rfl (by rw [size25]; rfl)
  -- the one operation, out of its slice
  have one_ : ∀ {h0 h' : Heap} {e : Hdr} {es : List Hdr}, OpTwin h0 h' e [fewOp o] es → ∃ q d, e.a = some q ∧ e.l = 1 ∧ d.l ≤ 20 ∧ RefsAt h' d.a d.l d.c (fewOp o).refs ∧ ∀ j v, (OpV.cells (fewOp o) d)[j]? = some v → Vc.cell h' ((q.add (0 * 5)).add j) = some v := fun {h0 h' e es} t => by
    have hl1 := t.length
    obtain ⟨q, x, d, hx, hd, e1, _, hrr, hc⟩ := (t.ops (by intro x hx; simp at hx; subst hx; exact ⟨ho, hrok⟩)).get (i := 0) (by simp at hl1; omega)
    cases hx
    have hl2 := hrr.len
    have : (fewOp o).refs.length ≤ 20 := by unfold fewOp; simp only [List.length_take]; omega
    exact ⟨q, d, e1, by simp at hl1; omega, by omega, hrr, hc⟩
  refine ⟨fun a7 l7 c7 a8 l8 c8 hh => (∃ es, TwinAt h hh ⟨a7, l7, c7⟩ (fewPacks ps) es) ∧ (∃ es, OpTwin h hh ⟨a8, l8, c8⟩ [fewOp o] es) ∧ Ext h1 hh, ⟨Ext, Ext.refl, fun _ _ _ => Ext.trans, _, _, _, _, _, _, _, fun w x => ld x, ?_, ?_⟩, ?_⟩
  · refine stk x1 fun e es h2 t => ⟨_, _, _, rfl, t.ext, rfl, by decide, newK_intro fun h3 hb3 x3 z3 => ⟨x3, ?_⟩⟩
    have x2 : Ext h1 h2 := t.ext
    refine ops hb3 ((x1.trans x2).trans x3) (x1.trans x2).size fun e' es' h4 t' => ⟨_, _, _, rfl, t'.rows.ext, ⟨es, (t.since x1).grow (x3.trans t'.rows.ext)⟩, ⟨es', ⟨t'.len, t'.rows.since ((x1.trans x2).trans x3), fun i p d hp hd => (t'.refs i p d hp hd).since ((x1.trans x2).trans x3)⟩⟩, (x2.trans x3).trans t'.rows.ext⟩
  · refine ⟨rfl, by decide, newK_intro fun h2 hb2 x2 z2 => ⟨x2, ?_⟩⟩
    refine stk (x1.trans x2) fun e es h3 t => ⟨_, _, _, rfl, t.ext, ?_⟩
    have x3 : Ext h2 h3 := t.ext
    refine ops (x3.blk hb2) ((x1.trans x2).trans x3) x1.size fun e' es' h4 t' => ⟨_, _, _, rfl, t'.rows.ext, ⟨es, (t.since (x1.trans x2)).grow t'.rows.ext⟩, ⟨es', ⟨t'.len, t'.rows.since ((x1.trans x2).trans x3), fun i p d hp hd => (t'.refs i p d hp hd).since ((x1.trans x2).trans x3)⟩⟩, (x2.trans x3).trans t'.rows.ext⟩
  rintro h2 a7 l7 c7 a8 l8 c8 ⟨⟨es7, t7⟩, ⟨es8, t8⟩, x12⟩
  have x02 := x1.trans x12
  obtain ⟨q8, d8, hq8, hl8, hd8, hr8, hc8⟩ := one_ t8
  have hq8 : a8 = some q8 := hq8
  have hl8 : l8 = 1 := hl8
  have f7 := few_hdr t7
  unfold F3_k2
  refine ⟨fun a9 l9 c9 x hh => x = ((doC (fewPacks ps) owner (fewOp o)).2 : Int) ∧ ∃ es, TwinAt h2 hh ⟨a9, l9, c9⟩ (doC (fewPacks ps) owner (fewOp o)).1 es, ⟨q8, hq8, by decide, by omega, _, _, _, _, _, _, _, hc8 0 _ rfl, hc8 1 _ rfl, hc8 2 _ rfl, hc8 3 _ rfl, hc8 4 _ rfl, rfl, ?_⟩, ?_⟩
  · refine HEnt.use (do_ok a7 l7 c7 (fewPacks ps) es7 owner (fewOp o) d8 h2 (t7.packs oks) hr8 ho.1 ho.2 (by have : l7 ≤ 20 := f7.1; omega) (fun x hx => by have := f7.2 x hx; omega) (by omega) (hm.ext x02)) ?_
    rintro _ h3 ⟨e, es, rfl, t⟩
    exact ⟨_, _, _, _, rfl, rfl, es, t⟩
  rintro h3 a9 l9 c9 _ ⟨rfl, es9, t9⟩
  have x23 : Ext h2 h3 := t9.ext
  have x13 := x12.trans x23
  have x03 := x1.trans x13
  unfold F3_k4
  refine ⟨fun a11 l11 c11 x hh => x = ((doC (fewPacks ps) owner (fewOp o)).2 : Int) ∧ (∃ es, PacksAt hh a11 l11 c11 (doC (fewPacks ps) owner (fewOp o)).1 es) ∧ Ext h3 hh, ⟨Ext, Ext.refl, fun _ _ _ => Ext.trans, _, _, _, _, _, _, _, fun w x => ld (x13.trans x), ?_, ?_⟩, ?_⟩
  · refine stk x03 fun e es h4 t => ⟨_, _, _, rfl, t.ext, rfl, by decide, newK_intro fun h5 hb5 x5 z5 => ⟨x5, ?_⟩⟩
    have x4 : Ext h3 h4 := t.ext
    refine ops hb5 ((x03.trans x4).trans x5) (x03.trans x4).size fun e' es' h6 t' => ⟨_, _, _, rfl, t'.rows.ext, ?_⟩
    have x6 : Ext h5 h6 := t'.rows.ext
    obtain ⟨q, d, hq, hl', hd', hrr, hc⟩ := one_ t'
    have f := few_hdr t
    refine ⟨q, hq, by decide, by omega, _, _, _, _, _, _, _, fun w x => run_loadAt (cs := (OpV.cells (fewOp o) d).toArray) (fun j v hj => x.some (hc j v (by simpa using hj))) Tryd.underlying25 rfl (by rw [size25]; rfl), ?_⟩
    refine HEnt.use (refDo_ok e.a e.l e.c (fewPacks ps) es owner (fewOp o) d h6 ((t.grow (x5.trans x6)).packs oks) hrr ho.1 ho.2 (by omega)) ?_
    rintro _ h7 ⟨a', l', c', ds', rfl, hp', x7⟩
    exact ⟨_, _, _, _, rfl, x7, rfl, ⟨ds', hp'⟩, ((x4.trans x5).trans x6).trans x7⟩
  · refine ⟨rfl, by decide, newK_intro fun h4 hb4 x4 z4 => ⟨x4, ?_⟩⟩
    refine stk (x03.trans x4) fun e es h5 t => ⟨_, _, _, rfl, t.ext, ?_⟩
    have x5 : Ext h4 h5 := t.ext
    refine ops (x5.blk hb4) ((x03.trans x4).trans x5) x03.size fun e' es' h6 t' => ⟨_, _, _, rfl, t'.rows.ext, ?_⟩
    have x6 : Ext h5 h6 := t'.rows.ext
    obtain ⟨q, d, hq, hl', hd', hrr, hc⟩ := one_ t'
    have f := few_hdr t
    refine ⟨q, hq, by decide, by omega, _, _, _, _, _, _, _, fun w x => run_loadAt (cs := (OpV.cells (fewOp o) d).toArray) (fun j v hj => x.some (hc j v (by simpa using hj))) Tryd.underlying25 rfl (by rw [size25]; rfl), ?_⟩
    refine HEnt.use (refDo_ok e.a e.l e.c (fewPacks ps) es owner (fewOp o) d h6 ((t.grow x6).packs oks) hrr ho.1 ho.2 (by omega)) ?_
    rintro _ h7 ⟨a', l', c', ds', rfl, hp', x7⟩
    exact ⟨_, _, _, _, rfl, x7, rfl, ⟨ds', hp'⟩, ((x4.trans x5).trans x6).trans x7⟩
  rintro h4 a11 l11 c11 _ ⟨rfl, ⟨es11, p11⟩, x34⟩
  have hz := doC_zero (fewPacks ps) owner (fewOp o)
  have hres : ∀ p ∈ (doC (fewPacks ps) owner (fewOp o)).1, p.ok ∧ ∀ r ∈ p.refs, r.ok := fun p hp' => by
    rcases doC_mem _ _ _ p hp' with h | rfl
    · exact oks p h
    · exact lay_ok ho.1 ho.2 hrok
  have s9 := twin_small t9 hz
  have s9l : l9 ≤ 16 := s9.1
  unfold F3_k6
  refine ⟨Ext, Ext.refl, fun _ _ _ => Ext.trans, HEnt.use (packs_same a9 l9 c9 a11 l11 c11 (doC (fewPacks ps) owner (fewOp o)).1 es9 es11 h4 ((t9.grow x34).packs hres) p11 (by omega) (fun d hd => by have := s9.2 d hd; omega)) ?_⟩
  rintro _ h5 ⟨rfl, x5⟩
  have x25 := (x23.trans x34).trans x5
  have cc : ∀ {w : World}, Ext h5 w.heap → CellsAt w.heap (q8.add (0 * 5)) (OpV.cells (fewOp o) d8) := fun x j v hj => (x25.trans x).some (hc8 j v hj)
  refine ⟨true, rfl, x5, br_of (fun _ => br_of (fun _ => ?_) (fun e => by simp at e)) (fun e => by cases e)⟩
  refine ⟨q8, hq8, by decide, by omega, _, _, _, _, _, _, _, fun w x => run_loadAt (cs := (OpV.cells (fewOp o) d8).toArray) (cc x) Tryd.underlying25 rfl (by rw [size25]; rfl), q8, hq8, by decide, by omega, _, _, _, _, _, _, _, fun w x => run_loadAt (cs := (OpV.cells (fewOp o) d8).toArray) (cc x) Tryd.underlying25 rfl (by rw [size25]; rfl), ?_⟩
  refine HEnt.use (check_ok (fewOp o) d8 h5 (hr8.grow x25) ho.1 ho.2 (by omega)) ?_
  rintro _ h6 ⟨rfl, x6⟩
  refine ⟨_, rfl, x6, HEnt.use (refCheck_ok (fewOp o) d8 h6 (hr8.grow (x25.trans x6)) ho.1 ho.2) ?_⟩
  rintro _ h7 ⟨rfl, x7⟩
  have x27 := (x25.trans x6).trans x7
  have x37 : Ext h3 h7 := ((x34.trans x5).trans x6).trans x7
  refine ⟨_, rfl, x7, ?_⟩
  unfold F3_k7
  refine HEnt.use (spoil_ok ⟨a9, l9, c9⟩ es9 h2 h7 ((t9.grow x37).spoil fun p hp' r hr' => (hres p hp').2 r hr') (by show l9 < _; omega) (fun d hd => by have := s9.2 d hd; omega)) ?_
  rintro _ h8 ⟨rfl, k8⟩
  have x28 : Ext h2 h8 := Keep.since x27 k8 fun j hj e => by omega
  have x08 := x02.trans x28
  refine ⟨rfl, br_of (fun _ => ?_) (fun e => by simp at e)⟩
  refine stk x08 fun e es h9 t => ⟨_, _, _, rfl, ?_⟩
  have x9 : Ext h8 h9 := t.ext
  have l7' : l7 ≤ 20 := f7.1
  refine HEnt.use (packs_same a7 l7 c7 e.a e.l e.c (fewPacks ps) es7 es h9 ((t7.grow (x28.trans x9)).packs oks) (t.packs oks) (by omega) (fun d hd => by have := f7.2 d hd; omega)) ?_
  rintro _ h10 ⟨rfl, x10⟩
  exact ⟨true, rfl, br_of (fun _ => works_yes ((x08.trans x9).trans x10) hm) (fun e => by cases e)⟩
end Go.Proofs.YtfknpbgneeefjaaDoor
