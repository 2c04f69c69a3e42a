import Derived.Test.YtcfegbpoailbdaaDoorOvlH
import Derived.Test.YtcfegbpoailbdaaDoorVxpF

namespace Go.Proofs.YtcfegbpoailbdaaDoor
open Go.Vc Go.Sha Go.Trail Go.Lay
set_option linter.unusedVariables false
set_option linter.unusedSimpArgs false
set_option maxRecDepth 20000
theorem beq_dec (a b : ByteArray) : (a == b) = decide (a = b) := by
  rw [Bool.eq_iff_iff, beq_bytes, decide_eq_true_eq]
theorem run_chk_str {P : Program} {e : TypeId} (he : P.underlying e = some .string) (em : Bool) (d : Nat) (s : ByteArray) (w : World) : (Instr.checkKey em (d + 1) e (.string s)).run P w = .ok () w := by
  simp [Instr.checkKey, run_und he]
theorem keyed9 : Keyed Tryd.prog 9 Value.string (fun _ : ByteArray => True) where
  und := ⟨_, Tryd.underlying9, .inl fun a b _ _ => by simp only [Instr.sameNow]; rw [beq_dec]⟩
  eq a b _ _ w := by
    have := run_equal_str 9999 a b w
    rw [beq_dec] at this
    exact this
  chk em a _ w := run_chk_str Tryd.underlying9 em 9999 a w
  same a _ := by simp [Instr.sameBits, beq_dec]
def eV (e : EntV) : Value := .agg (entA e)
/-- a map in memory that has a state's entries -/
def MapS (h : Heap) (r : Nat) (S : Sta) : Prop := ∃ kvs, MapAt Value.string (fun _ : ByteArray => True) h r kvs ∧ ∀ p, lookA kvs p = (S p).map eV
theorem MapS.block {h h' : Heap} {r : Nat} {S : Sta} (m : MapS h r S) (x : h'[r]? = h[r]?) : MapS h' r S := let ⟨k, a, b⟩ := m; ⟨k, a.block x, b⟩
theorem MapS.lt {h : Heap} {r : Nat} {S : Sta} (m : MapS h r S) : r < h.size := let ⟨_, a, _⟩ := m; a.lt
theorem MapS.grow {h h' : Heap} {r : Nat} {S : Sta} (m : MapS h r S) (x : Ext h h') : MapS h' r S := m.block (x.block r m.lt)
theorem MapS.congr {h : Heap} {r : Nat} {S T : Sta} (m : MapS h r S) (e : ∀ p, S p = T p) : MapS h r T := let ⟨k, a, b⟩ := m; ⟨k, a, fun p => by rw [b, e]⟩
theorem MapS.new {h : Heap} {r : Nat} (hb : h[r]? = some (.map #[] 0)) : MapS h r noS := ⟨[], MapAt.new hb, fun p => rfl⟩
theorem mem_lookA {kvs : List (ByteArray × Value)} (hn : (kvs.map Prod.fst).Nodup) {a : ByteArray} {v : Value} (h : (a, v) ∈ kvs) : lookA kvs a = some v := by
  induction kvs with
  | nil => cases h
  | cons q t ih =>
    obtain ⟨b, u⟩ := q
    rw [List.map_cons, List.nodup_cons] at hn
    unfold lookA
    rcases List.mem_cons.1 h with h | h
    · cases h; simp
    · have hne : b ≠ a := fun e => hn.1 (by rw [show (b, u).1 = a from e]; exact List.mem_map_of_mem (f := Prod.fst) h)
      first
      | rw [if_neg hne]; exact ih hn.2 h
      | rw [if_neg (Ne.symm hne)]; exact ih hn.2 h
theorem lookA_mem {kvs : List (ByteArray × Value)} {a : ByteArray} {v : Value} (h : lookA kvs a = some v) : (a, v) ∈ kvs := by
  induction kvs with
  | nil => cases h
  | cons q t ih =>
    obtain ⟨b, u⟩ := q
    unfold lookA at h
    split at h
    · rename_i e
      cases h
      first
      | (subst e; exact List.mem_cons_self)
      | (rw [e]; exact List.mem_cons_self)
    · exact List.mem_cons_of_mem _ (ih h)
/-- what below takes away -/
def belowS (S : Sta) (p : ByteArray) (at_ : Bool) : Sta := fun q => if inB p q = true ∧ (at_ = true ∨ q ≠ p) then none else S q
theorem below_ok (r : Nat) (S : Sta) (p : ByteArray) (at_ : Bool) (h : Heap) (m : MapS h r S) (hp : p.size < 2 ^ 62) :
    HEnt Tryd.prog 44 #[.map (some r), .string p, .bool at_] h fun v h' => v = .tuple #[] ∧ MapS h' r (belowS S p at_) ∧ Keep (· = r) h h' := by
  obtain ⟨kvs0, m0, l0⟩ := m
  refine F44_ent _ _ _ _ _ ?_
  unfold F44
  refine semK_range Tryd.underlying55 m0 fun h1 x1 z1 it1 => ⟨h.size, rfl, ?_⟩
  have hr0 := m0.lt
  refine ⟨fun hh => ∃ kvs left, IterAt Value.string (fun _ : ByteArray => True) hh h.size r kvs left ∧ Keep (· = r) h hh ∧ (∀ q, lookA kvs q = lookA kvs0 q ∨ (lookA kvs q = none ∧ inB p q = true ∧ (at_ = true ∨ q ≠ p))) ∧ ∀ pr ∈ kvs, inB p pr.1 = true ∧ (at_ = true ∨ pr.1 ≠ p) → left pr.1 = true,
    fun hh => leftN hh h.size r, ⟨kvs0, _, it1, x1.keep _, fun q => .inl rfl, fun _ _ _ => rfl⟩, ?_⟩
  rintro h2 ⟨kvs, left, it, k2, hl, hb⟩
  unfold F44_b1
  refine semK_next it 0 (fun hov => .inl ⟨rfl, rfl, ⟨kvs, it.map, fun q => ?_⟩, k2⟩) fun pr h3 hmem hleft o3 hlt on => .inr ⟨_, _, rfl, ?_⟩
  · unfold belowS
    split
    · rename_i hbad
      cases hq : lookA kvs q with
      | none => rfl
      | some v =>
        have hm := lookA_mem hq
        have h1 := hb _ hm hbad
        rw [hov _ hm] at h1; cases h1
    · rename_i hbad
      rcases hl q with h1 | ⟨_, h1⟩
      · rw [h1, l0]
      · exact absurd h1 hbad
  · have k3 : Keep (· = r) h h3 := ⟨by rw [o3.size]; exact k2.size, fun k hk hn => (o3.block k (by omega)).trans (k2.block k hk hn)⟩
    have hv : ∃ e : EntV, pr.2 = eV e := by
      have h1 := mem_lookA it.keys (show (pr.1, pr.2) ∈ kvs from hmem)
      rcases hl pr.1 with h2 | ⟨h2, _⟩
      · rw [h1, l0] at h2
        cases hs : S pr.1 with
        | none => rw [hs] at h2; cases h2
        | some e => rw [hs] at h2; exact ⟨e, Option.some.inj h2⟩
      · rw [h1] at h2; cases h2
    obtain ⟨e, he⟩ := hv
    unfold F44_k2
    refine semK_told on ⟨pr.1, e.path, e.kind, e.mode, e.body, by rw [he]; rfl, HEnt.use (in_ok p pr.1 hp h3) ?_⟩
    rintro _ h4 ⟨rfl, rfl⟩
    refine ⟨_, rfl, ?_⟩
    have k3' : ∀ b, (b = true ↔ inB p pr.1 = true ∧ (at_ = true ∨ pr.1 ≠ p)) → F44_k3 (fun hh => ∃ kvs left, IterAt Value.string (fun _ : ByteArray => True) hh h.size r kvs left ∧ Keep (· = r) h hh ∧ (∀ q, lookA kvs q = lookA kvs0 q ∨ (lookA kvs q = none ∧ inB p q = true ∧ (at_ = true ∨ q ≠ p))) ∧ ∀ pr ∈ kvs, inB p pr.1 = true ∧ (at_ = true ∨ pr.1 ≠ p) → left pr.1 = true)
        (fun hh => leftN hh h.size r) (leftN h2 h.size r) (some r) p at_ pr.1 (at0 h.size) b h4 fun v h' => v = .tuple #[] ∧ MapS h' r (belowS S p at_) ∧ Keep (· = r) h h' := by
      intro b hbb
      unfold F44_k3
      refine br_of (fun hbt => ?_) (fun hbf => ?_)
      · have hbad := hbb.1 hbt
        refine semK_deleteIt keyed9 Tryd.underlying55 on.at_ trivial fun h5 it5 o5 hl5 => ⟨⟨_, _, it5, k3.trans (o5.keep rfl), fun q => ?_, fun q hq hqb => ?_⟩, by show leftN h5 h.size r < leftN h2 h.size r; omega⟩
        · rw [look_del]
          split
          · rename_i e1; subst e1; exact .inr ⟨rfl, hbad⟩
          · exact hl q
        · unfold delA at hq
          rw [List.mem_filter] at hq
          have h6 := hb q hq.1 hqb
          have h7 : q.1 ≠ pr.1 := by simpa using hq.2
          simp [h6, h7]
      · have hbad : ¬ (inB p pr.1 = true ∧ (at_ = true ∨ pr.1 ≠ p)) := fun h => by rw [hbb.2 h] at hbf; cases hbf
        refine ⟨⟨kvs, _, on.at_, k3, hl, fun q hq hqb => ?_⟩, hlt⟩
        have h6 := hb q hq hqb
        have h7 : q.1 ≠ pr.1 := fun e1 => hbad (e1 ▸ hqb)
        simp [h6, h7]
    refine br_of (fun hin => br_of (fun ha => k3' true ?_) (fun ha => k3' _ ?_)) (fun hin => k3' false ?_)
    · exact ⟨fun _ => ⟨hin, .inl ha⟩, fun _ => rfl⟩
    · have hsq : seq pr.1 p = decide (pr.1 = p) := by
        rw [seq_lst, Bool.eq_iff_iff, decide_eq_true_eq, decide_eq_true_eq]
        exact ⟨lst_inj, fun e => by rw [e]⟩
      rw [hsq]
      constructor
      · intro hh; exact ⟨hin, .inr (by simpa using hh)⟩
      · rintro ⟨_, hh | hh⟩
        · rw [ha] at hh; cases hh
        · simpa using hh
    · have hin' : inB p pr.1 = false := hin
      rw [hin']
      simp
end Go.Proofs.YtcfegbpoailbdaaDoor

namespace Go.Proofs.YtcfegbpoailbdaaDoor
open Go.Vc Go.Sha Go.Trail Go.Lay
set_option linter.unusedVariables false
set_option linter.unusedSimpArgs false
set_option maxRecDepth 20000
theorem zero38e : (Tryd.prog.info? 38).bind (·.zero) = some (eV e0) := by kernel_rfl
theorem MapS.upd {h : Heap} {r : Nat} {S : Sta} (m : MapS h r S) (p : ByteArray) (e : EntV) {K : Heap → Prop} (hK : ∀ h', MapS h' r (fun q => if q = p then some e else S q) → Only r h h' → K h') :
    semU Tryd.prog (Instr.mapUpdate 55 (.map (some r)) (.string p) (eV e)) h K := by
  obtain ⟨kvs, m1, l⟩ := m
  refine semU_update keyed9 Tryd.underlying55 m1 trivial fun h' m' o => hK h' ⟨_, m', fun q => ?_⟩ o
  rw [look_upd]
  show _ = Option.map eV (if q = p then some e else S q)
  by_cases hq : q = p
  · rw [if_pos hq, if_pos hq]; rfl
  · rw [if_neg hq, if_neg hq]; exact l q
theorem MapS.look {h : Heap} {r : Nat} {S : Sta} (m : MapS h r S) (p : ByteArray) {K : Value → Heap → Prop} (hK : K (eV ((S p).getD e0)) h) : semK Tryd.prog (Instr.lookup 55 (.map (some r)) (.string p) false) h K := by
  obtain ⟨kvs, m1, l⟩ := m
  refine semK_lookup keyed9 Tryd.underlying55 zero38e m1 trivial ?_
  rw [l p]
  cases hs : S p with
  | none => rw [hs] at hK; exact hK
  | some e => rw [hs] at hK; exact hK
/-- the first so many paths on the way to an entry are directories -/
def wayS (S : Sta) (x : EntV) (k : Nat) : Sta := fun q =>
  if lst q ∈ (ways (lst x.path)).take k ∧ lst q ≠ [] ∧ q ≠ x.path then (match S q with | some e => if e.kind = 2 then some e else some (dirE q) | none => some (dirE q)) else S q
theorem wayS_skip {S : Sta} {x : EntV} {k : Nat} {y : List Nat} (hy : (ways (lst x.path))[k]? = some y) (h : y = [] ∨ y = lst x.path) (q : ByteArray) : wayS S x k q = wayS S x (k + 1) q := by
  unfold wayS
  rw [take_snoc hy]
  have : (lst q ∈ (ways (lst x.path)).take k ++ [y] ∧ lst q ≠ [] ∧ q ≠ x.path) ↔ (lst q ∈ (ways (lst x.path)).take k ∧ lst q ≠ [] ∧ q ≠ x.path) := by
    rw [List.mem_append, List.mem_singleton]
    constructor
    · rintro ⟨h1 | h1, h2, h3⟩
      · exact ⟨h1, h2, h3⟩
      · rcases h with e | e
        · exact absurd (h1.trans e) h2
        · exact absurd (lst_inj (h1.trans e)) h3
    · rintro ⟨h1, h2⟩; exact ⟨.inl h1, h2⟩
  simp only [this]
theorem wayS_step {S : Sta} {x : EntV} {k : Nat} {p : ByteArray} (hy : (ways (lst x.path))[k]? = some (lst p)) (h1 : lst p ≠ []) (h2 : p ≠ x.path) (q : ByteArray) :
    wayS S x (k + 1) q = if q = p then (match wayS S x k p with | some e => if e.kind = 2 then some e else some (dirE p) | none => some (dirE p)) else wayS S x k q := by
  unfold wayS
  rw [take_snoc hy]
  by_cases hq : q = p
  · subst hq
    rw [if_pos ⟨by simp, h1, h2⟩, if_pos rfl]
    by_cases hc : lst q ∈ (ways (lst x.path)).take k ∧ lst q ≠ [] ∧ q ≠ x.path
    · rw [if_pos hc]
      cases S q with
      | none => simp [dirE]
      | some e =>
        by_cases k2 : e.kind = 2
        · simp [k2]
        · simp [k2, dirE]
    · rw [if_neg hc]
  · rw [if_neg hq]
    have : (lst q ∈ (ways (lst x.path)).take k ++ [lst p] ∧ lst q ≠ [] ∧ q ≠ x.path) ↔ (lst q ∈ (ways (lst x.path)).take k ∧ lst q ≠ [] ∧ q ≠ x.path) := by
      rw [List.mem_append, List.mem_singleton]
      constructor
      · rintro ⟨h3 | h3, h4⟩
        · exact ⟨h3, h4⟩
        · exact absurd (lst_inj h3) hq
      · rintro ⟨h3, h4⟩; exact ⟨.inl h3, h4⟩
    simp only [this]
theorem put_is {S : Sta} {x : EntV} (hx : stA x = 0) (k3 : x.kind ≠ 3) (p : ByteArray) :
    (if p = x.path then some (unB x) else (if x.kind = 1 ∨ x.kind = 4 then belowS (wayS S x (ways (lst x.path)).length) x.path false else wayS S x (ways (lst x.path)).length) p) = putS S x p := by
  have hk := stA_path hx
  unfold putS
  rw [if_neg k3]
  by_cases hp : p = x.path
  · rw [if_pos hp, if_pos hp]
  · rw [if_neg hp, if_neg hp]
    have hw : wayS S x (ways (lst x.path)).length p = if inB p x.path = true ∧ lst p ≠ [] then (match S p with | some e => if e.kind = 2 then some e else some (dirE p) | none => some (dirE p)) else S p := by
      unfold wayS
      rw [List.take_length]
      have : (lst p ∈ ways (lst x.path) ∧ lst p ≠ [] ∧ p ≠ x.path) ↔ (inB p x.path = true ∧ lst p ≠ []) := by
        unfold ways
        rw [if_pos hk.2, List.mem_cons, mem_heads hk.2 hk.1]
        constructor
        · rintro ⟨h1 | h1, h2, _⟩
          · exact absurd h1 h2
          · exact ⟨h1.1, h2⟩
        · rintro ⟨h1, h2⟩; exact ⟨.inr ⟨h1, h2⟩, h2, hp⟩
      simp only [this]
    by_cases h14 : x.kind = 1 ∨ x.kind = 4
    · rw [if_pos h14]
      unfold belowS
      by_cases hin : inB x.path p = true
      · rw [if_pos ⟨hin, .inr hp⟩, if_pos ⟨h14, hin⟩]
      · rw [if_neg (fun h => hin h.1), if_neg (fun h => hin h.2)]; exact hw
    · rw [if_neg h14, if_neg (fun h => h14 h.1)]; exact hw
theorem seq_dec (s t : ByteArray) : seq s t = decide (s = t) := by
  rw [seq_lst, Bool.eq_iff_iff, decide_eq_true_eq, decide_eq_true_eq]
  exact ⟨lst_inj, fun e => by rw [e]⟩
theorem ent_cells {h : Heap} {b : Nat} {e : EntV} {fr : Nat × Nat} (hb : h[b]? = some (.cells (entA e) 38 fr)) : Vc.cell h ((at0 b).add 0) = some (.string e.path) ∧ Vc.cell h ((at0 b).add 1) = some (.int .i64 e.kind) ∧ Vc.cell h ((at0 b).add 2) = some (.int .i64 e.mode) ∧ Vc.cell h ((at0 b).add 3) = some (.string e.body) := by
  refine ⟨?_, ?_, ?_, ?_⟩ <;> (rw [add_at0, cell_blk hb]; rfl)
/-- one round of the loop over the way -/
theorem round_put {S : Sta} {x : EntV} {r l b2 b3 k : Nat} {rec_ : LoopState → Option Code → Obj} {h : Heap} {y : List Nat} (hg : good (lst x.path)) (hy : (ways (lst x.path))[k]? = some y)
    (hl : h[l]? = some (rec_ .ready none)) (m : MapS h r (wayS S x k)) (h2 : h[b2]? = some (.cells #[.map (some r)] 55 (0, 0))) (h3 : h[b3]? = some (.cells (entA x) 38 (0, 0))) (n1 : r ≠ l) (n2 : b2 ≠ l) (n3 : b3 ≠ l) :
    F27_r2 rec_ l (at0 b2) (at0 b3) (str y) h fun v h' => v = .bool true ∧ Keep (fun j => j = l ∨ j = r) h h' ∧ h'[l]? = some (rec_ .ready none) ∧ MapS h' r (wayS S x (k + 1)) := by
  have hylt : ∀ c ∈ y, c < 256 := by
    have hm := List.mem_of_getElem? hy
    unfold ways at hm
    rw [if_pos hg] at hm
    rcases List.mem_cons.1 hm with e | e
    · subst e; simp
    · by_cases h0 : lst x.path = []
      · rw [h0] at e; simp [partsL, heads] at e
      · have := (mem_heads hg h0).1 e
        exact good_lt (good_head hg this.1 this.2)
  have hly := lst_str y hylt
  generalize str y = p at *
  subst hly
  unfold F27_r2
  refine ⟨hl, hl, ?_⟩
  intro h1 e1
  have k1 : Keep (fun j => j = l ∨ j = r) h h1 := e1 ▸ (keep_set _).mono fun j _ e => .inl e
  have r1 : h1[l]? = some (rec_ .busy none) := e1 ▸ set_same hl
  have e1r : h1[r]? = h[r]? := by rw [e1, Array.getElem?_setIfInBounds_ne (fun e => n1 e.symm)]
  have e12 : h1[b2]? = some (.cells #[.map (some r)] 55 (0, 0)) := by rw [e1, Array.getElem?_setIfInBounds_ne (fun e => n2 e.symm)]; exact h2
  have e13 : h1[b3]? = some (.cells (entA x) 38 (0, 0)) := by rw [e1, Array.getElem?_setIfInBounds_ne (fun e => n3 e.symm)]; exact h3
  have m1 := m.block e1r
  clear e1
  -- nothing is done
  have idle : (∀ q, wayS S x k q = wayS S x (k + 1) q) → F27_k3 rec_ l (at0 b2) p false h1 fun v h' => v = .bool true ∧ Keep (fun j => j = l ∨ j = r) h h' ∧ h'[l]? = some (rec_ .ready none) ∧ MapS h' r (wayS S x (k + 1)) := by
    intro he
    unfold F27_k3
    refine br_of (fun e => by cases e) (fun _ => ⟨r1, ?_⟩)
    rintro h4 rfl
    refine ⟨rfl, k1.trans ((keep_set _).mono fun j _ e => .inl e), set_same r1, (m1.block ?_).congr he⟩
    rw [Array.getElem?_setIfInBounds_ne (fun e => n1 e.symm)]
  rw [show (⟨#[]⟩ : ByteArray) = str [] from rfl, seq_dec]
  refine br_of (fun g1 => ?_) (fun g1 => idle (wayS_skip hy (.inl ?_)))
  rotate_left
  · have : p = str [] := by simpa using g1
    rw [this]; rfl
  have hp0 : lst p ≠ [] := fun e => by
    have : p = str [] := by rw [← e, str_lst]
    rw [this] at g1; simp at g1
  refine ⟨x.path, (ent_cells e13).1, ?_⟩
  rw [seq_dec]
  refine br_of (fun g2 => ?_) (fun g2 => idle (wayS_skip hy (.inr ?_)))
  rotate_left
  · have : p = x.path := by simpa using g2
    rw [this]
  have hpx : p ≠ x.path := by simpa using g2
  have stp := wayS_step (S := S) hy hp0 hpx
  refine ⟨some r, cell_of e12, m1.look p ⟨_, _, _, _, rfl, ?_⟩⟩
  by_cases kd : ((wayS S x k p).getD e0).kind = 2
  · have : (((wayS S x k p).getD e0).kind != 2) = false := by simp [kd]
    rw [this]
    refine idle fun q => ?_
    rw [stp]
    split
    · rename_i e; subst e
      cases hw : wayS S x k q with
      | none => rw [hw] at kd; cases kd
      | some e => rw [hw] at kd; have kd : e.kind = 2 := kd; simp [kd]
    · rfl
  · have : (((wayS S x k p).getD e0).kind != 2) = true := by simp [kd]
    rw [this]
    unfold F27_k3
    refine br_of (fun _ => ⟨some r, cell_of e12, ?_⟩) (fun e => by cases e)
    refine m1.upd p (dirE p) fun h4 m4 o4 => ⟨(o4.block l fun e => n1 e.symm).trans r1, ?_⟩
    rintro h5 rfl
    refine ⟨rfl, (k1.trans (o4.keep (.inr rfl))).trans ((keep_set _).mono fun j _ e => .inl e), set_same ((o4.block l fun e => n1 e.symm).trans r1), (m4.block ?_).congr fun q => ?_⟩
    · rw [Array.getElem?_setIfInBounds_ne (fun e => n1 e.symm)]
    · rw [stp]
      split
      · cases hw : wayS S x k p with
        | none => rfl
        | some e => rw [hw] at kd; have kd : ¬ e.kind = 2 := kd; simp [kd]
      · rfl
theorem put_ok (r : Nat) (S : Sta) (x : EntV) (h : Heap) (m : MapS h r S) (hx : stA x = 0) (hs : x.path.size < 2 ^ 30) (hm : MaxAt h) :
    HEnt Tryd.prog 27 #[.map (some r), .agg (entA x)] h fun v h' => v = .tuple #[] ∧ MapS h' r (putS S x) ∧ Keep (· = r) h h' := by
  have hpk := stA_path hx
  have hr := m.lt
  refine F27_ent _ _ _ _ _ _ _ ?_
  unfold F27
  refine newK_intro fun h1 hb1 x1 z1 => newK_intro fun h2 hb2 x2 z2 => ?_
  have x02 := x1.trans x2
  have hb1' := x2.blk hb1
  have ec := ent_cells (e := x) hb2
  refine ⟨x.kind, ec.2.1, br_of (fun g => ?_) (fun g => ?_)⟩
  · have k3 : x.kind = 3 := by simpa using g
    refine ⟨some r, cell_of hb1', x.path, ec.1, HEnt.use (below_ok r S x.path true h2 (m.grow x02) (by omega)) ?_⟩
    rintro _ h3 ⟨rfl, m3, kp⟩
    refine ⟨rfl, rfl, m3.congr fun p => ?_, (x02.keep _).trans kp⟩
    unfold belowS putS
    rw [if_pos k3]
    by_cases hin : inB x.path p = true
    · rw [if_pos ⟨hin, .inl rfl⟩, if_pos hin]
    · rw [if_neg (fun h => hin h.1), if_neg hin]
  have k3 : x.kind ≠ 3 := by simpa using g
  unfold F27_k1
  refine ⟨x.path, ec.1, HEnt.use (F45_ent x.path h2 (fun v h' => v = .func (.func 59) #[] #[.pointer (some (at0 h2.size))] ∧ Ext h2 h' ∧ h'[h2.size]? = some (.cells #[.string x.path] 9) ∧ h'.size = h2.size + 1) ?_) ?_⟩
  · unfold F45
    exact newK_intro fun h3 hb3 y3 e3 => ⟨rfl, y3, hb3, e3⟩
  rintro _ h3 ⟨rfl, x3, hb3, z3⟩
  refine ⟨_, rfl, at0 h2.size, rfl, ?_⟩
  rintro rec_ b l H hb hl x4 hmark hrec hno hyl
  have z4 := x4.size
  have ltm := blk_lt hmark
  have ltl := blk_lt hrec
  have xH : Ext h H := (x02.trans x3).trans x4
  have H1 : H[h.size]? = some (.cells #[.map (some r)] 55 (0, 0)) := x4.blk (x3.blk hb1')
  have H2 : H[h1.size]? = some (.cells (entA x) 38 (0, 0)) := x4.blk (x3.blk hb2)
  have H3 := x4.blk hb3
  have mH := m.grow xH
  have hmH := hm.ext xH
  -- what stays
  have old : ∀ {h' : Heap}, Keep (fun j => j = l ∨ j = r) H h' → MaxAt h' ∧ h'[b]? = some (.deferred (some [])) ∧ h'[h.size]? = some (.cells #[.map (some r)] 55 (0, 0)) ∧ h'[h1.size]? = some (.cells (entA x) 38 (0, 0)) ∧ Vc.cell h' (at0 h2.size) = some (.string x.path) := by
    intro h' k
    refine ⟨?_, k.blk hmark (by omega), k.blk H1 (by omega), k.blk H2 (by omega), cell_of (k.blk H3 (by omega))⟩
    obtain ⟨mx, hmx⟩ := hmH
    refine ⟨mx, ?_⟩
    have h0 : H[0]? = h'[0]? ∨ False := by
      refine .inl (k.block 0 (by omega) ?_).symm
      rintro (e | e)
      · omega
      · obtain ⟨kvs, ⟨⟨es, cl, hbm, _⟩, _⟩, _⟩ := mH
        rw [← e] at hbm
        unfold Vc.cell at hmx
        rw [show (⟨0, 0, none⟩ : Addr).block = 0 from rfl, hbm] at hmx
        cases hmx
    rcases h0 with h0 | h0
    · unfold Vc.cell at hmx ⊢
      rw [← h0]; exact hmx
    · cases h0
  refine HEnt.mono (walkIt_ok x.path hs (fun k h' => Keep (fun j => j = l ∨ j = r) H h' ∧ h'[l]? = some (rec_ .ready none) ∧ MapS h' r (wayS S x k)) (fun _ => False)
    (fun k h' st => (old st.1).2.2.2.2) (fun k h' st => (old st.1).1) (fun k h' h'' st y => ⟨st.1.trans (y.keep _), y.blk st.2.1, st.2.2.grow y⟩)
    (fun k h' y st hy => ?_) H ⟨Keep.refl _ _, hrec, mH.congr fun p => ?_⟩) ?_
  · obtain ⟨kp, hl', ms⟩ := st
    obtain ⟨_, _, g1, g2, _⟩ := old kp
    exact HYield.use (hyl (str y) h' _ (round_put (S := S) hpk.2 hy hl' ms g1 g2 (by omega) (by omega) (by omega))) fun v h'' ⟨e, k2, l2, m2⟩ => .inl ⟨e, kp.trans k2, l2, m2⟩
  · unfold wayS; simp
  rintro v h5 (hd | ⟨kp, hl5, ms⟩)
  · exact hd.elim
  refine ⟨.ready, none, hl5, fun e => (by cases e), ?_⟩
  intro h6 e6
  show F27_k4 b (at0 h.size) (at0 h1.size) h6 _
  have kp6 : Keep (fun j => j = l ∨ j = r) H h6 := kp.trans (e6 ▸ (keep_set _).mono fun j _ e => .inl e)
  have ms6 := ms.block (show h6[r]? = h5[r]? by rw [e6, Array.getElem?_setIfInBounds_ne (fun e => by omega)])
  clear e6
  obtain ⟨hm6, hb6, g1, g2, _⟩ := old kp6
  have hx6 : Keep (fun j => j = r ∨ h.size ≤ j) h h6 := (xH.keep _).trans (kp6.mono fun j _ e => by rcases e with e | e <;> omega)
  have ec6 := ent_cells g2
  have k5 : ∀ (h7 : Heap) (T : Sta) (y : EntV), y.path = x.path → h7[b]? = some (.deferred (some [])) → h7[h.size]? = some (.cells #[.map (some r)] 55 (0, 0)) → h7[h1.size]? = some (.cells (entA y) 38 (0, 0)) → MapS h7 r T → Keep (fun j => j = r ∨ h.size ≤ j) h h7 →
      (∀ p, (if p = x.path then some y else T p) = putS S x p) → F27_k5 b (at0 h.size) (at0 h1.size) h7 fun v h' => v = .tuple #[] ∧ MapS h' r (putS S x) ∧ Keep (· = r) h h' := by
    intro h7 T y hyp b7 c7 d7 m7 kk he
    have ey := ent_cells d7
    unfold F27_k5
    refine ⟨some r, cell_of c7, x.path, by rw [← hyp]; exact ey.1, y.path, y.kind, y.mode, y.body, ey.1, ey.2.1, ey.2.2.1, ey.2.2.2, rfl, ?_⟩
    refine m7.upd x.path y fun h8 m8 o8 => ⟨(o8.block b (by omega)).trans b7, ?_⟩
    rintro h9 rfl
    refine ⟨rfl, (m8.block (by rw [Array.getElem?_setIfInBounds_ne (fun e => by omega)])).congr he, ?_⟩
    have k9 := (kk.trans (o8.keep (.inl rfl))).trans (show Keep (fun j => j = r ∨ h.size ≤ j) h8 (h8.setIfInBounds b (.deferred none)) from (keep_set _).mono fun j _ e => by omega)
    exact ⟨k9.size, fun j hj hn => k9.block j hj fun e => by rcases e with e | e; exact hn e; omega⟩
  have pi := put_is (S := S) hx k3
  unfold F27_k4
  refine ⟨x.kind, ec6.2.1, br_of (fun e1 => ?_) (fun e1 => br_of (fun e4 => ?_) (fun e4 => ?_))⟩
  · have k1 : x.kind = 1 := by simpa using e1
    refine ⟨some r, cell_of g1, x.path, ec6.1, HEnt.use (below_ok r _ x.path false h6 ms6 (by omega)) ?_⟩
    rintro _ h7 ⟨rfl, m7, k7⟩
    refine ⟨rfl, k5 h7 _ x rfl (k7.blk hb6 (by omega)) (k7.blk g1 (by omega)) (k7.blk g2 (by omega)) m7 (hx6.trans (k7.mono fun j _ e => .inl e)) fun p => ?_⟩
    rw [← pi, if_pos (Or.inl k1), show unB x = x by unfold unB; rw [if_neg (by omega)]]
  · have k4 : x.kind = 4 := by simpa using e4
    refine ⟨some r, cell_of g1, x.path, ec6.1, HEnt.use (below_ok r _ x.path false h6 ms6 (by omega)) ?_⟩
    rintro _ h7 ⟨rfl, m7, k7⟩
    refine ⟨rfl, ?_⟩
    rw [add_at0]
    refine storeK_one (k7.blk g2 (by omega)) (show 1 < 4 by decide) (.inr (Nat.zero_le _)) rfl fun h8 hb8 o8 => ?_
    refine k5 h8 _ ⟨x.path, 2, x.mode, x.body⟩ rfl ((o8.block b (by omega)).trans (k7.blk hb6 (by omega))) ((o8.block _ (by omega)).trans (k7.blk g1 (by omega))) hb8 (m7.block (o8.block r (by omega))) ((hx6.trans (k7.mono fun j _ e => .inl e)).trans (o8.keep (.inr (by omega)))) fun p => ?_
    rw [← pi, if_pos (Or.inr k4), show unB x = ⟨x.path, 2, x.mode, x.body⟩ by unfold unB; rw [if_pos k4]]
  · have n1 : x.kind ≠ 1 := by simpa using e1
    have n4 : x.kind ≠ 4 := by simpa using e4
    refine k5 h6 _ x rfl hb6 g1 g2 ms6 hx6 fun p => ?_
    rw [← pi, if_neg (show ¬ (x.kind = 1 ∨ x.kind = 4) from fun h => h.elim n1 n4), show unB x = x by unfold unB; rw [if_neg n4]]
end Go.Proofs.YtcfegbpoailbdaaDoor
