import Derived.Test.YtcfegbpoailbdaaDoorOvlD
import Derived.Test.YtcfegbpoailbdaaDoorOvlTx

namespace Go.Proofs.YtcfegbpoailbdaaDoor
open Go.Vc Go.Sha Go.Trail Go.Lay
set_option linter.unusedVariables false
set_option linter.unusedSimpArgs false
/-- how two entries of a layer stand to one another -/
def Stand (e f : EntV) : Prop := lexK (lst e.path) (lst f.path) = true ∧ (hides e → inP (lst e.path) (lst f.path) = false)
def Good (es : List EntV) : Prop := es.length ≤ 64 ∧ (∀ e ∈ es, stA e = 0) ∧ es.Pairwise Stand
theorem en_eq {es : List EntV} {i : Nat} (h : i < es.length) : es[i] = en es i := by
  have := en_get h
  rw [List.getElem?_eq_getElem h] at this
  exact Option.some.inj this
theorem good_check (es : List EntV) : (checkC es).2 = 0 ↔ Good es := by
  constructor
  · intro h
    obtain ⟨h1, h2, _⟩ := check_zero h
    refine ⟨h1, fun e he => ?_, List.pairwise_iff_getElem.2 fun i j hi hj hij => ?_⟩
    · obtain ⟨i, hi, rfl⟩ := List.mem_iff_getElem.1 he
      rw [en_eq hi]; exact (st_zero (h2 i hi)).1
    · rw [en_eq hi, en_eq hj]
      exact ⟨sorted (k := es.length) (fun i h0 hi => (st_zero (h2 i hi)).2.1 h0) i j hij hj, (st_zero (h2 j hj)).2.2 i hij⟩
  · rintro ⟨h1, h2, h3⟩
    rw [List.pairwise_iff_getElem] at h3
    rw [check_fine h1]
    intro i hi
    unfold st
    rw [if_neg (by have := h2 _ (en_mem hi); omega), if_neg, if_neg]
    · rintro ⟨j, hj, g1, g2⟩
      have := h3 j i (by omega) hi hj
      rw [en_eq (by omega), en_eq hi] at this
      have := this.2 g1
      rw [show pa es j = lst (en es j).path from rfl, show pa es i = lst (en es i).path from rfl, this] at g2
      cases g2
    · rintro ⟨h0, g⟩
      have := h3 (i - 1) i (by omega) hi (by omega)
      rw [en_eq (by omega), en_eq hi] at this
      rw [show pa es (i - 1) = lst (en es (i - 1)).path from rfl, show pa es i = lst (en es i).path from rfl, this.1] at g
      cases g
/-- what is at each path -/
abbrev Sta : Type := ByteArray → Option EntV
def inB (p q : ByteArray) : Bool := inP (lst p) (lst q)
def ltP (p q : ByteArray) : Prop := lexK (lst p) (lst q) = true
def dirE (p : ByteArray) : EntV := ⟨p, 2, 0, ByteArray.empty⟩
def unB (e : EntV) : EntV := if e.kind = 4 then ⟨e.path, 2, e.mode, e.body⟩ else e
theorem ltP_irr (p : ByteArray) : ¬ ltP p p := fun h => by unfold ltP at h; rw [lexK_irr] at h; cases h
theorem ltP_asymm {p q : ByteArray} (h : ltP p q) : ¬ ltP q p := fun h2 => by unfold ltP at *; rw [lexK_asymm h] at h2; cases h2
theorem ltP_trans {p q r : ByteArray} (h : ltP p q) (h2 : ltP q r) : ltP p r := lexK_trans _ _ _ h h2
theorem inB_refl (p : ByteArray) : inB p p = true := by unfold inB inP; simp
theorem inB_lt {p q : ByteArray} (h : inB p q = true) (hne : p ≠ q) : ltP p q := below_less h fun e => hne (lst_inj e)
theorem inB_anti {p q : ByteArray} (h : inB p q = true) (h2 : inB q p = true) : p = q := by
  by_cases e : p = q
  · exact e
  · exact absurd (inB_lt h2 fun e2 => e e2.symm) (ltP_asymm (inB_lt h e))
theorem inB_le {p q r : ByteArray} (h : inB p q = true) (h2 : ltP q r) : ltP p r := by
  by_cases e : p = q
  · subst e; exact h2
  · exact ltP_trans (inB_lt h e) h2
theorem inP_trans {p q r : List Nat} (h : inP p q = true) (h2 : inP q r = true) : inP p r = true := by
  rcases inP_cases h with e | e | ⟨t, e⟩
  · subst e; unfold inP; simp
  · subst e; exact h2
  · subst e
    rcases inP_cases h2 with e | e | ⟨t2, e⟩
    · cases p <;> cases e
    · subst e; exact h
    · subst e
      rw [List.append_assoc, List.cons_append]
      exact inP_below _ _
theorem inB_trans {p q r : ByteArray} (h : inB p q = true) (h2 : inB q r = true) : inB p r = true := inP_trans h h2
/-- overlay.put on a state -/
def putS (S : Sta) (x : EntV) : Sta := fun p =>
  if x.kind = 3 then (if inB x.path p = true then none else S p)
  else if p = x.path then some (unB x)
  else if (x.kind = 1 ∨ x.kind = 4) ∧ inB x.path p = true then none
  else if inB p x.path = true ∧ lst p ≠ [] then (match S p with | some e => if e.kind = 2 then some e else some (dirE p) | none => some (dirE p))
  else S p
/-- what is seen at a path, by the document: a layer over what lies below it -/
def overS (x : Option EntV) (hid way : Bool) (p : ByteArray) : Option EntV :=
  match (if hid = true then none else x) with
  | none => if way = true then some (dirE p) else none
  | some e => if way = true ∧ e.kind = 1 then some (dirE p) else some e
def stepL (S : Sta) (l : List EntV) : Sta := fun p =>
  match l.find? (fun e => decide (e.path = p)) with
  | some e => if e.kind = 3 then none else some (unB e)
  | none => overS (S p) (l.any fun e => inB e.path p && decide (e.kind ≠ 2)) (l.any fun e => inB p e.path && decide (e.kind ≠ 3)) p
theorem step_snoc {S : Sta} {l : List EntV} {x : EntV} (hS : ∀ p e, S p = some e → e.kind = 1 ∨ e.kind = 2) (hk : ∀ e ∈ l ++ [x], 1 ≤ e.kind ∧ e.kind ≤ 4) (hst : ∀ e ∈ l, Stand e x) {A : Sta} {p : ByteArray} (hp : lst p ≠ []) (hA : A p = stepL S l p) :
    putS A x p = stepL S (l ++ [x]) p := by
  have hlt : ∀ e ∈ l, ltP e.path x.path := fun e he => (hst e he).1
  have hkx := hk x (by simp)
  have noAt : inB x.path p = true → l.find? (fun e => decide (e.path = p)) = none := fun h => by
    rw [List.find?_eq_none]
    intro e he hd
    have hd : e.path = p := by simpa using hd
    have := inB_le h (hd ▸ hlt e he : ltP p x.path)
    exact ltP_irr _ this
  have noWay : inB x.path p = true → l.any (fun e => inB p e.path && decide (e.kind ≠ 3)) = false := fun h => by
    rw [List.any_eq_false]
    intro e he
    have : inB p e.path = false := by
      cases hb : inB p e.path with
      | false => rfl
      | true => exact absurd (inB_le (inB_trans h hb) (hlt e he)) (ltP_irr _)
    simp [this]
  unfold stepL
  rw [List.find?_append, List.any_append, List.any_append]
  unfold stepL at hA
  unfold putS
  by_cases k3 : x.kind = 3
  · rw [if_pos k3]
    by_cases hin : inB x.path p = true
    · rw [if_pos hin, noAt hin, noWay hin]
      by_cases hpx : x.path = p
      · simp [hpx, k3]
      · simp [hpx, k3, hin, overS]
    · rw [if_neg hin, hA]
      have hpx : x.path ≠ p := fun e => hin (e ▸ inB_refl _)
      have hin : inB x.path p = false := by simpa using hin
      simp [hpx, k3, hin]
  · rw [if_neg k3]
    by_cases hpx : p = x.path
    · rw [if_pos hpx, noAt (hpx ▸ inB_refl _)]
      simp [hpx, k3]
    · rw [if_neg hpx]
      have hpx' : ¬ x.path = p := fun e => hpx e.symm
      by_cases h14 : (x.kind = 1 ∨ x.kind = 4) ∧ inB x.path p = true
      · rw [if_pos h14, noAt h14.2, noWay h14.2]
        have hpin : inB p x.path = false := by
          cases hb : inB p x.path with
          | false => rfl
          | true => exact absurd (inB_anti hb h14.2) hpx
        have k2 : x.kind ≠ 2 := by have := h14.1; omega
        simp [hpx', h14.2, hpin, k2, overS]
      · rw [if_neg h14]
        have hid : (inB x.path p && decide (x.kind ≠ 2)) = false := by
          cases hb : inB x.path p with
          | false => rfl
          | true =>
            have : x.kind = 2 := by
              have : ¬ (x.kind = 1 ∨ x.kind = 4) := fun h => h14 ⟨h, hb⟩
              omega
            simp [this]
        have e1 : [x].find? (fun e => decide (e.path = p)) = none := by simp [hpx']
        rw [e1, Option.or_none, List.any_cons, List.any_nil, hid, Bool.or_false, Bool.or_false, List.any_cons, List.any_nil, Bool.or_false]
        by_cases hin : inB p x.path = true
        · rw [if_pos ⟨hin, hp⟩]
          have hx3 : (inB p x.path && decide (x.kind ≠ 3)) = true := by simp [hin, k3]
          rw [hx3, Bool.or_true, hA]
          cases hf : l.find? (fun e => decide (e.path = p)) with
          | some e =>
            have he := List.mem_of_find?_eq_some hf
            have hep : e.path = p := by simpa using List.find?_some hf
            have hke := hk e (List.mem_append_left _ he)
            have hnh : ¬ hides e := fun h => by
              have := (hst e he).2 h
              rw [hep] at this
              unfold inB at hin
              rw [this] at hin; cases hin
            unfold hides at hnh
            have k3e : e.kind ≠ 3 := fun h => hnh (.inr h)
            have ku : (unB e).kind = 2 := by
              unfold unB
              split
              · rfl
              · omega
            simp [k3e, ku]
          | none =>
            simp only
            generalize l.any (fun e => inB p e.path && decide (e.kind ≠ 3)) = way
            generalize l.any (fun e => inB e.path p && decide (e.kind ≠ 2)) = hid
            have dk : (dirE p).kind = 2 := rfl
            unfold overS
            cases hid with
            | true => cases way <;> simp [dk]
            | false =>
              cases hs : S p with
              | none => cases way <;> simp [dk]
              | some e =>
                have := hS p e hs
                cases way with
                | true =>
                  rcases this with h1 | h1 <;> simp [h1, dk]
                | false =>
                  rcases this with h1 | h1 <;> simp [h1, dk]
        · have hin : inB p x.path = false := by simpa using hin
          rw [if_neg (by rw [hin]; simp), hin, Bool.false_and, Bool.or_false]
          exact hA
theorem stA_kind {e : EntV} (h : stA e = 0) : 1 ≤ e.kind ∧ e.kind ≤ 4 := ⟨(stA_zero h).2.1, (stA_zero h).2.2.1⟩
theorem unB_path (e : EntV) : (unB e).path = e.path := by unfold unB; split <;> rfl
theorem unB_kind {e : EntV} (h : 1 ≤ e.kind ∧ e.kind ≤ 4) (h3 : e.kind ≠ 3) : (unB e).kind = 1 ∨ (unB e).kind = 2 := by
  unfold unB
  split
  · exact .inr rfl
  · omega
/-- a layer put entry by entry is the layer as the document sees it -/
theorem fold_step {S : Sta} (hS : ∀ p e, S p = some e → e.kind = 1 ∨ e.kind = 2) {l : List EntV} (g : Good l) {p : ByteArray} (hp : lst p ≠ []) : l.foldl putS S p = stepL S l p := by
  have key : ∀ k, k ≤ l.length → (l.take k).foldl putS S p = stepL S (l.take k) p := by
    intro k
    induction k with
    | zero => intro _; simp [stepL, overS]; cases S p <;> rfl
    | succ k ih =>
      intro hk
      have hx : l[k]? = some (l[k]'(by omega)) := List.getElem?_eq_getElem (by omega)
      generalize l[k]'(by omega) = x at hx
      have ht : l.take (k + 1) = l.take k ++ [x] := by rw [List.take_add_one, hx]; rfl
      rw [ht, List.foldl_append]
      have hpw := g.2.2.sublist (List.take_sublist (k + 1) l)
      rw [ht, List.pairwise_append] at hpw
      refine step_snoc hS (fun e he => stA_kind (g.2.1 e ?_)) (fun e he => hpw.2.2 e he x (by simp)) hp (ih (by omega))
      exact List.mem_of_mem_take (ht ▸ he)
  have := key l.length (Nat.le_refl _)
  rwa [List.take_length] at this
end Go.Proofs.YtcfegbpoailbdaaDoor

namespace Go.Proofs.YtcfegbpoailbdaaDoor
open Go.Vc Go.Sha Go.Trail Go.Lay
set_option linter.unusedVariables false
set_option linter.unusedSimpArgs false
/-- a tree's state -/
structure StOK (S : Sta) : Prop where
  path : ∀ p e, S p = some e → e.path = p
  kind : ∀ p e, S p = some e → e.kind = 1 ∨ e.kind = 2
  ok : ∀ p e, S p = some e → stA e = 0
  tree : ∀ p e q, S p = some e → inB q p = true → q ≠ p → lst q ≠ [] → ∃ d, S q = some d ∧ d.kind = 2
def noS : Sta := fun _ => none
theorem noS_ok : StOK noS where
  path p e h := by cases h
  kind p e h := by cases h
  ok p e h := by cases h
  tree p e q h := by cases h
theorem good_head {p q : List Nat} (g : good q) (h : inP p q = true) (h0 : p ≠ []) : good p := by
  rcases inP_cases h with e | e | ⟨t, e⟩
  · exact absurd e h0
  · subst e; exact g
  · subst e
    have g2 := g.resolve_left (by cases p <;> simp)
    rw [pieces_cat] at g2
    refine .inr ⟨fun x hx => g2.1 x (List.mem_append_left _ hx), ?_⟩
    have := g2.2
    rw [List.length_append] at this
    omega
theorem stA_of {e : EntV} (h1 : ¬ badP e.path) (h2 : 1 ≤ e.kind ∧ e.kind ≤ 4) (h3 : 0 ≤ e.mode ∧ e.mode ≤ 511) (h4 : e.kind = 3 → e.mode = 0) (h5 : e.kind ≠ 1 → e.body.size = 0) (h6 : e.body.size ≤ 256) : stA e = 0 := by
  unfold stA aloneC
  rw [if_neg h1, if_neg (by omega), if_neg (by
    rintro (h | h | ⟨h, h'⟩)
    · omega
    · omega
    · exact h' (h4 h)), if_neg (fun h => h.2 (h5 h.1)), if_neg (by omega)]
theorem dirE_ok {p q : ByteArray} (h : ¬ badP q) (hin : inB p q = true) (h0 : lst p ≠ []) : stA (dirE p) = 0 := by
  have hg : good (lst q) := by
    unfold badP at h
    exact Classical.byContradiction fun e => h (.inr e)
  refine stA_of ?_ (show 1 ≤ (2 : Int) ∧ (2 : Int) ≤ 4 by decide) (show 0 ≤ (0 : Int) ∧ (0 : Int) ≤ 511 by decide) (fun _ => rfl) (fun _ => rfl) (by show (0 : Nat) ≤ 256; decide)
  unfold badP
  rintro (e | e)
  · exact h0 e
  · exact e (good_head hg hin h0)
theorem unB_ok {e : EntV} (h : stA e = 0) : stA (unB e) = 0 := by
  unfold unB
  split
  · obtain ⟨h1, h2, h3, h4, h5, h6, h7, h8⟩ := stA_zero h
    exact stA_of h1 (by simp) ⟨h4, h5⟩ (by simp) (fun _ => h7 (by omega)) h8
  · exact h
theorem put_in {S : Sta} {x : EntV} (h3 : x.kind ≠ 3) {q : ByteArray} (hin : inB q x.path = true) (hne : q ≠ x.path) (h0 : lst q ≠ []) : ∃ d, putS S x q = some d ∧ d.kind = 2 := by
  unfold putS
  rw [if_neg h3, if_neg hne, if_neg (fun h => hne (inB_anti hin h.2)), if_pos ⟨hin, h0⟩]
  cases S q with
  | none => exact ⟨_, rfl, rfl⟩
  | some e =>
    simp only
    split
    · rename_i h; exact ⟨_, rfl, h⟩
    · exact ⟨_, rfl, rfl⟩
theorem put_ok' {S : Sta} (o : StOK S) {x : EntV} (hx : stA x = 0) : StOK (putS S x) := by
  have hz := stA_zero hx
  have hkx : 1 ≤ x.kind ∧ x.kind ≤ 4 := stA_kind hx
  -- what stands at a path
  have at_ : ∀ p e, putS S x p = some e → (x.kind ≠ 3 ∧ p = x.path ∧ e = unB x) ∨ (x.kind ≠ 3 ∧ p ≠ x.path ∧ inB p x.path = true ∧ lst p ≠ [] ∧ (e = dirE p ∨ (S p = some e ∧ e.kind = 2))) ∨
      (S p = some e ∧ (x.kind = 3 → inB x.path p = false) ∧ p ≠ x.path ∧ (x.kind = 1 ∨ x.kind = 4 → inB x.path p = false)) := by
    intro p e h
    unfold putS at h
    split at h
    · rename_i k3
      split at h
      · cases h
      · rename_i hin
        have hin : inB x.path p = false := by simpa using hin
        exact .inr (.inr ⟨h, fun _ => hin, (fun e1 => by rw [e1, inB_refl] at hin; cases hin), fun k => by omega⟩)
    · rename_i k3
      split at h
      · rename_i e1
        exact .inl ⟨k3, e1, (Option.some.inj h).symm⟩
      · rename_i e1
        split at h
        · cases h
        · rename_i e2
          split at h
          · rename_i e3
            refine .inr (.inl ⟨k3, e1, e3.1, e3.2, ?_⟩)
            split at h
            · rename_i f hf
              split at h
              · rename_i k2
                obtain rfl := Option.some.inj h
                exact .inr ⟨hf, k2⟩
              · exact .inl (Option.some.inj h).symm
            · exact .inl (Option.some.inj h).symm
          · exact .inr (.inr ⟨h, fun k => absurd k k3, e1, fun k => by
              cases hb : inB x.path p with
              | false => rfl
              | true => exact absurd ⟨k, hb⟩ e2⟩)
  refine ⟨fun p e h => ?_, fun p e h => ?_, fun p e h => ?_, fun p e q h hin hne h0 => ?_⟩
  · rcases at_ p e h with ⟨_, rfl, rfl⟩ | ⟨_, _, _, _, rfl | ⟨h1, _⟩⟩ | ⟨h1, _⟩
    · exact unB_path x
    · rfl
    · exact o.path _ _ h1
    · exact o.path _ _ h1
  · rcases at_ p e h with ⟨k3, rfl, rfl⟩ | ⟨_, _, _, _, rfl | ⟨h1, _⟩⟩ | ⟨h1, _⟩
    · exact unB_kind hkx k3
    · exact .inr rfl
    · exact o.kind _ _ h1
    · exact o.kind _ _ h1
  · rcases at_ p e h with ⟨k3, rfl, rfl⟩ | ⟨_, _, h2, h3, rfl | ⟨h1, _⟩⟩ | ⟨h1, _⟩
    · exact unB_ok hx
    · exact dirE_ok hz.1 h2 h3
    · exact o.ok _ _ h1
    · exact o.ok _ _ h1
  · rcases at_ p e h with ⟨k3, rfl, rfl⟩ | ⟨k3, h1, h2, h3, _⟩ | ⟨h1, h2, h3, h4⟩
    · exact put_in k3 hin hne h0
    · exact put_in k3 (inB_trans hin h2) (fun e1 => hne (inB_anti hin (e1 ▸ h2))) h0
    · obtain ⟨d, hd, kd⟩ := o.tree p e q h1 hin hne h0
      by_cases k3 : x.kind = 3
      · refine ⟨d, ?_, kd⟩
        unfold putS
        rw [if_pos k3, if_neg (fun hq => by rw [inB_trans hq hin] at h2; cases h2 k3)]
        exact hd
      · by_cases hq : q = x.path
        · subst hq
          refine ⟨unB x, ?_, ?_⟩
          · unfold putS; rw [if_neg k3, if_pos rfl]
          · have k2 : x.kind = 2 := by
              have n14 : ¬ (x.kind = 1 ∨ x.kind = 4) := fun k => by rw [hin] at h4; cases h4 k
              omega
            unfold unB
            rw [if_neg (by omega)]; exact k2
        · by_cases h14 : (x.kind = 1 ∨ x.kind = 4) ∧ inB x.path q = true
          · have := h4 h14.1
            rw [inB_trans h14.2 hin] at this; cases this
          · by_cases hqx : inB q x.path = true
            · exact put_in k3 hqx hq h0
            · refine ⟨d, ?_, kd⟩
              unfold putS
              rw [if_neg k3, if_neg hq, if_neg h14, if_neg (fun h => hqx h.1)]
              exact hd
def layS (S : Sta) (l : List EntV) : Sta := l.foldl putS S
def topS (stk : List (List EntV)) : Sta := stk.foldl layS noS
def seenS (stk : List (List EntV)) : Sta := stk.foldl stepL noS
theorem lay_ok : ∀ (l : List EntV) {S : Sta}, StOK S → (∀ e ∈ l, stA e = 0) → StOK (layS S l)
  | [], S, o, _ => o
  | x :: t, S, o, h => lay_ok t (put_ok' o (h x (by simp))) fun e he => h e (List.mem_cons_of_mem _ he)
theorem fold_ok : ∀ (stk : List (List EntV)) {S : Sta}, StOK S → (∀ l ∈ stk, Good l) → StOK (stk.foldl layS S)
  | [], S, o, _ => o
  | l :: t, S, o, h => fold_ok t (lay_ok l o (h l (by simp)).2.1) fun e he => h e (List.mem_cons_of_mem _ he)
theorem top_ok {stk : List (List EntV)} (h : ∀ l ∈ stk, Good l) : StOK (topS stk) := fold_ok stk noS_ok h
theorem fold_seen : ∀ (stk : List (List EntV)) {S A : Sta} {p : ByteArray}, StOK S → (∀ l ∈ stk, Good l) → lst p ≠ [] → S p = A p → (stk.foldl layS S) p = (stk.foldl stepL A) p
  | [], S, A, p, _, _, _, h => h
  | l :: t, S, A, p, o, g, hp, h => by
    refine fold_seen t (lay_ok l o (g l (by simp)).2.1) (fun e he => g e (List.mem_cons_of_mem _ he)) hp ?_
    rw [show layS S l p = stepL S l p from fold_step o.kind (g l (by simp)) hp]
    unfold stepL
    rw [h]
theorem top_seen {stk : List (List EntV)} (h : ∀ l ∈ stk, Good l) {p : ByteArray} (hp : lst p ≠ []) : topS stk p = seenS stk p := fold_seen stk noS_ok h hp rfl
theorem StOK.ne {S : Sta} (o : StOK S) {p : ByteArray} {e : EntV} (h : S p = some e) : lst p ≠ [] ∧ good (lst p) := by
  have h1 := (stA_zero (o.ok p e h)).1
  rw [o.path p e h] at h1
  unfold badP at h1
  exact ⟨fun e => h1 (.inl e), Classical.byContradiction fun e => h1 (.inr e)⟩
/-- the entries of a state, in order -/
def Lists (S : Sta) (es : List EntV) : Prop := (es.Pairwise fun e f => ltP e.path f.path) ∧ ∀ e, e ∈ es ↔ S e.path = some e
theorem lists_one : ∀ {es fs : List EntV}, (es.Pairwise fun e f => ltP e.path f.path) → (fs.Pairwise fun e f => ltP e.path f.path) → (∀ e, e ∈ es ↔ e ∈ fs) → es = fs
  | [], [], _, _, _ => rfl
  | [], f :: fs, _, _, h => absurd ((h f).2 (by simp)) (by simp)
  | e :: es, [], _, _, h => absurd ((h e).1 (by simp)) (by simp)
  | e :: es, f :: fs, h1, h2, h => by
    obtain ⟨a1, a2⟩ := List.pairwise_cons.1 h1
    obtain ⟨b1, b2⟩ := List.pairwise_cons.1 h2
    have hef : e = f := by
      rcases List.mem_cons.1 ((h e).1 (by simp)) with h3 | h3
      · exact h3
      · rcases List.mem_cons.1 ((h f).2 (by simp)) with h4 | h4
        · exact h4.symm
        · exact absurd (b1 e h3) (ltP_asymm (a1 f h4))
    subst hef
    congr 1
    refine lists_one a2 b2 fun x => ⟨fun hx => ?_, fun hx => ?_⟩
    · rcases List.mem_cons.1 ((h x).1 (List.mem_cons_of_mem _ hx)) with h3 | h3
      · subst h3; exact absurd (a1 x hx) (ltP_irr _)
      · exact h3
    · rcases List.mem_cons.1 ((h x).2 (List.mem_cons_of_mem _ hx)) with h3 | h3
      · subst h3; exact absurd (b1 x hx) (ltP_irr _)
      · exact h3
theorem Lists.one {S : Sta} {es fs : List EntV} (h : Lists S es) (h2 : Lists S fs) : es = fs := lists_one h.1 h2.1 fun e => (h.2 e).trans (h2.2 e).symm
theorem Lists.congr {S T : Sta} {es : List EntV} (h : Lists S es) (e : ∀ p, S p = T p) : Lists T es := ⟨h.1, fun x => (h.2 x).trans (by rw [e])⟩
/-! ### the document's list -/
theorem mem_pre : ∀ (l p : List Nat), p ∈ pre l ↔ p = l ∨ ∃ t, l = p ++ 47 :: t
  | [], p => by
    simp only [pre, List.mem_singleton]
    refine ⟨.inl, fun h => h.elim id fun ⟨t, e⟩ => by cases p <;> cases e⟩
  | c :: r, p => by
    have ih := mem_pre r
    unfold pre
    split
    · rename_i hc
      subst hc
      simp only [List.mem_cons, List.mem_map]
      constructor
      · rintro (rfl | ⟨q, hq, rfl⟩)
        · exact .inr ⟨r, rfl⟩
        · rcases (ih q).1 hq with rfl | ⟨t, rfl⟩
          · exact .inl rfl
          · exact .inr ⟨t, rfl⟩
      · rintro (rfl | ⟨t, e⟩)
        · exact .inr ⟨r, (ih r).2 (.inl rfl), rfl⟩
        · cases p with
          | nil => exact .inl rfl
          | cons a q =>
            injection e with e1 e2
            subst e1
            exact .inr ⟨q, (ih q).2 (.inr ⟨t, e2⟩), rfl⟩
    · rename_i hc
      simp only [List.mem_map]
      constructor
      · rintro ⟨q, hq, rfl⟩
        rcases (ih q).1 hq with rfl | ⟨t, rfl⟩
        · exact .inl rfl
        · exact .inr ⟨t, rfl⟩
      · rintro (rfl | ⟨t, e⟩)
        · exact ⟨r, (ih r).2 (.inl rfl), rfl⟩
        · cases p with
          | nil => injection e with e1 e2; exact absurd e1 hc
          | cons a q =>
            injection e with e1 e2
            subst e1
            exact ⟨q, (ih q).2 (.inr ⟨t, e2⟩), rfl⟩
theorem mem_heads {p q : List Nat} (g : good q) (h0 : q ≠ []) : p ∈ heads (partsL q) ↔ inP p q = true ∧ p ≠ [] := by
  rw [parts_good g h0, heads_pieces, mem_pre]
  constructor
  · rintro (rfl | ⟨t, rfl⟩)
    · exact ⟨by unfold inP; simp, h0⟩
    · refine ⟨inP_below _ _, fun e => ?_⟩
      subst e
      have g2 := (good_pieces g h0).1
      have : partP [] := g2 [] (by simp [pieces])
      exact this.1 rfl
  · rintro ⟨h, hp⟩
    rcases inP_cases h with e | e | ⟨t, e⟩
    · exact absurd e hp
    · exact .inl e.symm
    · exact .inr ⟨t, e⟩
def insP (p : List Nat) : List (List Nat) → List (List Nat)
  | [] => [p]
  | q :: t => if q = p then q :: t else if lexK p q = true then p :: q :: t else q :: insP p t
theorem mem_ins (p x : List Nat) : ∀ l, x ∈ insP p l ↔ x = p ∨ x ∈ l
  | [] => by simp [insP]
  | q :: t => by
    unfold insP
    split
    · rename_i e; subst e; simp
    · split
      · simp
      · simp only [List.mem_cons, mem_ins p x t]
        constructor
        · rintro (h | h | h)
          · exact .inr (.inl h)
          · exact .inl h
          · exact .inr (.inr h)
        · rintro (h | h | h)
          · exact .inr (.inl h)
          · exact .inl h
          · exact .inr (.inr h)
def Sorted (l : List (List Nat)) : Prop := l.Pairwise fun p q => lexK p q = true
theorem ins_sorted (p : List Nat) : ∀ l, Sorted l → Sorted (insP p l)
  | [], _ => by simp [insP, Sorted]
  | q :: t, h => by
    obtain ⟨h1, h2⟩ := List.pairwise_cons.1 h
    unfold insP
    split
    · exact h
    · rename_i e
      split
      · rename_i e2
        exact List.pairwise_cons.2 ⟨fun x hx => by
          rcases List.mem_cons.1 hx with rfl | hx
          · exact e2
          · exact lexK_trans _ _ _ e2 (h1 x hx), h⟩
      · rename_i e2
        have hqp : lexK q p = true := by
          have := lexK_total q p e
          cases h3 : lexK q p with
          | true => rfl
          | false => rw [h3] at this; simp at this; rw [this] at e2; exact absurd rfl e2
        exact List.pairwise_cons.2 ⟨fun x hx => by
          rcases (mem_ins p x t).1 hx with rfl | hx
          · exact hqp
          · exact h1 x hx, ins_sorted p t h2⟩
def insAll (ps : List (List Nat)) (l : List (List Nat)) : List (List Nat) := ps.foldl (fun l p => insP p l) l
theorem mem_insAll (x : List Nat) : ∀ ps l, x ∈ insAll ps l ↔ x ∈ ps ∨ x ∈ l
  | [], l => by simp [insAll]
  | p :: ps, l => by
    have := mem_insAll x ps (insP p l)
    rw [mem_ins] at this
    show x ∈ insAll ps (insP p l) ↔ _
    rw [this, List.mem_cons]
    constructor
    · rintro (h | h | h)
      · exact .inl (.inr h)
      · exact .inl (.inl h)
      · exact .inr h
    · rintro ((h | h) | h)
      · exact .inr (.inl h)
      · exact .inl h
      · exact .inr (.inr h)
theorem insAll_sorted : ∀ ps l, Sorted l → Sorted (insAll ps l)
  | [], l, h => h
  | p :: ps, l, h => insAll_sorted ps _ (ins_sorted p l h)
/-- the paths of an entry, of a layer, of a stack -/
def layP (l : List EntV) : List (List Nat) := l.flatMap fun e => heads (partsL (lst e.path))
def allP (stk : List (List EntV)) : List (List Nat) := insAll (stk.flatMap layP) []
def refM (stk : List (List EntV)) : List EntV := (allP stk).filterMap fun p => seenS stk (str p)
theorem step_some {S : Sta} {l : List EntV} {p : ByteArray} {e : EntV} (h : stepL S l p = some e) : (∃ f ∈ l, inB p f.path = true) ∨ S p ≠ none := by
  unfold stepL at h
  split at h
  · rename_i f hf
    have hp : f.path = p := by simpa using List.find?_some hf
    exact .inl ⟨f, List.mem_of_find?_eq_some hf, by rw [hp]; exact inB_refl _⟩
  · cases hw : l.any (fun e => inB p e.path && decide (e.kind ≠ 3)) with
    | true =>
      rw [List.any_eq_true] at hw
      obtain ⟨f, hf, h2⟩ := hw
      exact .inl ⟨f, hf, by simp at h2; exact h2.1⟩
    | false =>
      rw [hw] at h
      refine .inr fun hn => ?_
      rw [hn] at h
      unfold overS at h
      simp at h
theorem seen_some : ∀ (stk : List (List EntV)) {S : Sta} {p : ByteArray} {e : EntV}, (stk.foldl stepL S) p = some e → (∃ l ∈ stk, ∃ f ∈ l, inB p f.path = true) ∨ S p ≠ none
  | [], S, p, e, h => .inr fun hn => by rw [show List.foldl stepL S [] = S from rfl, hn] at h; cases h
  | l :: t, S, p, e, h => by
    rcases seen_some t (S := stepL S l) h with ⟨l', h1, h2⟩ | h1
    · exact .inl ⟨l', List.mem_cons_of_mem _ h1, h2⟩
    · cases h3 : stepL S l p with
      | none => exact absurd h3 h1
      | some x =>
        rcases step_some h3 with ⟨f, hf, h4⟩ | h4
        · exact .inl ⟨l, by simp, f, hf, h4⟩
        · exact .inr h4
theorem stA_path {e : EntV} (h : stA e = 0) : lst e.path ≠ [] ∧ good (lst e.path) := by
  have h1 := (stA_zero h).1
  unfold badP at h1
  exact ⟨fun e => h1 (.inl e), Classical.byContradiction fun e => h1 (.inr e)⟩
theorem good_lt {l : List Nat} (g : good l) : ∀ x ∈ l, x < 256 := by
  have := clean_lt l
  rw [clean_good g] at this
  exact this
theorem mem_all {stk : List (List EntV)} (h : ∀ l ∈ stk, Good l) (p : List Nat) : p ∈ allP stk ↔ p ≠ [] ∧ ∃ l ∈ stk, ∃ f ∈ l, inP p (lst f.path) = true := by
  unfold allP
  rw [mem_insAll]
  simp only [List.not_mem_nil, or_false, List.mem_flatMap, layP]
  constructor
  · rintro ⟨l, hl, f, hf, hp⟩
    have hk := stA_path ((h l hl).2.1 f hf)
    have := (mem_heads hk.2 hk.1).1 hp
    exact ⟨this.2, l, hl, f, hf, this.1⟩
  · rintro ⟨h0, l, hl, f, hf, hp⟩
    have hk := stA_path ((h l hl).2.1 f hf)
    exact ⟨l, hl, f, hf, (mem_heads hk.2 hk.1).2 ⟨hp, h0⟩⟩
theorem all_lt {stk : List (List EntV)} (h : ∀ l ∈ stk, Good l) {p : List Nat} (hp : p ∈ allP stk) : lst (str p) = p ∧ p ≠ [] := by
  obtain ⟨h0, l, hl, f, hf, hi⟩ := (mem_all h p).1 hp
  have hk := stA_path ((h l hl).2.1 f hf)
  exact ⟨lst_str p (good_lt (good_head hk.2 hi h0)), h0⟩
theorem all_sorted (stk : List (List EntV)) : Sorted (allP stk) := insAll_sorted _ _ List.Pairwise.nil
/-- the document's list is the state's -/
theorem ref_lists {stk : List (List EntV)} (h : ∀ l ∈ stk, Good l) : Lists (topS stk) (refM stk) := by
  have o := top_ok h
  have at_ : ∀ p ∈ allP stk, ∀ e, seenS stk (str p) = some e → e.path = str p := fun p hp e he => by
    have := all_lt h hp
    refine o.path _ _ ?_
    rw [top_seen h (by rw [this.1]; exact this.2)]
    exact he
  refine ⟨?_, fun e => ?_⟩
  · unfold refM
    rw [List.pairwise_filterMap]
    refine (List.Pairwise.and_mem.1 (all_sorted stk)).imp fun {p q} hpq e he f hf => ?_
    have e1 := at_ p hpq.1 e he
    have e2 := at_ q hpq.2.1 f hf
    unfold ltP
    rw [e1, e2, (all_lt h hpq.1).1, (all_lt h hpq.2.1).1]
    exact hpq.2.2
  · unfold refM
    rw [List.mem_filterMap]
    constructor
    · rintro ⟨p, hp, he⟩
      have := all_lt h hp
      rw [at_ p hp e he, top_seen h (by rw [this.1]; exact this.2)]
      exact he
    · intro he
      have hn := o.ne he
      refine ⟨lst e.path, (mem_all h _).2 ⟨hn.1, ?_⟩, ?_⟩
      · rw [top_seen h hn.1] at he
        rcases seen_some stk he with h1 | h1
        · exact h1
        · exact absurd rfl h1
      · rw [str_lst, ← top_seen h hn.1]
        exact he
end Go.Proofs.YtcfegbpoailbdaaDoor
