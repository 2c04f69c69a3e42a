import Derived.Test.YtcfegbpoailbdaaDoorVcU
import Derived.Maps.RangeRun

namespace Go.Vc
set_option linter.unusedVariables false
set_option linter.unusedSimpArgs false
variable {α : Type} {P : Program}

/-- how many entries a range over a map has still to tell -/
def leftN (h : Heap) (ri r : Nat) : Nat := match h[ri]?, h[r]? with
  | some (.mapIter _ _ seen _), some (.map es _) => (leftOf es seen).size
  | _, _ => 0
theorem leftN_same {h h' : Heap} {ri r : Nat} (e1 : h'[ri]? = h[ri]?) (e2 : h'[r]? = h[r]?) : leftN h' ri r = leftN h ri r := by unfold leftN; rw [e1, e2]
theorem leftN_is {h : Heap} {ri r since last clock : Nat} {m : Option Nat} {seen : Array Nat} {es : Array MapEntry} (e1 : h[ri]? = some (.mapIter m since seen last)) (e2 : h[r]? = some (.map es clock)) : leftN h ri r = (leftOf es seen).size := by
  unfold leftN; rw [e1, e2]

/-- a range over a map under way: these keys it has still to tell -/
structure IterAt (enc : α → Value) (ok : α → Prop) (h : Heap) (ri r : Nat) (kvs : List (α × Value)) (left : α → Bool) : Prop where
  ex : ∃ es clock since seen last, h[r]? = some (.map es clock) ∧ es.toList.map (fun e => (e.key, e.val)) = kvs.map (fun p => (enc p.1, p.2)) ∧ (es.toList.map (·.born)).Nodup ∧ (∀ e ∈ es.toList, e.born < clock) ∧
    h[ri]? = some (.mapIter (some r) since seen last) ∧ (∀ e ∈ es.toList, e.born < since) ∧ since ≤ last ∧ last ≤ clock ∧ ∀ (i : Nat) (e : MapEntry) (p : α × Value), es.toList[i]? = some e → kvs[i]? = some p → seen.contains e.born = !left p.1
  keys : (kvs.map Prod.fst).Nodup
  oks : ∀ p ∈ kvs, ok p.1
/-- it stands at one of them -/
structure IterOn (enc : α → Value) (ok : α → Prop) (h : Heap) (ri r : Nat) (kvs : List (α × Value)) (left : α → Bool) (p : α × Value) : Prop where
  at_ : IterAt enc ok h ri r kvs left
  on : ∃ es clock since seen e, h[r]? = some (.map es clock) ∧ h[ri]? = some (.mapIter (some r) since (Array.push seen (MapEntry.born e)) clock) ∧ e ∈ es.toList ∧ (es.toList.map (·.born)).Nodup ∧ e.key = enc p.1 ∧ e.val = p.2
theorem IterAt.map {enc : α → Value} {ok : α → Prop} {h : Heap} {ri r : Nat} {kvs : List (α × Value)} {left : α → Bool} (it : IterAt enc ok h ri r kvs left) : MapAt enc ok h r kvs := by
  obtain ⟨⟨es, clock, since, seen, last, h1, h2, h3, h4, _⟩, h5, h6⟩ := it
  exact ⟨⟨es, clock, h1, h2, h3, h4⟩, h5, h6⟩
theorem IterAt.lt {enc : α → Value} {ok : α → Prop} {h : Heap} {ri r : Nat} {kvs : List (α × Value)} {left : α → Bool} (it : IterAt enc ok h ri r kvs left) : ri < h.size ∧ r < h.size ∧ ri ≠ r := by
  obtain ⟨⟨es, clock, since, seen, last, h1, h2, h3, h4, h5, _⟩, _⟩ := it
  exact ⟨blk_lt h5, blk_lt h1, fun e => by subst e; rw [h1] at h5; cases h5⟩
theorem IterAt.move {enc : α → Value} {ok : α → Prop} {h h' : Heap} {ri r : Nat} {kvs : List (α × Value)} {left : α → Bool} (it : IterAt enc ok h ri r kvs left) (e1 : h'[ri]? = h[ri]?) (e2 : h'[r]? = h[r]?) : IterAt enc ok h' ri r kvs left := by
  obtain ⟨⟨es, clock, since, seen, last, h1, h2, h3, h4, h5, h6⟩, k, o⟩ := it
  exact ⟨⟨es, clock, since, seen, last, e2.trans h1, h2, h3, h4, e1.trans h5, h6⟩, k, o⟩
theorem IterAt.grow {enc : α → Value} {ok : α → Prop} {h h' : Heap} {ri r : Nat} {kvs : List (α × Value)} {left : α → Bool} (it : IterAt enc ok h ri r kvs left) (x : Ext h h') : IterAt enc ok h' ri r kvs left :=
  it.move (x.block _ it.lt.1) (x.block _ it.lt.2.1)
theorem IterAt.keep {S : Nat → Prop} {enc : α → Value} {ok : α → Prop} {h h' : Heap} {ri r : Nat} {kvs : List (α × Value)} {left : α → Bool} (it : IterAt enc ok h ri r kvs left) (x : Keep S h h') (h1 : ¬ S ri) (h2 : ¬ S r) : IterAt enc ok h' ri r kvs left :=
  it.move (x.block _ it.lt.1 h1) (x.block _ it.lt.2.1 h2)
theorem semK_range {mt kt et : TypeId} {enc : α → Value} {ok : α → Prop} (hm : P.underlying mt = some (.map kt et)) {h : Heap} {r : Nat} {kvs : List (α × Value)} (m : MapAt enc ok h r kvs) {K : Value → Heap → Prop}
    (hK : ∀ h', Ext h h' → h'.size = h.size + 1 → IterAt enc ok h' h.size r kvs (fun _ => true) → K (.pointer (some ⟨h.size, 0, none⟩)) h') : semK P (Instr.range mt (.map (some r))) h K := by
  rintro w rfl
  have hlt := m.lt
  obtain ⟨⟨es, clock, hb, he, hn, hc⟩, hk, hok⟩ := m
  refine ⟨_, _, run_range_map w mt kt et r es clock hm hb, ⟨rfl, rfl, rfl⟩, hK _ ?_ ?_ ⟨⟨es, clock, clock, #[], clock, ?_, he, hn, hc, ?_, hc, Nat.le_refl _, Nat.le_refl _, fun i e p _ _ => by simp⟩, hk, hok⟩⟩
  · refine ⟨by show w.heap.size ≤ (w.heap.push _).size; rw [Array.size_push]; omega, fun k hk => ?_⟩
    show (w.heap.push _)[k]? = _
    rw [Array.getElem?_push, if_neg (by omega)]
  · show (w.heap.push _).size = _
    rw [Array.size_push]
  · show (w.heap.push _)[r]? = _
    rw [Array.getElem?_push, if_neg (by omega)]; exact hb
  · show (w.heap.push _)[w.heap.size]? = _
    rw [Array.getElem?_push, if_pos rfl]
theorem left_step {es : Array MapEntry} {seen : Array Nat} {e : MapEntry} (he : e ∈ (leftOf es seen).toList) : (leftOf es (seen.push e.born)).size < (leftOf es seen).size := by
  have h1 : (leftOf es (seen.push e.born)).toList = ((leftOf es seen).toList).filter fun x => decide (x.born ≠ e.born) := by
    unfold leftOf
    rw [Array.toList_filter, Array.toList_filter, List.filter_filter]
    apply List.filter_congr
    intro x _
    by_cases hx : x.born = e.born
    · simp [hx]
    · simp [hx]
  rw [← Array.length_toList, ← Array.length_toList, h1, List.length_filter_lt_length_iff_exists]
  exact ⟨e, he, by simp⟩
theorem left_del {es : Array MapEntry} {seen : Array Nat} (i : Nat) : (leftOf (es.eraseIdxIfInBounds i) seen).size ≤ (leftOf es seen).size := by
  have h1 : ∀ xs : Array MapEntry, (leftOf xs seen).size = (xs.toList.filter fun e => !seen.contains e.born).length := fun xs => by
    rw [← Array.length_toList]
    unfold leftOf
    rw [Array.toList_filter]
  have : (es.eraseIdxIfInBounds i).toList = es.toList.eraseIdx i := by simp
  rw [h1, h1, this]
  exact ((List.eraseIdx_sublist _ _).filter _).length_le
theorem semK_next {enc : α → Value} {ok : α → Prop} {h : Heap} {ri r : Nat} {kvs : List (α × Value)} {left : α → Bool} [DecidableEq α] (it : IterAt enc ok h ri r kvs left) (ty : TypeId) {K : Value → Heap → Prop}
    (hover : (∀ p ∈ kvs, left p.1 = false) → K (.tuple #[.bool false]) h)
    (hstep : ∀ p h', p ∈ kvs → left p.1 = true → Only ri h h' → leftN h' ri r < leftN h ri r → IterOn enc ok h' ri r kvs (fun a => left a && !decide (a = p.1)) p → K (.tuple #[.bool true, enc p.1, p.2]) h') :
    semK P (Instr.next (.pointer (some ⟨ri, 0, none⟩)) false ty) h K := by
  rintro w rfl
  have hlt := it.lt
  obtain ⟨⟨es, clock, since, seen, last, hb, he, hn, hc, hr, hs, hsl, hlc, hz⟩, hk, hok⟩ := it
  have hlen : es.toList.length = kvs.length := by simpa using congrArg List.length he
  rcases run_next_at (P := P) w ty ri r since last seen es clock hr hb hs hsl with ⟨h0, hrun⟩ | ⟨e, hel, w1, hw1, hrun⟩
  · refine ⟨_, _, hrun, ⟨rfl, rfl, rfl⟩, hover fun p hp => ?_⟩
    obtain ⟨i, hi⟩ := List.getElem?_of_mem hp
    have hlt' := (List.getElem?_eq_some_iff.1 hi).1
    have hei : es.toList[i]? = some (es.toList[i]'(by omega)) := List.getElem?_eq_getElem (by omega)
    have := hz i _ p hei hi
    cases hl : left p.1 with
    | false => rfl
    | true =>
      rw [hl] at this
      have hm : (es.toList[i]'(by omega)) ∈ (leftOf es seen).toList := by
        unfold leftOf
        rw [Array.toList_filter, List.mem_filter]
        exact ⟨List.getElem_mem _, by rw [this]; rfl⟩
      rw [← Array.length_toList] at h0
      rw [List.eq_nil_of_length_eq_zero h0] at hm
      cases hm
  · have hm : e ∈ es.toList ∧ seen.contains e.born = false := by
      have := hel
      unfold leftOf at this
      rw [Array.toList_filter, List.mem_filter] at this
      exact ⟨this.1, by simpa using this.2⟩
    obtain ⟨i, hei⟩ := List.getElem?_of_mem hm.1
    have hlt' := (List.getElem?_eq_some_iff.1 hei).1
    have hpi : kvs[i]? = some (kvs[i]'(by omega)) := List.getElem?_eq_getElem (by omega)
    generalize kvs[i]'(by omega) = p at hpi
    have hkv : (e.key, e.val) = (enc p.1, p.2) := by
      have := congrArg (·[i]?) he
      simp only [List.getElem?_map, hei, hpi, Option.map_some] at this
      exact Option.some.inj this
    have hk1 : e.key = enc p.1 := (Prod.mk.inj hkv).1
    have hv1 : e.val = p.2 := (Prod.mk.inj hkv).2
    have hlp : left p.1 = true := by
      have := hz i e p hei hpi
      rw [hm.2] at this
      cases hl : left p.1 with
      | true => rfl
      | false => rw [hl] at this; cases this
    have hheap : w1.heap = w.heap := by rcases hw1 with rfl | rfl <;> rfl
    have hkin : Kin w w1 := by rcases hw1 with rfl | rfl <;> exact ⟨rfl, rfl, rfl⟩
    refine ⟨_, _, hrun, ⟨hkin.os, hkin.tape, hkin.output⟩, ?_⟩
    rw [hk1, hv1]
    have hh : (ChangeMaps.setBlock w1 ri (.mapIter (some r) since (seen.push e.born) clock)).heap = w.heap.setIfInBounds ri (.mapIter (some r) since (seen.push e.born) clock) := by
      show w1.heap.setIfInBounds _ _ = _
      rw [hheap]
    rw [hh]
    obtain ⟨b1, o1⟩ := set_only w.heap ri (.mapIter (some r) since (seen.push e.born) clock) hlt.1
    have hb' := (o1.block r (fun e => hlt.2.2 e.symm)).trans hb
    refine hstep p _ (List.mem_of_getElem? hpi) hlp o1 ?_ ⟨⟨⟨es, clock, since, _, clock, hb', he, hn, hc, b1, hs, by omega, Nat.le_refl _, ?_⟩, hk, hok⟩, ⟨es, clock, since, seen, e, hb', b1, hm.1, hn, hk1, hv1⟩⟩
    · rw [leftN_is b1 hb', leftN_is hr hb]
      exact left_step hel
    · intro j f q hf hq
      have hzj := hz j f q hf hq
      by_cases hij : j = i
      · subst hij
        rw [hei] at hf
        obtain rfl := Option.some.inj hf
        rw [hpi] at hq
        obtain rfl := Option.some.inj hq
        simp
      · have hjl := (List.getElem?_eq_some_iff.1 hf).1
        have n1 : f.born ≠ e.born := by
          intro hbe
          have a1 : (es.toList.map (·.born))[j]? = some f.born := by rw [List.getElem?_map, hf]; rfl
          have a2 : (es.toList.map (·.born))[i]? = some e.born := by rw [List.getElem?_map, hei]; rfl
          rw [hbe, ← a2] at a1
          exact hij ((List.getElem?_inj (List.getElem?_eq_some_iff.1 (a1.trans a2)).1 hn).1 a1)
        have n2 : q.1 ≠ p.1 := by
          intro hbe
          have a1 : (kvs.map Prod.fst)[j]? = some q.1 := by rw [List.getElem?_map, hq]; rfl
          have a2 : (kvs.map Prod.fst)[i]? = some p.1 := by rw [List.getElem?_map, hpi]; rfl
          rw [hbe, ← a2] at a1
          exact hij ((List.getElem?_inj (List.getElem?_eq_some_iff.1 (a1.trans a2)).1 hk).1 a1)
        simp only [n2, decide_false, Bool.not_false, Bool.and_true]
        rw [← hzj]
        simp [Array.contains_push, n1]
theorem semK_told {enc : α → Value} {ok : α → Prop} {h : Heap} {ri r : Nat} {kvs : List (α × Value)} {left : α → Bool} {p : α × Value} (it : IterOn enc ok h ri r kvs left p) {K : Value → Heap → Prop} (hK : K (.tuple #[enc p.1, p.2]) h) : semK P (Instr.entry (.pointer (some ⟨ri, 0, none⟩))) h K := by
  rintro w rfl
  obtain ⟨_, es, clock, since, seen, e, hb, hr, he, hn, h1, h2⟩ := it
  refine ⟨_, _, run_entry_at w ri r since seen es clock e hr hb he hn, Kin.refl w, ?_⟩
  rw [h1, h2]
  exact hK
section
variable [DecidableEq α]
/-- while the range goes on an entry is taken away -/
theorem semK_deleteIt {mt kt et ty : TypeId} {ts : List TypeId} {enc : α → Value} {ok : α → Prop} (K : Keyed P kt enc ok) (hm : P.underlying mt = some (.map kt et)) {h : Heap} {ri r : Nat} {kvs : List (α × Value)} {left : α → Bool} (it : IterAt enc ok h ri r kvs left) {a : α} (ha : ok a) {Kk : Value → Heap → Prop}
    (hK : ∀ h', IterAt enc ok h' ri r (delA kvs a) left → Only r h h' → leftN h' ri r ≤ leftN h ri r → Kk (.tuple #[]) h') : semK P (Builtin.delete_ (mt :: ts).toArray ty #[.map (some r), enc a]) h Kk := by
  rintro w rfl
  have hlt := it.lt
  obtain ⟨⟨es, clock, since, seen, last, hb, he, hn, hc, hr, hs, hsl, hlc, hz⟩, hk, hok⟩ := it
  cases hf : findA kvs a 0 with
  | none =>
    obtain ⟨b1, o1⟩ := set_only w.heap r (.map es clock) hlt.2.1
    have hr' := (o1.block ri hlt.2.2).trans hr
    refine ⟨.tuple #[], { w with heap := w.heap.setIfInBounds r (.map es clock) }, ?_, ⟨rfl, rfl, rfl⟩, hK _ ?_ o1 ?_⟩
    · unfold Builtin.delete_
      simp [Sem.run_bind, run_und hm, run_getM hb, K.chk _ a ha, run_find K ha w es.toList kvs hok he, hf, run_setM _ hb]
    · rw [del_none hf]
      exact ⟨⟨es, clock, since, seen, last, b1, he, hn, hc, hr', hs, hsl, hlc, hz⟩, hk, hok⟩
    · rw [leftN_is hr' b1, leftN_is hr hb]; exact Nat.le_refl _
  | some p =>
    obtain ⟨i, u⟩ := p
    obtain ⟨j, e0, hj, _⟩ := findA_some hf
    rw [Nat.zero_add] at e0
    subst e0
    have hlist : (es.eraseIdxIfInBounds i).toList = es.toList.eraseIdx i := by simp
    have hd := del_erase kvs a i u hk hj
    obtain ⟨b1, o1⟩ := set_only w.heap r (.map (es.eraseIdxIfInBounds i) clock) hlt.2.1
    have hr' := (o1.block ri hlt.2.2).trans hr
    refine ⟨.tuple #[], { w with heap := w.heap.setIfInBounds r (.map (es.eraseIdxIfInBounds i) clock) }, ?_, ⟨rfl, rfl, rfl⟩, hK _ ⟨⟨_, clock, since, seen, last, b1, ?_, ?_, ?_, hr', ?_, hsl, hlc, ?_⟩, ?_, ?_⟩ o1 ?_⟩
    · unfold Builtin.delete_
      simp [Sem.run_bind, run_und hm, run_getM hb, K.chk _ a ha, run_find K ha w es.toList kvs hok he, hf, run_setM _ hb]
    · rw [hlist, hd, erase_map, erase_map, he]
    · rw [hlist, erase_map]
      exact hn.sublist (List.eraseIdx_sublist _ _)
    · rw [hlist]
      intro e hem
      exact hc e (List.mem_of_mem_eraseIdx hem)
    · rw [hlist]
      intro e hem
      exact hs e (List.mem_of_mem_eraseIdx hem)
    · rw [hlist, hd]
      intro k e q h1 h2
      rw [List.getElem?_eraseIdx] at h1 h2
      by_cases hki : k < i
      · rw [if_pos hki] at h1 h2
        exact hz k e q h1 h2
      · rw [if_neg hki] at h1 h2
        exact hz (k + 1) e q h1 h2
    · rw [hd, erase_map]
      exact hk.sublist (List.eraseIdx_sublist _ _)
    · rw [hd]
      intro p hp
      exact hok p (List.mem_of_mem_eraseIdx hp)
    · rw [leftN_is hr' b1, leftN_is hr hb]
      exact left_del i
end
end Go.Vc
