import Derived.Test.YtcfegbpoailbdaaDoorVcW
import Derived.Test.YtcfegbpoailbdaaDoorVcS

namespace Go.Vc
set_option linter.unusedVariables false
set_option linter.unusedSimpArgs false
variable {α : Type} {P : Program}

theorem run_getM {w : World} {r : Nat} {es : Array MapEntry} {clock : Nat} (hb : w.heap[r]? = some (.map es clock)) : (getObj r).run P w = .ok (.map es clock) w := by simp [getObj, Sem.run, hb]
theorem run_setM {w : World} {r : Nat} {es : Array MapEntry} {clock : Nat} (o : Obj) (hb : w.heap[r]? = some (.map es clock)) : (setObj r o).run P w = .ok () { w with heap := w.heap.setIfInBounds r o } := by simp [setObj, Sem.run, hb]

/-- a map in memory: these keys, each once, and what they have, in the order in which they came -/
structure MapAt (enc : α → Value) (ok : α → Prop) (h : Heap) (r : Nat) (kvs : List (α × Value)) : Prop where
  ex : ∃ es clock, h[r]? = some (.map es clock) ∧ es.toList.map (fun e => (e.key, e.val)) = kvs.map (fun p => (enc p.1, p.2)) ∧ (es.toList.map (·.born)).Nodup ∧ ∀ e ∈ es.toList, e.born < clock
  keys : (kvs.map Prod.fst).Nodup
  oks : ∀ p ∈ kvs, ok p.1
theorem MapAt.new {enc : α → Value} {ok : α → Prop} {h : Heap} {r : Nat} (hb : h[r]? = some (.map #[] 0)) : MapAt enc ok h r [] := ⟨⟨#[], 0, hb, rfl, by simp, by simp⟩, by simp, by simp⟩
theorem MapAt.lt {enc : α → Value} {ok : α → Prop} {h : Heap} {r : Nat} {kvs : List (α × Value)} (m : MapAt enc ok h r kvs) : r < h.size := by
  obtain ⟨⟨es, clock, hb, _⟩, _⟩ := m; exact blk_lt hb
theorem MapAt.block {enc : α → Value} {ok : α → Prop} {h h' : Heap} {r : Nat} {kvs : List (α × Value)} (m : MapAt enc ok h r kvs) (x : h'[r]? = h[r]?) : MapAt enc ok h' r kvs := by
  obtain ⟨⟨es, clock, hb, hr⟩, h2, h3⟩ := m; exact ⟨⟨es, clock, x.trans hb, hr⟩, h2, h3⟩
theorem MapAt.grow {enc : α → Value} {ok : α → Prop} {h h' : Heap} {r : Nat} {kvs : List (α × Value)} (m : MapAt enc ok h r kvs) (x : Ext h h') : MapAt enc ok h' r kvs := m.block (x.block r m.lt)

/-- the entries, one of them written -/
theorem ents_set {enc : α → Value} {es : Array MapEntry} {kvs : List (α × Value)} {j : Nat} {a : α} {v u : Value} (he : es.toList.map (fun e => (e.key, e.val)) = kvs.map (fun p => (enc p.1, p.2))) (hj : kvs[j]? = some (a, u)) :
    (es.modify j fun e => { e with key := enc a, val := v }).toList.map (fun e => (e.key, e.val)) = (kvs.set j (a, v)).map (fun p => (enc p.1, p.2)) := by
  apply List.ext_getElem?
  intro i
  have hi := congrArg (·[i]?) he
  simp only [List.getElem?_map] at hi
  rw [List.map_set, List.getElem?_set, List.getElem?_map, Array.getElem?_toList, Array.getElem?_modify]
  have hl := (List.getElem?_eq_some_iff.1 hj).1
  by_cases e : j = i
  · subst e
    rw [if_pos rfl, if_pos rfl, List.length_map, if_pos hl]
    rw [hj, Array.getElem?_toList] at hi
    cases hx : es[j]? with
    | none => rw [hx] at hi; cases hi
    | some x => rfl
  · rw [if_neg e, if_neg e, List.getElem?_map]
    rw [Array.getElem?_toList] at hi; exact hi
theorem ents_val {enc : α → Value} {es : Array MapEntry} {kvs : List (α × Value)} {j : Nat} {a : α} {v u : Value} (he : es.toList.map (fun e => (e.key, e.val)) = kvs.map (fun p => (enc p.1, p.2))) (hj : kvs[j]? = some (a, u)) :
    (es.modify j fun e => { e with val := v }).toList.map (fun e => (e.key, e.val)) = (kvs.set j (a, v)).map (fun p => (enc p.1, p.2)) := by
  rw [← ents_set (v := v) he hj]
  apply List.ext_getElem?
  intro i
  have hi := congrArg (·[j]?) he
  simp only [List.getElem?_map, hj, Option.map_some] at hi
  rw [List.getElem?_map, List.getElem?_map, Array.getElem?_toList, Array.getElem?_toList, Array.getElem?_modify, Array.getElem?_modify]
  by_cases e : j = i
  · subst e
    rw [if_pos rfl, if_pos rfl]
    rw [Array.getElem?_toList] at hi
    cases hx : es[j]? with
    | none => rfl
    | some x =>
      rw [hx] at hi
      simp at hi
      simp [hi.1]
  · rw [if_neg e, if_neg e]
theorem ents_born {es : Array MapEntry} {j : Nat} {f : MapEntry → MapEntry} (hf : ∀ e, (f e).born = e.born) : (es.modify j f).toList.map (·.born) = es.toList.map (·.born) := by
  apply List.ext_getElem?
  intro i
  rw [List.getElem?_map, List.getElem?_map, Array.getElem?_toList, Array.getElem?_toList, Array.getElem?_modify]
  split
  · cases es[i]? <;> simp [hf]
  · rfl
theorem born_mem {es : Array MapEntry} {clock : Nat} : (∀ e ∈ es.toList, e.born < clock) ↔ ∀ n ∈ es.toList.map (·.born), n < clock := by
  constructor
  · intro h n hn
    obtain ⟨e, he, rfl⟩ := List.mem_map.1 hn
    exact h e he
  · intro h e he; exact h _ (List.mem_map.2 ⟨e, he, rfl⟩)
theorem set_only (h : Heap) (r : Nat) (o : Obj) (hr : r < h.size) : (h.setIfInBounds r o)[r]? = some o ∧ Only r h (h.setIfInBounds r o) :=
  ⟨by simp [hr], by simp, fun k hk => by rw [Array.getElem?_setIfInBounds_ne (fun e => hk e.symm)]⟩

variable [DecidableEq α]

/-- keys of a kind: how they stand as values, and that the machine tells them apart -/
structure Keyed (P : Program) (kt : TypeId) (enc : α → Value) (ok : α → Prop) : Prop where
  und : ∃ d, P.underlying kt = some d ∧ ((∀ a b, ok a → ok b → Instr.sameNow d (enc a) (enc b) = some (decide (a = b))) ∨ (∀ a b, Instr.sameNow d (enc a) (enc b) = none))
  eq : ∀ a b, ok a → ok b → ∀ w, (Op.equal kt (enc a) (enc b)).run P w = .ok (decide (a = b)) w
  chk : ∀ (e : Bool) a, ok a → ∀ w, (Instr.checkKey e 10000 kt (enc a)).run P w = .ok () w
  same : ∀ a, ok a → Instr.sameBits 10000 (enc a) (enc a) = true

def lookA : List (α × Value) → α → Option Value
  | [], _ => none
  | (b, v) :: r, a => if a = b then some v else lookA r a
def findA : List (α × Value) → α → Nat → Option (Nat × Value)
  | [], _, _ => none
  | (b, v) :: r, a, k => if a = b then some (k, v) else findA r a (k + 1)
def updA : List (α × Value) → α → Value → List (α × Value)
  | [], a, v => [(a, v)]
  | (b, u) :: r, a, v => if a = b then (b, v) :: r else (b, u) :: updA r a v
def delA (l : List (α × Value)) (a : α) : List (α × Value) := l.filter fun p => p.1 ≠ a

theorem findA_look : ∀ (l : List (α × Value)) (a : α) (k : Nat), (findA l a k).map Prod.snd = lookA l a
  | [], _, _ => rfl
  | (b, v) :: r, a, k => by
    unfold findA lookA
    split
    · rfl
    · exact findA_look r a (k + 1)
theorem findA_some : ∀ {l : List (α × Value)} {a : α} {k i : Nat} {v : Value}, findA l a k = some (i, v) → ∃ j, i = k + j ∧ l[j]? = some (a, v) ∧ ∀ u, l.set j (a, u) = updA l a u
  | [], _, _, _, _, h => by cases h
  | (b, u) :: r, a, k, i, v, h => by
    unfold findA at h
    split at h
    · rename_i e; subst e
      obtain ⟨rfl, rfl⟩ := Prod.mk.inj (Option.some.inj h)
      exact ⟨0, rfl, rfl, fun u => by simp [updA]⟩
    · rename_i e
      obtain ⟨j, e1, e2, e3⟩ := findA_some h
      exact ⟨j + 1, by omega, by simpa using e2, fun w => by simp [updA, e, e3 w]⟩
theorem findA_none : ∀ {l : List (α × Value)} {a : α} {k : Nat}, findA l a k = none → (∀ v, updA l a v = l ++ [(a, v)]) ∧ ∀ p ∈ l, p.1 ≠ a
  | [], _, _, _ => ⟨fun _ => rfl, by simp⟩
  | (b, u) :: r, a, k, h => by
    unfold findA at h
    split at h
    · cases h
    · rename_i e
      obtain ⟨h1, h2⟩ := findA_none h
      refine ⟨fun v => by simp [updA, e, h1 v], fun p hp => ?_⟩
      rcases List.mem_cons.1 hp with rfl | hp
      · exact fun e2 => e e2.symm
      · exact h2 p hp
theorem look_upd : ∀ (l : List (α × Value)) (a b : α) (v : Value), lookA (updA l a v) b = if b = a then some v else lookA l b
  | [], a, b, v => by simp [updA, lookA]
  | (c, u) :: r, a, b, v => by
    unfold updA
    by_cases h : a = c
    · subst h; rw [if_pos rfl]; unfold lookA; by_cases h2 : b = a <;> simp [h2]
    · rw [if_neg h]
      unfold lookA
      by_cases h2 : b = c
      · subst h2; rw [if_pos rfl, if_neg (fun e => h e.symm), if_pos rfl]
      · rw [if_neg h2, if_neg h2]; exact look_upd r a b v
theorem upd_keys (l : List (α × Value)) (a : α) (v : Value) (hn : (l.map Prod.fst).Nodup) : ((updA l a v).map Prod.fst).Nodup := by
  cases h : findA l a 0 with
  | none =>
    obtain ⟨h1, h2⟩ := findA_none h
    rw [h1, List.map_append, List.nodup_append]
    refine ⟨hn, by simp, ?_⟩
    rintro x hx y hy e
    simp at hy
    obtain ⟨p, hp, e2⟩ := List.mem_map.1 hx
    exact h2 p hp (e2.trans (e.trans hy))
  | some p =>
    obtain ⟨i, u⟩ := p
    obtain ⟨j, _, hj, e⟩ := findA_some h
    rw [← e v, List.map_set]
    have : (l.map Prod.fst).set j a = l.map Prod.fst := by
      apply List.ext_getElem?
      intro m
      rw [List.getElem?_set]
      split
      · rename_i e; subst e
        have hl := (List.getElem?_eq_some_iff.1 hj).1
        rw [List.length_map, if_pos hl, List.getElem?_map, hj]; rfl
      · rfl
    rw [this]; exact hn
theorem upd_mem {l : List (α × Value)} {a : α} {v : Value} : ∀ p ∈ updA l a v, p.1 = a ∨ ∃ q ∈ l, q.1 = p.1 := by
  induction l with
  | nil => intro p hp; simp [updA] at hp; exact .inl (by rw [hp])
  | cons q r ih =>
    intro p hp
    obtain ⟨b, u⟩ := q
    unfold updA at hp
    split at hp
    · rename_i e
      rcases List.mem_cons.1 hp with rfl | hp
      · exact .inl e.symm
      · exact .inr ⟨p, List.mem_cons_of_mem _ hp, rfl⟩
    · rcases List.mem_cons.1 hp with rfl | hp
      · exact .inr ⟨_, List.mem_cons_self .., rfl⟩
      · exact (ih p hp).imp id fun ⟨q, hq, e⟩ => ⟨q, List.mem_cons_of_mem _ hq, e⟩

theorem run_find_go {kt : TypeId} {enc : α → Value} {ok : α → Prop} (K : Keyed P kt enc ok) {a : α} (ha : ok a) (w : World) : ∀ (es : List MapEntry) (kvs : List (α × Value)) (k : Nat), (∀ p ∈ kvs, ok p.1) → es.map (fun e => (e.key, e.val)) = kvs.map (fun p => (enc p.1, p.2)) →
    (Instr.findAsking kt (enc a) es k).run P w = .ok (findA kvs a k) w
  | [], kvs, k, _, h => by
    cases kvs with
    | nil => simp [Instr.findAsking, findA]
    | cons p r => simp at h
  | e :: es, kvs, k, hok, h => by
    cases kvs with
    | nil => simp at h
    | cons p r =>
      obtain ⟨b, v⟩ := p
      simp only [List.map_cons, List.cons.injEq, Prod.mk.injEq] at h
      obtain ⟨⟨h1, h2⟩, h3⟩ := h
      have ih := run_find_go K ha w es r (k + 1) (fun q hq => hok q (List.mem_cons_of_mem _ hq)) h3
      unfold Instr.findAsking findA
      rw [Sem.run_bind, h1, K.eq a b ha (hok _ (List.mem_cons_self ..)) w]
      by_cases e : a = b
      · simp [e, h2]
      · simp [e, ih]
theorem find_now {kt : TypeId} {enc : α → Value} {ok : α → Prop} {d : TypeDesc} (hn : ∀ a b, ok a → ok b → Instr.sameNow d (enc a) (enc b) = some (decide (a = b))) {a : α} (ha : ok a) : ∀ (es : List MapEntry) (kvs : List (α × Value)) (k : Nat), (∀ p ∈ kvs, ok p.1) → es.map (fun e => (e.key, e.val)) = kvs.map (fun p => (enc p.1, p.2)) →
    Instr.findNow d (enc a) es k = some (findA kvs a k)
  | [], kvs, k, _, h => by
    cases kvs with
    | nil => simp [Instr.findNow, findA]
    | cons p r => simp at h
  | e :: es, kvs, k, hok, h => by
    cases kvs with
    | nil => simp at h
    | cons p r =>
      obtain ⟨b, v⟩ := p
      simp only [List.map_cons, List.cons.injEq, Prod.mk.injEq] at h
      obtain ⟨⟨h1, h2⟩, h3⟩ := h
      have ih := find_now (kt := kt) hn ha es r (k + 1) (fun q hq => hok q (List.mem_cons_of_mem _ hq)) h3
      unfold Instr.findNow findA
      rw [h1, hn a b ha (hok _ (List.mem_cons_self ..))]
      by_cases e : a = b
      · simp [e, h2]
      · simp [e, ih]
theorem run_find {kt : TypeId} {enc : α → Value} {ok : α → Prop} (K : Keyed P kt enc ok) {a : α} (ha : ok a) (w : World) (es : List MapEntry) (kvs : List (α × Value)) (hok : ∀ p ∈ kvs, ok p.1) (h : es.map (fun e => (e.key, e.val)) = kvs.map (fun p => (enc p.1, p.2))) :
    (Instr.findKey kt (enc a) es).run P w = .ok (findA kvs a 0) w := by
  obtain ⟨d, hd, hn | hn⟩ := K.und
  · unfold Instr.findKey
    simp only [Sem.run_bind, run_und hd, Result.andThen_ok, find_now (kt := kt) hn ha es kvs 0 hok h, Sem.run_pure]
  · have hg := run_find_go K ha w es kvs 0 hok h
    cases es with
    | nil =>
      cases kvs with
      | nil => simp [Instr.findKey, Sem.run_bind, run_und hd, Instr.findNow, findA]
      | cons p r => simp at h
    | cons e es =>
      cases kvs with
      | nil => simp at h
      | cons p r =>
        have h1 : e.key = enc p.1 := by simp at h; exact h.1.1
        have : Instr.findNow d (enc a) (e :: es) 0 = none := by unfold Instr.findNow; rw [h1, hn]
        unfold Instr.findKey
        simp only [Sem.run_bind, run_und hd, Result.andThen_ok, this, hg]

/-- What a lookup tells. -/
def lookV (z : Value) (ok : Bool) (o : Option Value) : Value := match ok with
  | true => .tuple #[o.getD z, .bool o.isSome]
  | false => o.getD z
theorem run_lookup {mt kt et : TypeId} {enc : α → Value} {ok : α → Prop} {z : Value} (K : Keyed P kt enc ok) (hm : P.underlying mt = some (.map kt et)) (hz : (P.info? et).bind (·.zero) = some z) {w : World} {r : Nat} {kvs : List (α × Value)} (m : MapAt enc ok w.heap r kvs) {a : α} (ha : ok a) (c : Bool) :
    (Instr.lookup mt (.map (some r)) (enc a) c).run P w = .ok (lookV z c (lookA kvs a)) w := by
  obtain ⟨⟨es, clock, hb, he, _⟩, _, hok⟩ := m
  unfold Instr.lookup
  simp only [Sem.run_bind, run_und hm, Result.andThen_ok, run_getM hb, Sem.run_pure, K.chk _ a ha, run_find K ha w es.toList kvs hok he]
  rw [← findA_look kvs a 0]
  cases findA kvs a 0 with
  | none => cases c <;> simp [Sem.run_bind, run_zero hz, lookV]
  | some p => cases c <;> simp [lookV]
theorem run_lookup_nil {mt kt et : TypeId} {enc : α → Value} {ok : α → Prop} {z : Value} (K : Keyed P kt enc ok) (hm : P.underlying mt = some (.map kt et)) (hz : (P.info? et).bind (·.zero) = some z) {w : World} {a : α} (ha : ok a) (c : Bool) :
    (Instr.lookup mt (.map none) (enc a) c).run P w = .ok (lookV z c none) w := by
  have := run_find K ha w [] ([] : List (α × Value)) (by simp) rfl
  unfold Instr.lookup
  simp only [Sem.run_bind, run_und hm, Result.andThen_ok, Sem.run_pure, K.chk _ a ha]
  rw [this]
  cases c <;> simp [Sem.run_bind, run_zero hz, lookV, findA]
theorem semK_lookup {mt kt et : TypeId} {enc : α → Value} {ok : α → Prop} {z : Value} (K : Keyed P kt enc ok) (hm : P.underlying mt = some (.map kt et)) (hz : (P.info? et).bind (·.zero) = some z) {h : Heap} {r : Nat} {kvs : List (α × Value)} (m : MapAt enc ok h r kvs) {a : α} (ha : ok a) {c : Bool} {Kk : Value → Heap → Prop}
    (hK : Kk (lookV z c (lookA kvs a)) h) : semK P (Instr.lookup mt (.map (some r)) (enc a) c) h Kk := by
  rintro w rfl
  exact ⟨_, w, run_lookup K hm hz m ha c, Kin.refl w, hK⟩

theorem run_stays {k : Value} (hs : Instr.sameBits 10000 k k = true) (w : World) : (Instr.keyThatStays k k).run P w = .ok k w := by
  unfold Instr.keyThatStays; simp [hs]

/-- m[a] = v -/
theorem semU_update {mt kt et : TypeId} {enc : α → Value} {ok : α → Prop} (K : Keyed P kt enc ok) (hm : P.underlying mt = some (.map kt et)) {h : Heap} {r : Nat} {kvs : List (α × Value)} (m : MapAt enc ok h r kvs) {a : α} (ha : ok a) {v : Value} {Kk : Heap → Prop}
    (hK : ∀ h', MapAt enc ok h' r (updA kvs a v) → Only r h h' → Kk h') : semU P (Instr.mapUpdate mt (.map (some r)) (enc a) v) h Kk := by
  rintro w rfl
  have hlt := m.lt
  obtain ⟨⟨es, clock, hb, he, hn, hc⟩, hk, hok⟩ := m
  have hoks : ∀ p ∈ updA kvs a v, ok p.1 := fun p hp => by
    rcases upd_mem p hp with e | ⟨q, hq, e⟩
    · rw [e]; exact ha
    · rw [← e]; exact hok q hq
  cases hf : findA kvs a 0 with
  | none =>
    obtain ⟨h1, h2⟩ := findA_none hf
    refine ⟨{ w with heap := w.heap.setIfInBounds r (.map (es.push { key := enc a, val := v, born := clock }) (clock + 1)) }, ?_, ⟨rfl, rfl, rfl⟩, hK _ ⟨⟨_, _, (set_only _ _ _ hlt).1, ?_, ?_, ?_⟩, upd_keys _ _ _ hk, hoks⟩ (set_only _ _ _ hlt).2⟩
    · unfold Instr.mapUpdate
      simp only [Sem.run_bind, run_und hm, Result.andThen_ok, run_getM hb, K.chk _ a ha, run_find K ha w es.toList kvs hok he, hf, run_setM _ hb]
    · rw [h1, Array.toList_push, List.map_append, he, List.map_append]; rfl
    · rw [Array.toList_push, List.map_append, List.nodup_append]
      refine ⟨hn, by simp, ?_⟩
      rintro x hx y hy e
      simp at hy
      have := born_mem.1 hc x hx
      omega
    · rw [born_mem, Array.toList_push, List.map_append]
      intro n hn
      rcases List.mem_append.1 hn with hn | hn
      · have := born_mem.1 hc n hn; omega
      · simp at hn; omega
  | some p =>
    obtain ⟨i, u⟩ := p
    obtain ⟨j, e0, hj, hs⟩ := findA_some hf
    rw [Nat.zero_add] at e0
    subst e0
    have hkey : (((es[i]?).map (·.key)).getD (enc a)) = enc a := by
      have := congrArg (·[i]?) he
      simp only [List.getElem?_map, hj, Option.map_some] at this
      rw [Array.getElem?_toList] at this
      cases hx : es[i]? with
      | none => rfl
      | some x => rw [hx] at this; simp at this; simp [this.1]
    refine ⟨{ w with heap := w.heap.setIfInBounds r (.map (es.modify i fun e => { e with key := enc a, val := v }) clock) }, ?_, ⟨rfl, rfl, rfl⟩, hK _ ⟨⟨_, _, (set_only _ _ _ hlt).1, ?_, ?_, ?_⟩, upd_keys _ _ _ hk, hoks⟩ (set_only _ _ _ hlt).2⟩
    · unfold Instr.mapUpdate
      simp only [Sem.run_bind, run_und hm, Result.andThen_ok, run_getM hb, K.chk _ a ha, run_find K ha w es.toList kvs hok he, hf, hkey, run_stays (K.same a ha), run_setM _ hb]
    · rw [← hs v]; exact ents_set he hj
    · rw [ents_born (f := fun e => { e with key := enc a, val := v }) fun _ => rfl]; exact hn
    · rw [born_mem, ents_born (f := fun e => { e with key := enc a, val := v }) fun _ => rfl]; exact born_mem.1 hc

/-- the entry of m[a] op= v: it is made, or found; then it is written by its stamp -/
theorem semK_entry2 {mt kt et : TypeId} {enc : α → Value} {ok : α → Prop} {z : Value} (K : Keyed P kt enc ok) (hm : P.underlying mt = some (.map kt et)) (hz : (P.info? et).bind (·.zero) = some z) {h : Heap} {r : Nat} {kvs : List (α × Value)} (m : MapAt enc ok h r kvs) {a : α} (ha : ok a) {Kk : Value → Heap → Prop}
    (hK : ∀ (n : Nat) h1, Only r h h1 → MapAt enc ok h1 r (updA kvs a ((lookA kvs a).getD z)) → (∀ h2, h2[r]? = h1[r]? → ∀ v (Ku : Heap → Prop), (∀ h', MapAt enc ok h' r (updA kvs a v) → Only r h2 h' → Ku h') → semU P (Instr.entryStore mt (.map (some r)) (.int .i64 n) v) h2 Ku) → Kk (.tuple #[(lookA kvs a).getD z, .int .i64 n]) h1) :
    semK P (Instr.mapEntry mt (.map (some r)) (enc a)) h Kk := by
  rintro w rfl
  have hlt := m.lt
  obtain ⟨⟨es, clock, hb, he, hn, hc⟩, hk, hok⟩ := m
  have hoks : ∀ v, ∀ p ∈ updA kvs a v, ok p.1 := fun v p hp => by
    rcases upd_mem p hp with e | ⟨q, hq, e⟩
    · rw [e]; exact ha
    · rw [← e]; exact hok q hq
  -- what entryStore does where the entry stands at place i
  have store : ∀ (es' : Array MapEntry) (clock' : Nat) (kvs' : List (α × Value)) (i n : Nat) (h1 : Heap), Only r w.heap h1 → h1[r]? = some (.map es' clock') → es'.toList.map (fun e => (e.key, e.val)) = kvs'.map (fun p => (enc p.1, p.2)) → (es'.toList.map (·.born)).Nodup → (∀ e ∈ es'.toList, e.born < clock') →
      (es'[i]?).map (·.born) = some n → (∃ u, kvs'[i]? = some (a, u)) → (∀ v, kvs'.set i (a, v) = updA kvs a v) →
      ∀ h2, h2[r]? = h1[r]? → ∀ v (Ku : Heap → Prop), (∀ h', MapAt enc ok h' r (updA kvs a v) → Only r h2 h' → Ku h') → semU P (Instr.entryStore mt (.map (some r)) (.int .i64 n) v) h2 Ku := by
    intro es' clock' kvs' i n h1 ho hb0 he' hn' hc' hi hu hset h2 h21 v Ku hKu
    have hb' := h21.trans hb0
    rintro w1 rfl
    obtain ⟨u, hu⟩ := hu
    have hlt' : r < w1.heap.size := blk_lt hb'
    obtain ⟨x, hx, hxn⟩ : ∃ x, es'[i]? = some x ∧ x.born = n := by
      cases hx : es'[i]? with
      | none => rw [hx] at hi; cases hi
      | some x => rw [hx] at hi; exact ⟨x, rfl, Option.some.inj hi⟩
    have hfind : es'.findIdx? (fun e => (e.born : Int) == (n : Int)) = some i := by
      rw [Array.findIdx?_eq_some_iff_getElem]
      obtain ⟨hil, hxe⟩ := Array.getElem?_eq_some_iff.1 hx
      refine ⟨hil, by rw [hxe, hxn]; simp, fun j hj => ?_⟩
      simp only [beq_iff_eq]
      intro e
      have hjl : j < es'.size := by omega
      have h1 : (es'.toList.map (·.born))[j]? = some n := by
        rw [List.getElem?_map, Array.getElem?_toList, Array.getElem?_eq_getElem hjl]; simp; omega
      have h2 : (es'.toList.map (·.born))[i]? = some n := by
        rw [List.getElem?_map, Array.getElem?_toList, hx]; simp [hxn]
      obtain ⟨l1, e1⟩ := List.getElem?_eq_some_iff.1 h1
      obtain ⟨l2, e2⟩ := List.getElem?_eq_some_iff.1 h2
      have := List.pairwise_iff_getElem.1 hn' j i l1 l2 hj
      exact this (e1.trans e2.symm)
    refine ⟨{ w1 with heap := w1.heap.setIfInBounds r (.map (es'.modify i fun e => { e with val := v }) clock') }, ?_, ⟨rfl, rfl, rfl⟩, hKu _ ⟨⟨_, _, (set_only _ _ _ hlt').1, ?_, ?_, ?_⟩, ?_, hoks v⟩ (set_only _ _ _ hlt').2⟩
    · unfold Instr.entryStore
      simp only [Sem.run_bind, Result.andThen_ok, run_getM hb', asInt, asIntOf, Sem.run_pure, hfind, run_setM _ hb']
    · rw [← hset v]; exact ents_val he' hu
    · rw [ents_born (f := fun e => { e with val := v }) fun _ => rfl]; exact hn'
    · rw [born_mem, ents_born (f := fun e => { e with val := v }) fun _ => rfl]; exact born_mem.1 hc'
    · exact upd_keys _ _ _ hk
  cases hf : findA kvs a 0 with
  | none =>
    obtain ⟨h1, h2⟩ := findA_none hf
    have hl : lookA kvs a = none := by rw [← findA_look kvs a 0, hf]; rfl
    have hsz : es.size = kvs.length := by have := congrArg List.length he; simpa using this
    refine ⟨.tuple #[z, .int .i64 clock], { w with heap := w.heap.setIfInBounds r (.map (es.push { key := enc a, val := z, born := clock }) (clock + 1)) }, ?_, ⟨rfl, rfl, rfl⟩, ?_⟩
    · unfold Instr.mapEntry
      simp only [Sem.run_bind, run_und hm, Result.andThen_ok, run_getM hb, K.chk _ a ha, run_find K ha w es.toList kvs hok he, hf, run_zero hz, run_setM _ hb, Sem.run_pure, goInt]
    · have hents : (es.push { key := enc a, val := z, born := clock }).toList.map (fun e => (e.key, e.val)) = (kvs ++ [(a, z)]).map (fun p => (enc p.1, p.2)) := by
        rw [Array.toList_push, List.map_append, he, List.map_append]; rfl
      have hborn : ((es.push { key := enc a, val := z, born := clock }).toList.map (·.born)).Nodup := by
        rw [Array.toList_push, List.map_append, List.nodup_append]
        refine ⟨hn, by simp, ?_⟩
        rintro x hx y hy e
        simp at hy
        have := born_mem.1 hc x hx
        omega
      have hclk : ∀ e ∈ (es.push { key := enc a, val := z, born := clock }).toList, e.born < clock + 1 := by
        rw [born_mem, Array.toList_push, List.map_append]
        intro n hn
        rcases List.mem_append.1 hn with hn | hn
        · have := born_mem.1 hc n hn; omega
        · simp at hn; omega
      have := hK clock _ (set_only w.heap r (.map (es.push { key := enc a, val := z, born := clock }) (clock + 1)) hlt).2 (by rw [hl]; exact ⟨⟨_, _, (set_only _ _ _ hlt).1, by rw [h1]; exact hents, hborn, hclk⟩, upd_keys _ _ _ hk, hoks _⟩) (store _ (clock + 1) (kvs ++ [(a, z)]) kvs.length clock _ (set_only _ _ _ hlt).2 (set_only _ _ _ hlt).1 ?_ ?_ ?_ ?_ ⟨z, by simp⟩ ?_)
      · rw [hl] at this; exact this
      · rw [Array.toList_push, List.map_append, he, List.map_append]; rfl
      · rw [Array.toList_push, List.map_append, List.nodup_append]
        refine ⟨hn, by simp, ?_⟩
        rintro x hx y hy e
        simp at hy
        have := born_mem.1 hc x hx
        omega
      · rw [born_mem, Array.toList_push, List.map_append]
        intro n hn
        rcases List.mem_append.1 hn with hn | hn
        · have := born_mem.1 hc n hn; omega
        · simp at hn; omega
      · rw [← hsz]; simp
      · intro v; rw [h1]; simp
  | some p =>
    obtain ⟨i, u⟩ := p
    obtain ⟨j, e0, hj, hs⟩ := findA_some hf
    rw [Nat.zero_add] at e0
    subst e0
    have hl : lookA kvs a = some u := by rw [← findA_look kvs a 0, hf]; rfl
    obtain ⟨x, hx, hxk, hxv⟩ : ∃ x, es[i]? = some x ∧ x.key = enc a ∧ x.val = u := by
      have := congrArg (·[i]?) he
      simp only [List.getElem?_map, hj, Option.map_some] at this
      rw [Array.getElem?_toList] at this
      cases hx : es[i]? with
      | none => rw [hx] at this; cases this
      | some x => rw [hx] at this; simp at this; exact ⟨x, rfl, this.1, this.2⟩
    refine ⟨.tuple #[u, .int .i64 x.born], { w with heap := w.heap.setIfInBounds r (.map (es.modify i fun e => { e with key := enc a }) clock) }, ?_, ⟨rfl, rfl, rfl⟩, ?_⟩
    · unfold Instr.mapEntry
      simp only [Sem.run_bind, run_und hm, Result.andThen_ok, run_getM hb, K.chk _ a ha, run_find K ha w es.toList kvs hok he, hf, hx, Option.map_some, Option.getD_some, hxk, run_stays (K.same a ha), run_setM _ hb, Sem.run_pure, goInt]
    · have hsame : (es.modify i fun e => { e with key := enc a }) = es := by
        apply Array.ext_getElem?
        intro k
        rw [Array.getElem?_modify]
        split
        · rename_i e; subst e
          rw [hx]; simp [← hxk]
        · rfl
      rw [hsame]
      have hsu : updA kvs a u = kvs := by
        rw [← hs u]
        apply List.ext_getElem?
        intro k
        rw [List.getElem?_set]
        split
        · rename_i e; subst e
          rw [if_pos (List.getElem?_eq_some_iff.1 hj).1, hj]
        · rfl
      have := hK x.born _ (set_only w.heap r (.map es clock) hlt).2 (by rw [hl]; show MapAt enc ok _ r (updA kvs a u); rw [hsu]; exact ⟨⟨_, _, (set_only _ _ _ hlt).1, he, hn, hc⟩, hk, hok⟩) (store es clock kvs i x.born _ (set_only _ _ _ hlt).2 (set_only _ _ _ hlt).1 he hn hc (by rw [hx]; rfl) ⟨u, hj⟩ hs)
      rw [hl] at this; exact this
/-- .. at once -/
theorem semK_entry {mt kt et : TypeId} {enc : α → Value} {ok : α → Prop} {z : Value} (K : Keyed P kt enc ok) (hm : P.underlying mt = some (.map kt et)) (hz : (P.info? et).bind (·.zero) = some z) {h : Heap} {r : Nat} {kvs : List (α × Value)} (m : MapAt enc ok h r kvs) {a : α} (ha : ok a) {Kk : Value → Heap → Prop}
    (hK : ∀ (n : Nat) h1, Only r h h1 → MapAt enc ok h1 r (updA kvs a ((lookA kvs a).getD z)) → (∀ v (Ku : Heap → Prop), (∀ h', MapAt enc ok h' r (updA kvs a v) → Only r h h' → Ku h') → semU P (Instr.entryStore mt (.map (some r)) (.int .i64 n) v) h1 Ku) → Kk (.tuple #[(lookA kvs a).getD z, .int .i64 n]) h1) :
    semK P (Instr.mapEntry mt (.map (some r)) (enc a)) h Kk :=
  semK_entry2 K hm hz m ha fun n h1 o1 m1 st => hK n h1 o1 m1 fun v Ku hKu => st h1 rfl v Ku fun h' m' o' => hKu h' m' (o1.trans o')
end Go.Vc
