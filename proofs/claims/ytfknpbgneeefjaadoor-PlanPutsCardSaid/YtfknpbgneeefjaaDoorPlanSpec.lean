import Derived.Test.YtfknpbgneeefjaaDoorPacks
import Derived.Test.YtfknpbgneeefjaaDoorManT

namespace Go.Plan
open Go.Vc Go.Sha Go.Trail Go.Packs Go.Man
set_option linter.unusedVariables false
structure OpV where
  kind : Int
  root : Int
  name : ByteArray
  ver : ByteArray
  refs : List RefV
def opC (o : OpV) : Nat :=
  if o.kind < 1 ∨ o.kind > 3 then 13 else if o.root < 1 ∨ o.root > 6 then 2 else if o.kind = 3 then (if o.ver.size ≠ 0 ∨ o.refs.length ≠ 0 then 5 else if nameP (lst o.name) then 0 else 2) else manC o.name o.ver o.refs
def layV (owner : Int) (o : OpV) : PackV := ⟨owner, o.name, o.ver, o.refs⟩
def chkC (ps : List PackV) : List PackV × Nat := if packsC [] 0 ps = 0 then (ps, 0) else ([], packsC [] 0 ps)
/-- the first of a name -/
def atN (nm : List Nat) : List PackV → Nat → Option (Nat × PackV)
  | [], _ => none
  | p :: t, k => if lst p.name = nm then some (k, p) else atN nm t (k + 1)
def doC (ps : List PackV) (owner : Int) (o : OpV) : List PackV × Nat :=
  if opC o ≠ 0 then ([], opC o) else if packsC [] 0 ps ≠ 0 then ([], packsC [] 0 ps) else if owner < 1 ∨ owner > 8 then ([], 2) else
  match atN (lst o.name) ps 0 with
  | none => if o.kind = 1 then chkC (ps ++ [layV owner o]) else ([], 9)
  | some (k, p) => if o.kind = 1 then ([], 8) else if p.owner ≠ owner then ([], 16) else if o.kind = 3 then (ps.eraseIdx k, 0) else if orderC (lst o.ver) (lst p.ver) ≤ 0 then ([], 14) else chkC (ps.set k (layV owner o))
theorem atN_some : ∀ {ps : List PackV} {nm : List Nat} {k i : Nat} {p : PackV}, atN nm ps k = some (i, p) → ∃ j, i = k + j ∧ ps[j]? = some p ∧ lst p.name = nm ∧ ∀ q ∈ ps.take j, lst q.name ≠ nm
  | [], _, _, _, _, h => by cases h
  | q :: t, nm, k, i, p, h => by
    unfold atN at h
    split at h
    · rename_i e
      obtain ⟨rfl, rfl⟩ := Prod.mk.inj (Option.some.inj h)
      exact ⟨0, rfl, rfl, e, by simp⟩
    · rename_i e
      obtain ⟨j, e1, e2, e3, e4⟩ := atN_some h
      refine ⟨j + 1, by omega, by simpa using e2, e3, fun r hr => ?_⟩
      rw [List.take_succ_cons] at hr
      rcases List.mem_cons.1 hr with rfl | hr
      · exact e
      · exact e4 r hr
theorem atN_none : ∀ {ps : List PackV} {nm : List Nat} {k : Nat}, atN nm ps k = none → ∀ q ∈ ps, lst q.name ≠ nm
  | [], _, _, _ => by simp
  | q :: t, nm, k, h => by
    unfold atN at h
    split at h
    · cases h
    · rename_i e
      intro r hr
      rcases List.mem_cons.1 hr with rfl | hr
      · exact e
      · exact atN_none h r hr
/-- fewer names ahead, fewer layers ahead -/
theorem packsC_less : ∀ (ps : List PackV) {s s' : List (List Nat)} {n n' : Nat}, packsC s n ps = 0 → (∀ x ∈ s', x ∈ s) → n' ≤ n → packsC s' n' ps = 0
  | [], _, _, _, _, _, _, _ => rfl
  | p :: t, s, s', n, n', h, hs, hn => by
    unfold packsC at h ⊢
    split at h
    · cases h
    · rename_i h1
      rw [if_neg h1]
      split at h
      · rename_i h2; exact absurd h h2
      · rename_i h2
        rw [if_neg h2]
        split at h
        · cases h
        · rename_i h3
          rw [if_neg (fun e => h3 (hs _ e))]
          split at h
          · cases h
          · rename_i h4
            rw [if_neg (by omega)]
            refine packsC_less t h (fun x hx => ?_) (by omega)
            rcases List.mem_append.1 hx with hx | hx
            · exact List.mem_append_left _ (hs x hx)
            · exact List.mem_append_right _ hx
theorem packsC_cons {s : List (List Nat)} {n : Nat} {p : PackV} {t : List PackV} : packsC s n (p :: t) = 0 ↔ (1 ≤ p.owner ∧ p.owner ≤ 8) ∧ manC p.name p.ver p.refs = 0 ∧ lst p.name ∉ s ∧ n + p.refs.length ≤ 16 ∧ packsC (s ++ [lst p.name]) (n + p.refs.length) t = 0 := by
  constructor
  · intro h
    unfold packsC at h
    split at h
    · cases h
    · rename_i h1
      split at h
      · rename_i h2; exact absurd h h2
      · rename_i h2
        split at h
        · cases h
        · rename_i h3
          split at h
          · cases h
          · rename_i h4
            exact ⟨by omega, by omega, h3, by omega, h⟩
  · rintro ⟨h1, h2, h3, h4, h5⟩
    unfold packsC
    rw [if_neg (by omega), if_neg (by omega), if_neg h3, if_neg (by omega), h5]
theorem packsC_erase : ∀ (ps : List PackV) {s : List (List Nat)} {n : Nat} (k : Nat), packsC s n ps = 0 → packsC s n (ps.eraseIdx k) = 0
  | [], _, _, _, _ => by simp [packsC]
  | p :: t, s, n, 0, h => by
    obtain ⟨_, _, _, _, h5⟩ := packsC_cons.1 h
    exact packsC_less t h5 (fun x hx => List.mem_append_left _ hx) (by omega)
  | p :: t, s, n, k + 1, h => by
    obtain ⟨h1, h2, h3, h4, h5⟩ := packsC_cons.1 h
    rw [List.eraseIdx_cons_succ]
    exact packsC_cons.2 ⟨h1, h2, h3, h4, packsC_erase t k h5⟩
theorem packsC_names : ∀ (ps : List PackV) {s : List (List Nat)} {n : Nat}, packsC s n ps = 0 → (ps.map fun p => lst p.name).Nodup ∧ (∀ p ∈ ps, lst p.name ∉ s)
  | [], _, _, _ => by simp
  | p :: t, s, n, h => by
    obtain ⟨h1, h2, h3, h4, h5⟩ := packsC_cons.1 h
    obtain ⟨g1, g2⟩ := packsC_names t h5
    refine ⟨?_, fun q hq => ?_⟩
    · rw [List.map_cons, List.nodup_cons]
      refine ⟨fun hm => ?_, g1⟩
      obtain ⟨q, hq, e⟩ := List.mem_map.1 hm
      exact g2 q hq (by rw [e]; simp)
    · rcases List.mem_cons.1 hq with rfl | hq
      · exact h3
      · exact fun hm => g2 q hq (List.mem_append_left _ hm)
theorem manC_pos {name ver : ByteArray} {rs : List RefV} (h : manC name ver rs = 0) : 1 ≤ rs.length ∧ rs.length ≤ 8 ∧ nameP (lst name) ∧ nameP (lst ver) := by
  unfold manC at h
  split at h
  · cases h
  · rename_i h1
    split at h
    · cases h
    · split at h
      · cases h
      · exact ⟨by omega, by omega, Classical.byContradiction fun e => h1 (.inl e), Classical.byContradiction fun e => h1 (.inr e)⟩
theorem packsC_each : ∀ (ps : List PackV) {s : List (List Nat)} {n : Nat}, packsC s n ps = 0 → n + ps.length ≤ 16 ∨ ps = [] 
  | [], _, _, _ => .inr rfl
  | p :: t, s, n, h => by
    obtain ⟨h1, h2, h3, h4, h5⟩ := packsC_cons.1 h
    have := (manC_pos h2).1
    refine .inl ?_
    rcases packsC_each t h5 with g | g
    · simp only [List.length_cons]; omega
    · rw [g]; simp only [List.length_cons, List.length_nil]; omega
theorem packsC_mem : ∀ (ps : List PackV) {s : List (List Nat)} {n : Nat}, packsC s n ps = 0 → ∀ p ∈ ps, manC p.name p.ver p.refs = 0
  | [], _, _, _ => by simp
  | p :: t, s, n, h => by
    obtain ⟨h1, h2, h3, h4, h5⟩ := packsC_cons.1 h
    intro q hq
    rcases List.mem_cons.1 hq with rfl | hq
    · exact h2
    · exact packsC_mem t h5 q hq
/-- the other ones bear other names -/
theorem names_ne {ps : List PackV} (h : (ps.map fun p => lst p.name).Nodup) {i j : Nat} {p q : PackV} (hi : ps[i]? = some p) (hj : ps[j]? = some q) (e : lst p.name = lst q.name) : i = j := by
  have g1 := (List.getElem?_eq_some_iff.1 hi).1
  have g2 := (List.getElem?_eq_some_iff.1 hj).1
  have a1 : (ps.map fun p => lst p.name)[i]? = some (lst p.name) := by rw [List.getElem?_map, hi]; rfl
  have a2 : (ps.map fun p => lst p.name)[j]? = some (lst q.name) := by rw [List.getElem?_map, hj]; rfl
  rw [← e] at a2
  exact (List.getElem?_inj (by simpa using g1) h).1 (a1.trans a2.symm)
end Go.Plan
