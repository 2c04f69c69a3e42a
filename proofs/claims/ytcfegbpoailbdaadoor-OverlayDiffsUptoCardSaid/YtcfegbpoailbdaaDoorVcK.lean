import Derived.Test.YtcfegbpoailbdaaDoorVcJ

namespace Go.Vc
set_option linter.unusedVariables false
variable {P : Program}

def resVs (P : Program) : List ResultVar → Env → Heap → (List Value → Prop) → Prop
  | [], _, _, f => f []
  | .tmp t :: r, e, h, f => match Env.get e t with
    | some v => resVs P r e h fun vs => f (v :: vs)
    | none => False
  | .cell p t :: r, e, h, f => match Env.get e p with
    | some (.pointer (some ad)) => ldK P t h ad fun u => match u with
      | some v => resVs P r e h fun vs => f (v :: vs)
      | none => False
    | _ => False
def retV (R : Value → Heap → Prop) (h : Heap) : List Value → Prop
  | [v] => R v h
  | vs => R (.tuple vs.toArray) h
def bodyQ (P : Program) (rs : List ResultVar) (R : Value → Heap → Prop) : Ex → Env → Heap → Prop
  | .normal, e, h => resVs P rs e h (retV R h)
  | .ret, e, h => resVs P rs e h (retV R h)
  | _, _, _ => False
def startL : List Value → Nat → List (Nat × Option Value)
  | [], _ => []
  | v :: r, i => (i, some v) :: startL r (i + 1)
def start (args : List Value) (n : Nat) : Env := ⟨args.length + (n - args.length), startL args 0⟩

theorem startL_find : ∀ (args : List Value) (k i : Nat) (v : Value), Env.find (startL args k) i = some v → (∃ j, i = k + j ∧ args[j]? = some v) ∨ ((i < k ∨ k + args.length ≤ i) ∧ v = undef)
  | [], k, i, v, h => by
    simp only [startL, Env.find, Option.some.injEq] at h
    exact .inr ⟨by simp; omega, h.symm⟩
  | a :: r, k, i, v, h => by
    unfold startL Env.find at h
    split at h
    · rename_i hb
      obtain rfl := Nat.eq_of_beq_eq_true hb
      exact .inl ⟨0, rfl, by simpa using h⟩
    · rename_i hb
      rcases startL_find r (k + 1) i v h with ⟨j, e, hj⟩ | ⟨hlt, hv⟩
      · exact .inl ⟨j + 1, by omega, by simpa using hj⟩
      · refine .inr ⟨?_, hv⟩
        have : k ≠ i := fun e => by subst e; simp at hb
        simp; omega
theorem start_agree (args : Array Value) (n : Nat) : Agree (start args.toList n) (args ++ Array.replicate (n - args.size) undef) := by
  refine ⟨by simp [start], fun i v h => ?_⟩
  have hlt := Env.get_lt h
  rw [Env.get_of_lt hlt] at h
  rcases startL_find _ _ _ _ h with ⟨j, e, hj⟩ | ⟨h1, hv⟩
  · rw [Nat.zero_add] at e
    subst e
    obtain ⟨hl, he⟩ := List.getElem?_eq_some_iff.1 hj
    have hl' : i < args.size := by simpa using hl
    simp only [Array.getD_eq_getD_getElem?]
    rw [Array.getElem?_append_left hl', Array.getElem?_eq_getElem hl']
    simpa using he
  · subst hv
    have hge : args.size ≤ i := by
      rcases h1 with h1 | h1
      · omega
      · simpa using h1
    simp only [Array.getD_eq_getD_getElem?]
    rw [Array.getElem?_append_right hge]
    simp only [Array.getElem?_replicate]
    split <;> rfl

def resF (t : Array Value) : ResultVar → Sem Value
  | .tmp i => pure (t.getD i undef)
  | .cell p ty => do loadVar ty (← asAddr (t.getD p undef))
theorem results_eq (fn : Func) (t : Array Value) : results fn t = (do
    let vs ← fn.results.mapM (resF t)
    pure (if h : vs.size = 1 then vs[0] else .tuple vs)) := rfl

theorem resVs_sound {h : Heap} {e : Env} {a : Act} {w : World} (hA : Agree e a.tmps) (hw : w.heap = h) : ∀ (rs : List ResultVar) {f : List Value → Prop}, resVs P rs e h f →
    ∃ vs, f vs ∧ (rs.mapM (resF a.tmps)).run P w = .ok vs w
  | [], f, H => ⟨[], H, by simp⟩
  | .tmp t :: r, f, H => by
    simp only [resVs] at H
    split at H
    case h_2 => exact H.elim
    rename_i v hv
    obtain ⟨vs, hf, hr⟩ := resVs_sound hA hw r H
    refine ⟨v :: vs, hf, ?_⟩
    have h1 : (resF a.tmps (.tmp t)).run P w = .ok v w := by simp [resF, hA.2 t v hv]
    simp only [List.mapM_cons, Sem.run_bind, h1, Sem.run_pure, Result.andThen_ok, hr]
  | .cell p t :: r, f, H => by
    simp only [resVs] at H
    split at H
    case h_2 => exact H.elim
    rename_i ad hp
    obtain ⟨v, hk, hl⟩ := run_ld H
    simp only at hk
    obtain ⟨vs, hf, hr⟩ := resVs_sound hA hw r hk
    refine ⟨v :: vs, hf, ?_⟩
    have hl' := hl w (hw ▸ Ext.refl _)
    have h1 : (resF a.tmps (.cell p t)).run P w = .ok v w := by simp [resF, hA.2 p _ hp, asAddr, hl']
    simp only [List.mapM_cons, Sem.run_bind, h1, Sem.run_pure, Result.andThen_ok, hr]

theorem results_sound {fn : Func} {h : Heap} {e : Env} {a : Act} {w : World} {R : Value → Heap → Prop} (hA : Agree e a.tmps) (hw : w.heap = h) (H : resVs P fn.results.toList e h (retV R h)) :
    ∃ v, (results fn a.tmps).run P w = .ok v w ∧ R v w.heap := by
  obtain ⟨vs, hf, hr⟩ := resVs_sound hA hw _ H
  subst hw
  have hm : (fn.results.mapM (resF a.tmps)).run P w = .ok vs.toArray w := by
    rw [Array.mapM_eq_mapM_toList, Sem.run_map, hr]
    rfl
  refine ⟨if h : vs.toArray.size = 1 then vs.toArray[0] else .tuple vs.toArray, ?_, ?_⟩
  · rw [results_eq, Sem.run_bind, hm]
    rfl
  · match vs, hf with
    | [], hf => exact hf
    | [v], hf => exact hf
    | v :: u :: r, hf => rw [dif_neg (by simp)]; exact hf

/-- nothing panics -/
@[reducible] def Ann.calm (A : Ann) : Ann := { A with pans := none, pan := fun _ => False, yld := false }
/-- a panic goes out so -/
@[reducible] def Ann.out (A : Ann) (Rp : Heap → Prop) : Ann := { A with pan := Rp, yld := false }
theorem hent {f : FuncId} {fn : Func} {c : Code} {args : Array Value} {h : Heap} {R : Value → Heap → Prop} (A : Ann) (hm : P.follows .mixedOrders = true) (hf : P.funcs[f]? = some fn) (hb : fn.body = some c) (hn : (fn.name == "runtime.NumGoroutine") = false)
    (hok : drawsOk A.calm c = true) (H : vc P A.calm c (bodyQ P fn.results.toList R) (start args.toList fn.ntmps) h) : HEnt P f args h R := by
  refine HEnt.of_body hf (by rw [hb]; rfl) hn ?_
  intro w hw
  refine calls_of_wp hf hb ?_
  refine vc_sound (A := A.calm) (D := []) hm rfl c hok (start_agree args fn.ntmps) hw rfl ?_ (fun _ _ _ _ hp => hp.elim) H
  intro x ex e a w' hx hA hQ hk hd _
  cases ex <;> simp only [exOf, Option.some.injEq, reduceCtorEq] at hx <;> subst hx
  · obtain ⟨v, hr, hR⟩ := results_sound (fn := fn) hA rfl hQ
    exact ⟨hd, v, hr, v, rfl, hk, hR⟩
  · exact hQ.elim
  · exact hQ.elim
  · obtain ⟨v, hr, hR⟩ := results_sound (fn := fn) hA rfl hQ
    exact ⟨hd, v, hr, v, rfl, hk, hR⟩
/-- The contract of a function that may panic. -/
theorem hentP {f : FuncId} {fn : Func} {c : Code} {args : Array Value} {h : Heap} {R : Value → Heap → Prop} {Rp : Heap → Prop} (A : Ann) (hm : P.follows .mixedOrders = true) (hf : P.funcs[f]? = some fn) (hb : fn.body = some c) (hn : (fn.name == "runtime.NumGoroutine") = false)
    (hok : drawsOk (A.out Rp) c = true) (H : vc P (A.out Rp) c (bodyQ P fn.results.toList R) (start args.toList fn.ntmps) h) : HCallsP P f args h R Rp := by
  refine HCallsP.of_body hf (by rw [hb]; rfl) hn ?_
  intro w hw
  refine calls_of_wp hf hb ?_
  refine vc_sound (A := A.out Rp) (D := []) hm rfl c hok (start_agree args fn.ntmps) hw rfl ?_ (fun ch a w' hc hp hk hd _ => ⟨hd, .inr ⟨ch, rfl, hc, hk, hp⟩⟩) H
  intro x ex e a w' hx hA hQ hk hd _
  cases ex <;> simp only [exOf, Option.some.injEq, reduceCtorEq] at hx <;> subst hx
  · obtain ⟨v, hr, hR⟩ := results_sound (fn := fn) hA rfl hQ
    exact ⟨hd, v, hr, .inl ⟨v, rfl, hk, hR⟩⟩
  · exact hQ.elim
  · exact hQ.elim
  · obtain ⟨v, hr, hR⟩ := results_sound (fn := fn) hA rfl hQ
    exact ⟨hd, v, hr, .inl ⟨v, rfl, hk, hR⟩⟩
end Go.Vc
