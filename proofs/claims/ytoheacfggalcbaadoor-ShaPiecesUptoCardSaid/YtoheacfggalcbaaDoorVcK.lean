/- The verification-condition layer, eleventh part: a function's contract out of the conditions of its body. -/
import Derived.Test.YtoheacfggalcbaaDoorVcJ
namespace Go.Vc
set_option linter.unusedVariables false
variable {P : Program}

def resVs (P : Program) : List ResultVar → Env → Heap → (List Value → Prop) → Prop
  | [], _, _, f => f []
  | .tmp t :: r, e, h, f => match Env.get e t with
    | some v => resVs P r e h fun vs => f (v :: vs)
    | none => False
  | .cell p t :: r, e, h, f => match Env.get e p with
    | some (.pointer (some ad)) => ldK P t h ad fun u => match u with
      | some v => resVs P r e h fun vs => f (v :: vs)
      | none => False
    | _ => False
def retV (R : Value → Heap → Prop) (h : Heap) : List Value → Prop
  | [v] => R v h
  | vs => R (.tuple vs.toArray) h
def bodyQ (P : Program) (rs : List ResultVar) (R : Value → Heap → Prop) : Ex → Env → Heap → Prop
  | .normal, e, h => resVs P rs e h (retV R h)
  | .ret, e, h => resVs P rs e h (retV R h)
  | _, _, _ => False
def blanks : Nat → Env
  | 0 => []
  | n + 1 => some undef :: blanks n
def start (args : List Value) (n : Nat) : Env := args.map some ++ blanks (n - args.length)

theorem blanks_get : ∀ (n i : Nat) (v : Value), Env.get (blanks n) i = some v → v = undef
  | 0, i, v, h => by simp [blanks, Env.get] at h
  | n + 1, 0, v, h => by simp [blanks, Env.get] at h; exact h.symm
  | n + 1, i + 1, v, h => by simp [blanks, Env.get] at h; exact blanks_get n i v h
theorem blanks_len (n : Nat) : (blanks n).length = n := by induction n <;> simp [blanks, *]
theorem start_get : ∀ (args : List Value) (e : Env) (i : Nat) (v : Value), Env.get (args.map some ++ e) i = some v → args[i]? = some v ∨ (args.length ≤ i ∧ Env.get e (i - args.length) = some v)
  | [], e, i, v, h => .inr ⟨Nat.zero_le _, by simpa using h⟩
  | a :: r, e, 0, v, h => .inl (by simpa [Env.get] using h)
  | a :: r, e, i + 1, v, h => by
    simp only [List.map_cons, List.cons_append, Env.get] at h
    rcases start_get r e i v h with h | ⟨h1, h2⟩
    · exact .inl (by simpa using h)
    · exact .inr ⟨by simp; omega, by simpa using h2⟩
theorem start_agree (args : Array Value) (n : Nat) : Agree (start args.toList n) (args ++ Array.replicate (n - args.size) undef) := by
  refine ⟨by simp [start, blanks_len], fun i v h => ?_⟩
  rcases start_get _ _ _ _ h with h | ⟨h1, h2⟩
  · obtain ⟨hlt, he⟩ := List.getElem?_eq_some_iff.1 h
    have hlt' : i < args.size := by simpa using hlt
    simp only [Array.getD_eq_getD_getElem?]
    rw [Array.getElem?_append_left hlt', Array.getElem?_eq_getElem hlt']
    simpa using he
  · have hv := blanks_get _ _ _ h2
    subst hv
    simp only [Array.getD_eq_getD_getElem?]
    rw [Array.getElem?_append_right (by simpa using h1)]
    simp only [Array.getElem?_replicate]
    split <;> rfl

def resF (t : Array Value) : ResultVar → Sem Value
  | .tmp i => pure (t.getD i undef)
  | .cell p ty => do loadVar ty (← asAddr (t.getD p undef))
theorem results_eq (fn : Func) (t : Array Value) : results fn t = (do
    let vs ← fn.results.mapM (resF t)
    pure (if h : vs.size = 1 then vs[0] else .tuple vs)) := rfl

theorem resVs_sound {h : Heap} {e : Env} {a : Act} {w : World} (hA : Agree e a.tmps) (hw : w.heap = h) : ∀ (rs : List ResultVar) {f : List Value → Prop}, resVs P rs e h f →
    ∃ vs, f vs ∧ (rs.mapM (resF a.tmps)).run P w = .ok vs w
  | [], f, H => ⟨[], H, by simp⟩
  | .tmp t :: r, f, H => by
    simp only [resVs] at H
    split at H
    case h_2 => exact H.elim
    rename_i v hv
    obtain ⟨vs, hf, hr⟩ := resVs_sound hA hw r H
    refine ⟨v :: vs, hf, ?_⟩
    have h1 : (resF a.tmps (.tmp t)).run P w = .ok v w := by simp [resF, hA.2 t v hv]
    simp only [List.mapM_cons, Sem.run_bind, h1, Sem.run_pure, Result.andThen_ok, hr]
  | .cell p t :: r, f, H => by
    simp only [resVs] at H
    split at H
    case h_2 => exact H.elim
    rename_i ad hp
    obtain ⟨v, hk, hl⟩ := run_ld H
    simp only at hk
    obtain ⟨vs, hf, hr⟩ := resVs_sound hA hw r hk
    refine ⟨v :: vs, hf, ?_⟩
    have hl' := hl w (hw ▸ Ext.refl _)
    have h1 : (resF a.tmps (.cell p t)).run P w = .ok v w := by simp [resF, hA.2 p _ hp, asAddr, hl']
    simp only [List.mapM_cons, Sem.run_bind, h1, Sem.run_pure, Result.andThen_ok, hr]

theorem results_sound {fn : Func} {h : Heap} {e : Env} {a : Act} {w : World} {R : Value → Heap → Prop} (hA : Agree e a.tmps) (hw : w.heap = h) (H : resVs P fn.results.toList e h (retV R h)) :
    ∃ v, (results fn a.tmps).run P w = .ok v w ∧ R v w.heap := by
  obtain ⟨vs, hf, hr⟩ := resVs_sound hA hw _ H
  subst hw
  have hm : (fn.results.mapM (resF a.tmps)).run P w = .ok vs.toArray w := by
    rw [Array.mapM_eq_mapM_toList, Sem.run_map, hr]
    rfl
  refine ⟨if h : vs.toArray.size = 1 then vs.toArray[0] else .tuple vs.toArray, ?_, ?_⟩
  · rw [results_eq, Sem.run_bind, hm]
    rfl
  · match vs, hf with
    | [], hf => exact hf
    | [v], hf => exact hf
    | v :: u :: r, hf => rw [dif_neg (by simp)]; exact hf

theorem hent {f : FuncId} {fn : Func} {c : Code} {args : Array Value} {h : Heap} {R : Value → Heap → Prop} (A : Ann) (hm : P.follows .mixedOrders = true) (hf : P.funcs[f]? = some fn) (hb : fn.body = some c) (hn : (fn.name == "runtime.NumGoroutine") = false)
    (hok : drawsOk A c = true) (H : vc P A c (bodyQ P fn.results.toList R) (start args.toList fn.ntmps) h) : HEnt P f args h R := by
  refine HEnt.of_body hf (by rw [hb]; rfl) hn ?_
  intro w hw
  refine calls_of_wp hf hb ?_
  refine vc_sound hm c hok (start_agree args fn.ntmps) hw rfl ?_ H
  intro x ex e a w' hx hA hQ hk hd _
  cases ex <;> simp only [exOf, Option.some.injEq, reduceCtorEq] at hx <;> subst hx
  · obtain ⟨v, hr, hR⟩ := results_sound (fn := fn) hA rfl hQ
    exact ⟨hd, v, hr, v, rfl, hk, hR⟩
  · exact hQ.elim
  · exact hQ.elim
  · obtain ⟨v, hr, hR⟩ := results_sound (fn := fn) hA rfl hQ
    exact ⟨hd, v, hr, v, rfl, hk, hR⟩
end Go.Vc
