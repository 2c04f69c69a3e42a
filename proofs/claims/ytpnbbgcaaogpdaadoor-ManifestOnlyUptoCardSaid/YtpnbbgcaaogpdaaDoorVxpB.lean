import Derived.Test.YtpnbbgcaaogpdaaDoorVxpA

namespace Go.Vc
set_option linter.unusedVariables false
set_option linter.unusedSimpArgs false
variable {P : Program}
def markD (b : Nat) : Deferred := { target := .collected b, args := #[] }
/-- what a round of the loop l must leave -/
def roundQ (l : Nat) (rec_ : LoopState → Option Code → Obj) (R : Value → Heap → Prop) : Ex → Env → Heap → Prop
  | .normal, _, h => h[l]? = some (rec_ .busy none) ∧ ∀ h', h' = h.setIfInBounds l (rec_ .ready none) → R (.bool true) h'
  | .ret, _, h => h[l]? = some (rec_ .busy none) ∧ ∀ h', h' = h.setIfInBounds l (rec_ .done (some .ret)) → R (.bool false) h'
  | .exit i, _, h => h[l]? = some (rec_ .busy none) ∧ ∀ h', h' = h.setIfInBounds l (rec_ .done (some (.exit i))) → R (.bool false) h'
  | .goto _, _, _ => False
/-- a round: the loop's variables are set; then the body -/
def vcRound (P : Program) (A : Ann) (l : Nat) (rec_ : LoopState → Option Code → Obj) (asg body : Code) (e : Env) (h : Heap) (R : Value → Heap → Prop) : Prop :=
  h[l]? = some (rec_ .ready none) ∧ vcS P A.calm asg none (fun x e1 h1 => match x with
    | .normal => h1[l]? = some (rec_ .ready none) ∧ ∀ h2, h2 = h1.setIfInBounds l (rec_ .busy none) → vcS P A.calm body none (roundQ l rec_ R) e1 h2
    | _ => False) e h
/-- what a loop left behind -/
def pendQ (pd : Option Code) (n r : Prop) (x : Nat → Prop) : Prop := match pd with
  | none => n
  | some .ret => r
  | some (.exit i) => x i
  | _ => False
def selQ (b : Bool) (p q : Prop) : Prop := match b with
  | true => p
  | false => q
def noCells (o : Obj) : Prop := ∀ c t fr, o ≠ .cells c t fr
def vcRange (P : Program) (A : Ann) (g : Operand) (ps : Array Tmp) (asg body : Code) (Q : Ex → List Nat → Env → Heap → Prop) (ms : List Nat) (e : Env) (h : Heap) : Prop :=
  match opv e g, ann A.rngs (firstRegion body) with
  | some v, some sl => fnG A.fns g v fun u => match u with
    | .func (.func f) first captured => match decide (sl.map Prod.fst = ps.toList) with
      | true => ∀ (rec_ : LoopState → Option Code → Obj) (b l : Nat) (h1 : Heap), b = h.size → l = h.size + 1 → Ext h h1 → h1[b]? = some (.deferred (some [])) → h1[l]? = some (rec_ .ready none) → (∀ st pd, noCells (rec_ st pd)) →
        (allIn sl e fun e1 => match opvs e1 (ps.toList.map .tmp) with
          | some vs => ∀ (h2 : Heap) (R : Value → Heap → Prop), vcRound P A l rec_ asg body e1 h2 R → HYield P l vs.toArray h2 R
          | none => True) →
        HEnt P f (first.toList ++ [Value.func (.yield l) #[] #[]] ++ captured.toList).toArray h1 fun _ h3 => ∃ st pd, h3[l]? = some (rec_ st pd) ∧ st ≠ .busy ∧ ∀ h4, h4 = h3.setIfInBounds l (rec_ .exhausted pd) → pendQ pd (Q .normal (b :: ms) e h4) (Q .ret (b :: ms) e h4) (fun i => Q (.exit i) (b :: ms) e h4)
      | false => False
    | _ => False
  | _, _ => False
def hasR : Code → Bool
  | .rangeFunc _ _ _ _ => true
  | .seq a b => hasR a || hasR b
  | .block _ b => hasR b
  | .cond _ a b => hasR a || hasR b
  | _ => false
/-- the conditions of code that holds ranges over functions; the marks of the loops that it has entered -/
def vcT (P : Program) (A : Ann) : Code → (Ex → List Nat → Env → Heap → Prop) → List Nat → Env → Heap → Prop
  | .rangeFunc g ps asg body, Q, ms, e, h => vcRange P A g ps asg body Q ms e h
  | .seq a b, Q, ms, e, h => match hasR (.seq a b) with
    | true => vcT P A a (fun x ms' e' h' => match x with
      | .normal => vcT P A b Q ms' e' h'
      | x => Q x ms' e' h') ms e h
    | false => vcS P A.calm (.seq a b) none (fun x e' h' => Q x ms e' h') e h
  | .block id b, Q, ms, e, h => match hasR b with
    | true => vcT P A b (fun x ms' e' h' => match x with
      | .exit i => selQ (Nat.beq i id) (Q .normal ms' e' h') (Q (.exit i) ms' e' h')
      | x => Q x ms' e' h') ms e h
    | false => vcS P A.calm (.block id b) none (fun x e' h' => Q x ms e' h') e h
  | .cond c a b, Q, ms, e, h => match hasR (.cond c a b) with
    | true => match opv e c with
      | some (.bool t) => br t (vcT P A a Q ms e h) (vcT P A b Q ms e h)
      | _ => False
    | false => vcS P A.calm (.cond c a b) none (fun x e' h' => Q x ms e' h') e h
  | c, Q, ms, e, h => vcS P A.calm c none (fun x e' h' => Q x ms e' h') e h
def drawsT (A : Ann) : Code → Bool
  | .rangeFunc _ ps asg body => (drawsOk A asg && drawsOk A body && plainC asg && plainC body) && decide ps.toList.Nodup
  | .seq a b => match hasR (.seq a b) with
    | true => drawsT A a && drawsT A b
    | false => drawsOk A (.seq a b)
  | .block id b => match hasR b with
    | true => drawsT A b
    | false => drawsOk A (.block id b)
  | .cond c a b => match hasR (.cond c a b) with
    | true => drawsT A a && drawsT A b
    | false => drawsOk A (.cond c a b)
  | c => drawsOk A c
def writesT : Code → List Nat
  | .seq a b => writesT a ++ writesT b
  | .block _ b => writesT b
  | .cond _ a b => writesT a ++ writesT b
  | .rangeFunc _ _ _ _ => []
  | c => writes c
structure SetIn (l : List (Nat × Sh)) (e e1 : Env) : Prop where
  len : e1.length = e.length
  get : ∀ n, n ∉ l.map Prod.fst → Env.get e1 n = Env.get e n
theorem allIn_intro : ∀ (l : List (Nat × Sh)) {e : Env} {f : Env → Prop}, (∀ e1, SetIn l e e1 → f e1) → allIn l e f
  | [], e, f, h => by simp only [allIn, withEnv_eq]; exact h e ⟨rfl, fun _ _ => rfl⟩
  | (d, sh) :: r, e, f, h => by
    have step : ∀ v, allIn r (Env.set e d v) f := fun v => allIn_intro r fun e1 s => h e1 ⟨s.len, fun n hn => by
      simp only [List.map_cons, List.mem_cons, not_or] at hn
      rw [s.get n hn.2, Env.get_set_ne _ _ _ _ (fun e => hn.1 e.symm)]⟩
    cases sh <;> simp only [allIn] <;> intros <;> exact step _
def AnswersT (w0 : World) (a0 : Act) (W : List Nat) (Qv : Ex → List Nat → Env → Heap → Prop) (Q : Exit → Act → World → Prop) : Prop :=
  ∀ x ex ms e a w, exOf ex = some x → Agree e a.tmps → Qv x ms e w.heap → Kin w0 w → a.defers = ms.map markD → Off W a0 a → Q ex a w
theorem putObj_kin (w : World) (r : Nat) (o : Obj) : Kin w (w.putObj r o) := ⟨rfl, rfl, rfl⟩
theorem foldl_get : ∀ (l : List (Nat × Value)) (t : Array Value) (n : Nat), n ∉ l.map Prod.fst → (l.foldl (fun (t : Array Value) (p : Nat × Value) => t.setIfInBounds p.1 p.2) t).getD n undef = t.getD n undef
  | [], t, n, _ => rfl
  | (d, v) :: r, t, n, h => by
    simp only [List.map_cons, List.mem_cons, not_or] at h
    simp only [List.foldl_cons]
    rw [foldl_get r _ n h.2]
    simp only [Array.getD_eq_getD_getElem?]
    rw [Array.getElem?_setIfInBounds_ne (fun e => h.1 e.symm)]
theorem foldl_size : ∀ (l : List (Nat × Value)) (t : Array Value), (l.foldl (fun (t : Array Value) (p : Nat × Value) => t.setIfInBounds p.1 p.2) t).size = t.size
  | [], t => rfl
  | (d, v) :: r, t => by simp only [List.foldl_cons]; rw [foldl_size r]; simp
theorem foldl_mem : ∀ (l : List (Nat × Value)) (t : Array Value) (n : Nat) (v : Value), (l.map Prod.fst).Nodup → (n, v) ∈ l → n < t.size → (l.foldl (fun (t : Array Value) (p : Nat × Value) => t.setIfInBounds p.1 p.2) t).getD n undef = v
  | [], t, n, v, _, h, _ => by cases h
  | (d, u) :: r, t, n, v, hn, h, hl => by
    simp only [List.map_cons, List.nodup_cons] at hn
    simp only [List.foldl_cons]
    rcases List.mem_cons.1 h with h | h
    · cases h
      rw [foldl_get r _ _ hn.1]
      simp only [Array.getD_eq_getD_getElem?]
      rw [Array.getElem?_setIfInBounds_self_of_lt hl]; rfl
    · exact foldl_mem r _ n v hn.2 h (by simpa using hl)

theorem opvs_tmps {e : Env} : ∀ {l : List Nat} {vs : List Value}, opvs e (l.map .tmp) = some vs → vs.length = l.length ∧ ∀ (i d : Nat) (v : Value), l[i]? = some d → vs[i]? = some v → Env.get e d = some v
  | [], vs, h => by simp [opvs] at h; subst h; exact ⟨rfl, fun i d v h => by simp at h⟩
  | d :: l, vs, h => by
    simp only [List.map_cons, opvs] at h
    split at h
    · rename_i v vs' hv hvs
      obtain rfl := Option.some.inj h
      obtain ⟨h1, h2⟩ := opvs_tmps hvs
      refine ⟨by simp [h1], fun i d' v' hd hv' => ?_⟩
      cases i with
      | zero => simp at hd hv'; subst hd; subst hv'; exact hv
      | succ i => exact h2 i d' v' (by simpa using hd) (by simpa using hv')
    · cases h
theorem agree_params {e e1 : Env} {t : Array Value} {sl : List (Nat × Sh)} {ps : List Nat} {vs : List Value} (hA : Agree e t) (s : SetIn sl e e1) (hps : sl.map Prod.fst = ps) (hn : ps.Nodup) (hv : opvs e1 (ps.map .tmp) = some vs) :
    Agree e1 ((ps.zip vs).foldl (fun (t : Array Value) (p : Nat × Value) => t.setIfInBounds p.1 p.2) t) := by
  obtain ⟨hlen, hget⟩ := opvs_tmps hv
  have hz : (ps.zip vs).map Prod.fst = ps := by rw [List.map_fst_zip]; omega
  refine ⟨by rw [s.len, hA.1, foldl_size], fun n v hg => ?_⟩
  by_cases hm : n ∈ ps
  · obtain ⟨i, hi⟩ := List.getElem?_of_mem hm
    have hlt := (List.getElem?_eq_some_iff.1 hi).1
    have hvi : vs[i]? = some (vs[i]'(by omega)) := List.getElem?_eq_getElem (by omega)
    have hg2 := hget i n _ hi hvi
    rw [hg] at hg2
    have hlt2 := Env.get_lt hg
    refine foldl_mem _ t n v (by rw [hz]; exact hn) ?_ (by rw [← hA.1, ← s.len]; exact hlt2)
    rw [List.mem_iff_getElem?]
    refine ⟨i, ?_⟩
    rw [List.getElem?_zip_eq_some]
    exact ⟨hi, by rw [hvi, ← Option.some.inj hg2]⟩
  · rw [foldl_get _ _ _ (by rw [hz]; exact hm)]
    refine hA.2 n v ?_
    rw [← s.get n (by rw [hps]; exact hm)]; exact hg

theorem vcRound_sound {A : Ann} (hm : P.follows .mixedOrders = true) {l : Nat} {r0 : Loop} {ps : List Nat} {sl : List (Nat × Sh)} {e e1 : Env} {vs : List Value} {h : Heap} {R : Value → Heap → Prop}
    (hpa : plainC r0.assign = true) (hpb : plainC r0.body = true) (hda : drawsOk A.calm r0.assign = true) (hdb : drawsOk A.calm r0.body = true) (hps : r0.params.toList = ps) (hn : ps.Nodup) (hsl : sl.map Prod.fst = ps)
    (hA : Agree e r0.tmps) (s : SetIn sl e e1) (hv : opvs e1 (ps.map .tmp) = some vs)
    (H : vcRound P A l (fun st pd => .loop { r0 with state := st, pending := pd }) r0.assign r0.body e1 h R) : HYield P l vs.toArray h R := by
  intro w hw
  obtain ⟨hl, H⟩ := H
  have hlen := (opvs_tmps hv).1
  have hA1 := agree_params hA s hsl hn hv
  have hy := run_yield (P := P) (w := w) (l := l) (r := { r0 with state := .ready, pending := none }) (args := vs.toArray) (by rw [hw]; exact hl) (by simp [hlen, ← hps])
  have hfold : ((r0.params.zip vs.toArray).foldl (fun (tmps : Array Value) (x : Tmp × Value) => match x with | (t, a) => tmps.setIfInBounds t a) r0.tmps) = (ps.zip vs).foldl (fun (t : Array Value) (p : Nat × Value) => t.setIfInBounds p.1 p.2) r0.tmps := by
    rw [← Array.foldl_toList, Array.toList_zip, hps]
  refine ⟨_, _, _, _, hy, ?_⟩
  simp only
  rw [hfold]
  refine roundIn_of_wpIn (F := Fence.wide) trivial ?_
  refine vcI_sound (ro := some l) (D := []) (A := A.calm) hm rfl (fun _ hp => hp) r0.assign hpa hda hA1 hw rfl ?_ (fun ⟨_, _, h⟩ => h) H
  intro x ex ea a1 w1 hx ga gk gkin gd _
  cases ex <;> simp only [exOf, Option.some.injEq, reduceCtorEq] at hx <;> subst hx
  case normal =>
    obtain ⟨hl1, hk⟩ := gk
    refine ⟨_, run_beginRound (r := { r0 with state := .ready, pending := none }) hl1 rfl, ?_⟩
    refine vcI_sound (ro := some l) (D := []) (A := A.calm) hm rfl (fun _ hp => hp) r0.body hpb hdb ga rfl gd ?_ (fun ⟨_, _, h⟩ => h) (hk _ rfl)
    intro x ex eb a2 w2 hx kb kk kkin kd _
    have kin2 : Kin w w2 := (gkin.trans (putObj_kin w1 l _)).trans kkin
    cases ex <;> simp only [exOf, Option.some.injEq, reduceCtorEq] at hx <;> subst hx
    case normal =>
      obtain ⟨hb, hR⟩ := kk
      exact ⟨_, _, run_endRound (r := { r0 with state := .busy, pending := none }) none hb, _, rfl, kin2.trans (putObj_kin _ _ _), hR _ rfl⟩
    case ret =>
      obtain ⟨hb, hR⟩ := kk
      exact ⟨_, _, run_endRound (r := { r0 with state := .busy, pending := none }) (some .ret) hb, _, rfl, kin2.trans (putObj_kin _ _ _), hR _ rfl⟩
    case exit i =>
      obtain ⟨hb, hR⟩ := kk
      exact ⟨_, _, run_endRound (r := { r0 with state := .busy, pending := none }) (some (.exit i)) hb, _, rfl, kin2.trans (putObj_kin _ _ _), hR _ rfl⟩
    case goto t => exact kk.elim
  all_goals exact gk.elim
end Go.Vc
