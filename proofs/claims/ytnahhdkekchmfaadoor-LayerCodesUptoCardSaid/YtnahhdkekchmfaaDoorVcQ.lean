import Derived.Test.YtnahhdkekchmfaaDoorVcK
import Derived.Defers
import Derived.Recover

namespace Go.Vc
set_option linter.unusedVariables false
variable {P : Program}
/-- the deferred closure, behind a panic: it recovers -/
def DefP (P : Program) (g : FuncId) (caps : Array Value) (h : Heap) (R : Heap → Prop) : Prop :=
  ∀ w : World, w.heap = h → (callFunc g caps).run P w = .ok (.enter g caps) w ∧ ∀ t v, CallsD P g caps (.panicking [{ v := .iface t v, recovered := false }]) w fun e u' w' =>
    e = .returned (.tuple #[]) ∧ u' = .panicking [{ v := .iface t v, recovered := true }] ∧ Kin w w' ∧ R w'.heap
/-- .. behind a return: it finds nothing -/
def DefR (P : Program) (g : FuncId) (caps : Array Value) : Prop :=
  ∀ w : World, (callFunc g caps).run P w = .ok (.enter g caps) w ∧ CallsD P g caps .returning w fun e u' w' => e = .returned (.tuple #[]) ∧ u' = .returning ∧ w' = w
def vcD (P : Program) (A : Ann) (rs : List ResultVar) (R : Value → Heap → Prop) (c : Code) (e : Env) (h : Heap) : Prop :=
  match c with
  | .seq (.region _ ops0 false) (.seq (.region _ ops1 false) rest) => vcOps P A.calm ops0.toList ops0.toList e h fun e1 h1 => match ops1.toList with
    | [o1, o2] => match o1.guard, o2.guard, o2.dst with
      | none, none, none => vcPure P A o1 e1 h1 fun v => withEnv (Env.put e1 o1.dst v) fun e2 => match o2.op with
        | .defer c2 => match c2.callee, c2.args.toList with
          | .value f, [] => match opv e2 f with
            | some (.func (.func g) first captured) => ∃ Pp : Heap → Prop, (∀ h', Pp h' → DefP P g (first.toList ++ captured.toList).toArray h' fun h'' => resVs P rs (kills (writes rest) e2) h'' (retV R h'')) ∧
                DefR P g (first.toList ++ captured.toList).toArray ∧ vcS P (A.out Pp) rest none (bodyQ P rs R) e2 h1
            | _ => False
          | _, _ => False
        | _ => False
      | _, _, _ => False
    | _ => False
  | _ => False
theorem kills_agree {W : List Nat} {e : Env} {a a' : Act} (hA : Agree e a.tmps) (ho : Off W a a') : Agree (kills W e) a'.tmps := by
  refine ⟨by rw [kills_length, hA.1, ho.size], fun n v hn => ?_⟩
  obtain ⟨h1, h2⟩ := kills_spec W e n v hn
  rw [ho.get n h2]; exact hA.2 n v h1
def restD : Code → Code
  | .seq _ (.seq _ rest) => rest
  | c => c
/-- The contract of a function that defers a closure. -/
theorem hentD {f : FuncId} {fn : Func} {c : Code} {args : Array Value} {h : Heap} {R : Value → Heap → Prop} (A : Ann) (hm : P.follows .mixedOrders = true) (hf : P.funcs[f]? = some fn) (hb : fn.body = some c) (hn : (fn.name == "runtime.NumGoroutine") = false)
    (hok : ∀ Pp, drawsOk (A.out Pp) (restD c) = true) (H : vcD P A fn.results.toList R c (start args.toList fn.ntmps) h) : HEnt P f args h R := by
  refine HEnt.of_body hf (by rw [hb]; rfl) hn ?_
  intro w hw
  refine calls_of_wp_defers hf hb ?_
  unfold vcD at H
  split at H
  case h_2 => exact H.elim
  rename_i i0 ops0 i1 ops1 rest
  have hW : ∀ (ops : Array Oper), ∀ o ∈ ops.toList, ∀ n, o.dst = some n → n ∈ ops.toList.filterMap (·.dst) := fun ops o ho n hn => List.mem_filterMap.2 ⟨o, ho, hn⟩
  refine wp_seq (wp_region_list (vcOps_sound (A := A.calm) (D := []) (W := ops0.toList.filterMap (·.dst)) ops0.toList (hW ops0) (start_agree args fn.ntmps) hw rfl ?_ (fun _ _ _ _ hp => hp.elim) H))
  intro e1 a1 w1 hA1 H1 hk1 hd1 ho1
  split at H1
  case h_2 => exact H1.elim
  rename_i o1 o2 hops
  split at H1
  case h_2 => exact H1.elim
  rename_i hg1 hg2 hdst
  obtain ⟨v1, H1, hr1⟩ := vcPure_sound hA1 H1
  simp only [withEnv_eq] at H1
  split at H1
  case h_2 => exact H1.elim
  rename_i c2 ho2
  split at H1
  case h_2 => exact H1.elim
  rename_i fo hcal hargs
  split at H1
  case h_2 => exact H1.elim
  rename_i g first captured hfo
  obtain ⟨Pp, hpan, hret, H1⟩ := H1
  have hA2 : Agree (Env.put e1 o1.dst (some v1)) (a1.put o1.dst v1).tmps := hA1.put' o1.dst v1 (.inr rfl)
  refine wp_seq (wp_region_list ?_)
  rw [hops]
  unfold wpList
  rw [if_pos (by simp [Region.wanted, hg1])]
  refine .inl (wp_value (hr1 w1 (Ext.refl _)) ?_)
  unfold wpList
  rw [if_pos (by simp [Region.wanted, hg2])]
  have hcaps : (first.toList ++ captured.toList).toArray = first ++ captured := by apply Array.ext'; simp
  have hd : (execOp (a1.put o1.dst v1).eval o2).run P w1 = .ok (.defer { target := .fn (.func g) captured, args := first }) w1 := by
    have hargs' : c2.args = #[] := by apply Array.ext'; simpa using hargs
    simp [execOp, ho2, resolve, hcal, opv_eval hA2 hfo, Deferred.ofValue, hargs']
  refine .inl ?_
  unfold Oper.wp
  rw [hd]
  simp only [Oper.upon, hdst]
  unfold wpList
  rw [hcaps] at hpan hret
  have hd2 : (a1.put o1.dst v1).defers = [] := by rw [put_defers]; exact hd1
  refine vc_sound (A := A.out Pp) (D := [{ target := .fn (.func g) captured, args := first }]) hm rest (hok Pp) (a := { (a1.put o1.dst v1) with defers := { target := .fn (.func g) captured, args := first } :: (a1.put o1.dst v1).defers }) hA2 rfl (by simp [hd2]) ?_ ?_ H1
  · intro x ex e a w' hx hA hQ hk hd _
    have fin : resVs P fn.results.toList e w'.heap (retV R w'.heap) → Leaves P fn a.tmps (fun e w'' => ∃ v, e = .returned v ∧ Kin w w'' ∧ R v w''.heap) a.defers .returning w' := by
      intro hQ
      obtain ⟨v, hr, hR⟩ := results_sound (fn := fn) hA rfl hQ
      rw [hd]
      obtain ⟨hi, hc⟩ := hret w'
      refine leaves_cons (f := g) (args := first ++ captured) (by simp) (by simpa [invoke] using hi) (hc.mono ?_)
      rintro e u' w'' ⟨rfl, rfl, rfl⟩
      exact ⟨v, hr, v, rfl, hk1.trans hk, hR⟩
    cases ex <;> simp only [exOf, Option.some.injEq, reduceCtorEq] at hx <;> subst hx
    · exact fin hQ
    · exact hQ.elim
    · exact hQ.elim
    · exact fin hQ
  · intro ch a w' hc hp hk hd ho
    obtain ⟨t, v, rfl⟩ := hc
    show Leaves P fn a.tmps _ a.defers (.panicking _) w'
    rw [hd]
    obtain ⟨hi, hc⟩ := hpan _ hp w' rfl
    refine leaves_cons (f := g) (args := first ++ captured) (by simp) (by simpa [invoke] using hi) ((hc t v).mono ?_)
    rintro e u' w'' ⟨rfl, rfl, hk', hR⟩
    obtain ⟨v, hr, hR⟩ := results_sound (fn := fn) (kills_agree (a := a1.put o1.dst v1) hA2 ⟨ho.size, ho.get⟩) rfl hR
    exact ⟨v, hr, v, rfl, (hk1.trans hk).trans hk', hR⟩
end Go.Vc
