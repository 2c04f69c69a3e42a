import Derived.Test.YtpnbbgcaaogpdaaDoorVxpB

namespace Go.Vc
set_option linter.unusedVariables false
set_option linter.unusedSimpArgs false
variable {P : Program}
theorem vcRange_sound {A : Ann} (hm : P.follows .mixedOrders = true) {g : Operand} {ps : Array Tmp} {asg body : Code} {Qv : Ex → List Nat → Env → Heap → Prop} {Q : Exit → Act → World → Prop} {ms : List Nat} {e : Env} {h : Heap} {a : Act} {w : World}
    (hok : (drawsOk A.calm asg && drawsOk A.calm body && plainC asg && plainC body) = true) (hn : ps.toList.Nodup) (hA : Agree e a.tmps) (hw : w.heap = h) (hdf : a.defers = ms.map markD) (hQ : AnswersT w a [] Qv Q)
    (H : vcRange P A g ps asg body Qv ms e h) : (Code.rangeFunc g ps asg body).wp P Q a w := by
  simp only [Bool.and_eq_true] at hok
  obtain ⟨⟨⟨hda, hdb⟩, hpa⟩, hpb⟩ := hok
  unfold vcRange at H
  split at H
  case h_2 => exact H.elim
  rename_i fv sl hg hsl
  replace H := fnG_out H
  split at H
  case h_2 => exact H.elim
  rename_i f first captured
  split at H
  case h_2 => exact H.elim
  rename_i hd
  have hd' : sl.map Prod.fst = ps.toList := of_decide_eq_true hd
  refine (wpIn_wide (n := 0)).1 (wpIn_rangeFunc (F := Fence.wide) fun fn _ => ?_)
  have he := run_enterLoop_outer (P := P) (w := w) fn a.tmps ps asg body
  have hev := opv_eval hA hg
  have hw1 : ((w.alloc (.deferred (some []))).alloc (.loop { state := .ready, pending := none, fn, tmps := a.tmps, params := ps, assign := asg, body, defers := w.heap.size })).heap = (h.push (.deferred (some []))).push (.loop { state := .ready, pending := none, fn, tmps := a.tmps, params := ps, assign := asg, body, defers := w.heap.size }) := by
    subst hw; rfl
  have hx : Ext h ((h.push (.deferred (some []))).push (.loop { state := .ready, pending := none, fn, tmps := a.tmps, params := ps, assign := asg, body, defers := w.heap.size })) := (Ext.push _ _).trans (Ext.push _ _)
  have H1 := H (fun st pd => .loop { state := st, pending := pd, fn, tmps := a.tmps, params := ps, assign := asg, body, defers := w.heap.size }) h.size (h.size + 1) _ rfl rfl hx
    (by rw [Array.getElem?_push, if_neg (by simp)]; exact Array.getElem?_push_size) (by
      have := Array.getElem?_push_size (xs := h.push (.deferred (some []))) (x := Obj.loop { state := .ready, pending := none, fn, tmps := a.tmps, params := ps, assign := asg, body, defers := w.heap.size })
      simpa using this) (fun st pd c t fr e => by cases e)
    (allIn_intro sl fun e1 s => by
      split
      · rename_i vs hv
        intro h2 R hr
        exact vcRound_sound (A := A) hm (r0 := { state := .ready, pending := none, fn, tmps := a.tmps, params := ps, assign := asg, body, defers := w.heap.size }) hpa hpb hda hdb rfl hn hd' hA s hv hr
      · trivial)
  obtain ⟨hcall, hC⟩ := H1 _ hw1
  have harr : (first.toList ++ [Value.func (.yield (h.size + 1)) #[] #[]] ++ captured.toList).toArray = first ++ #[Value.func (.yield (h.size + 1)) #[] #[]] ++ captured := by apply Array.ext'; simp
  rw [harr] at hcall hC
  have hsz : w.heap.size = h.size := by rw [hw]
  rw [hsz] at he hcall hC
  obtain ⟨W, hW⟩ : ∃ W, W = ((w.alloc (.deferred (some []))).alloc (.loop { state := .ready, pending := none, fn, tmps := a.tmps, params := ps, assign := asg, body, defers := h.size })) := ⟨_, rfl⟩
  rw [← hW] at he hcall hC
  have hkW : Kin w W := by rw [hW]; exact ⟨rfl, rfl, rfl⟩
  refine ⟨h.size + 1, [markD h.size], W, { target := .fn (.func f) captured, args := first ++ #[Value.func (.yield (h.size + 1)) #[] #[]] }, W, f, first ++ #[Value.func (.yield (h.size + 1)) #[] #[]] ++ captured, W, he, ?_, fun _ _ => trivial, ?_, fun h => (by cases h), callsIn_wide.2 (hC.mono ?_)⟩
  · have hev2 : a.eval (.const (Value.func (.yield (h.size + 1)) #[] #[])) = Value.func (.yield (h.size + 1)) #[] #[] := rfl
    simp [resolve, rangeCall, hev, Deferred.ofValue, hev2]
  · simpa [invoke] using hcall
  rintro en w3 ⟨v, rfl, hk, st, pd, h3, hst, hK⟩
  have hend := run_endLoop (P := P) (w := w3) (l := h.size + 1) (r := { state := st, pending := pd, fn, tmps := a.tmps, params := ps, assign := asg, body, defers := h.size }) h3 hst
  have hkin : Kin w (w3.putObj (h.size + 1) (.loop { state := .exhausted, pending := pd, fn, tmps := a.tmps, params := ps, assign := asg, body, defers := h.size })) :=
    (hkW.trans hk).trans (putObj_kin _ _ _)
  have hoff : Off [] a { a with defers := [markD h.size] ++ a.defers } := ⟨rfl, fun _ _ => rfl⟩
  have hdd : [markD h.size] ++ a.defers = (h.size :: ms).map markD := by rw [hdf]; rfl
  refine ⟨pd, _, hend, ?_⟩
  have hK' := hK _ rfl
  match pd, hK', hkin with
  | none, hK', hkin => exact hQ .normal .normal _ e _ _ rfl hA hK' hkin hdd hoff
  | some .ret, hK', hkin => exact wpIn_ret (hQ .ret .ret _ e _ _ rfl hA hK' hkin hdd hoff)
  | some (.exit i), hK', hkin => exact wpIn_exit (hQ (.exit i) (.exit i) _ e _ _ rfl hA hK' hkin hdd hoff)

theorem writesT_plain : ∀ (c : Code), hasR c = false → writesT c = writes c
  | .seq a b, h => by
    simp only [hasR, Bool.or_eq_false_iff] at h
    simp only [writesT, writes, writesT_plain a h.1, writesT_plain b h.2]
  | .block _ b, h => by
    simp only [hasR] at h
    simp only [writesT, writes, writesT_plain b h]
  | .cond _ a b, h => by
    simp only [hasR, Bool.or_eq_false_iff] at h
    simp only [writesT, writes, writesT_plain a h.1, writesT_plain b h.2]
  | .rangeFunc _ _ _ _, h => by simp [hasR] at h
  | .skip, _ => rfl
  | .refuse _, _ => rfl
  | .label _, _ => rfl
  | .goto _, _ => rfl
  | .exit _, _ => rfl
  | .ret, _ => rfl
  | .region _ _ _, _ => rfl
  | .loop _, _ => rfl
  | .scope _, _ => rfl
theorem vcT_plain {A : Ann} (hm : P.follows .mixedOrders = true) {c : Code} (hc : hasR c = false) {Qv : Ex → List Nat → Env → Heap → Prop} {Q : Exit → Act → World → Prop} {ms : List Nat} {e : Env} {h : Heap} {a : Act} {w : World}
    (hok : drawsOk A.calm c = true) (hA : Agree e a.tmps) (hw : w.heap = h) (hdf : a.defers = ms.map markD) (hQ : AnswersT w a (writesT c) Qv Q)
    (H : vcS P A.calm c none (fun x e' h' => Qv x ms e' h') e h) : c.wp P Q a w :=
  vcS_sound (A := A.calm) (D := ms.map markD) hm rfl c none c rfl hok hA hw hdf (fun x ex e1 a1 w1 hx g1 g2 g3 g4 g5 => hQ x ex ms e1 a1 w1 hx g1 g2 g3 g4 (g5.mono fun n hn => by rw [writesT_plain c hc]; exact hn)) (fun _ _ _ _ hp => hp.elim) H
theorem vcT_sound {A : Ann} (hm : P.follows .mixedOrders = true) : ∀ (c : Code) {Qv : Ex → List Nat → Env → Heap → Prop} {Q : Exit → Act → World → Prop} {ms : List Nat} {e : Env} {h : Heap} {a : Act} {w : World},
    drawsT A.calm c = true → Agree e a.tmps → w.heap = h → a.defers = ms.map markD → AnswersT w a (writesT c) Qv Q → vcT P A c Qv ms e h → c.wp P Q a w
  | .rangeFunc g ps asg body, Qv, Q, ms, e, h, a, w, hok, hA, hw, hdf, hQ, H => by
    simp only [drawsT, Bool.and_eq_true, decide_eq_true_eq] at hok
    exact vcRange_sound hm (by simp only [Bool.and_eq_true]; exact hok.1) hok.2 hA hw hdf hQ H
  | .seq x y, Qv, Q, ms, e, h, a, w, hok, hA, hw, hdf, hQ, H => by
    cases hr : hasR (.seq x y) with
    | false =>
      simp only [drawsT, hr] at hok
      simp only [vcT, hr] at H
      exact vcT_plain hm hr hok hA hw hdf hQ H
    | true =>
      simp only [drawsT, hr, Bool.and_eq_true] at hok
      simp only [vcT, hr] at H
      have up : ∀ n, n ∈ writesT x → n ∈ writesT (.seq x y) := fun n hn => by simp [writesT, hn]
      refine wp_seq (vcT_sound hm x hok.1 hA hw hdf ?_ H)
      intro ex ext ms' e' a' w' hx g1 g2 g3 g4 g5
      cases ext <;> simp only [exOf, Option.some.injEq, reduceCtorEq] at hx <;> subst hx
      · refine vcT_sound hm y hok.2 g1 rfl g4 ?_ g2
        intro ex2 ext2 ms2 e2 a2 w2 hx2 k1 k2 k3 k4 k5
        exact hQ ex2 ext2 ms2 e2 a2 w2 hx2 k1 k2 (g3.trans k3) k4 ((g5.mono up).trans (k5.mono fun n hn => by simp [writesT, hn]))
      all_goals exact hQ _ _ ms' e' a' w' rfl g1 g2 g3 g4 (g5.mono up)
  | .block id b, Qv, Q, ms, e, h, a, w, hok, hA, hw, hdf, hQ, H => by
    cases hr : hasR b with
    | false =>
      simp only [drawsT, hr] at hok
      simp only [vcT, hr] at H
      exact vcT_plain hm (by simpa [hasR] using hr) hok hA hw hdf hQ H
    | true =>
      simp only [drawsT, hr] at hok
      simp only [vcT, hr] at H
      refine wp_block (vcT_sound hm b hok hA hw hdf ?_ H)
      intro ex ext ms' e' a' w' hx g1 g2 g3 g4 g5
      cases ext <;> simp only [exOf, Option.some.injEq, reduceCtorEq] at hx <;> subst hx
      case exit i =>
        simp only [Exit.inBlock]
        simp only [selQ] at g2
        split at g2
        · rename_i hi
          rw [if_pos (Nat.eq_of_beq_eq_true hi)]
          exact hQ _ _ ms' e' a' w' rfl g1 g2 g3 g4 g5
        · rename_i hi
          rw [if_neg (fun h => by subst h; simp at hi)]
          exact hQ _ _ ms' e' a' w' rfl g1 g2 g3 g4 g5
      all_goals exact hQ _ _ ms' e' a' w' rfl g1 g2 g3 g4 g5
  | .cond c x y, Qv, Q, ms, e, h, a, w, hok, hA, hw, hdf, hQ, H => by
    cases hr : hasR (.cond c x y) with
    | false =>
      simp only [drawsT, hr] at hok
      simp only [vcT, hr] at H
      exact vcT_plain hm hr hok hA hw hdf hQ H
    | true =>
      simp only [drawsT, hr, Bool.and_eq_true] at hok
      simp only [vcT, hr] at H
      split at H
      case h_2 => exact H.elim
      rename_i t ht
      have hc := opv_eval hA ht
      cases t
      · exact wp_cond_false hc (vcT_sound hm y hok.2 hA hw hdf (fun ex ext ms' e' a' w' hx g1 g2 g3 g4 g5 => hQ ex ext ms' e' a' w' hx g1 g2 g3 g4 (g5.mono fun n hn => by simp [writesT, hn])) H)
      · exact wp_cond_true hc (vcT_sound hm x hok.1 hA hw hdf (fun ex ext ms' e' a' w' hx g1 g2 g3 g4 g5 => hQ ex ext ms' e' a' w' hx g1 g2 g3 g4 (g5.mono fun n hn => by simp [writesT, hn])) H)
  | .refuse _, Qv, Q, ms, e, h, a, w, hok, hA, hw, hdf, hQ, H => vcT_plain hm rfl hok hA hw hdf hQ H
  | .skip, Qv, Q, ms, e, h, a, w, hok, hA, hw, hdf, hQ, H => vcT_plain hm rfl hok hA hw hdf hQ H
  | .label _, Qv, Q, ms, e, h, a, w, hok, hA, hw, hdf, hQ, H => vcT_plain hm rfl hok hA hw hdf hQ H
  | .goto _, Qv, Q, ms, e, h, a, w, hok, hA, hw, hdf, hQ, H => vcT_plain hm rfl hok hA hw hdf hQ H
  | .exit _, Qv, Q, ms, e, h, a, w, hok, hA, hw, hdf, hQ, H => vcT_plain hm rfl hok hA hw hdf hQ H
  | .ret, Qv, Q, ms, e, h, a, w, hok, hA, hw, hdf, hQ, H => vcT_plain hm rfl hok hA hw hdf hQ H
  | .region _ _ _, Qv, Q, ms, e, h, a, w, hok, hA, hw, hdf, hQ, H => vcT_plain hm rfl hok hA hw hdf hQ H
  | .loop _, Qv, Q, ms, e, h, a, w, hok, hA, hw, hdf, hQ, H => vcT_plain hm rfl hok hA hw hdf hQ H
  | .scope _, Qv, Q, ms, e, h, a, w, hok, hA, hw, hdf, hQ, H => vcT_plain hm rfl hok hA hw hdf hQ H

/-- the marks' blocks are shut -/
def takeMs : List Nat → Heap → (Heap → Prop) → Prop
  | [], h, K => K h
  | b :: r, h, K => h[b]? = some (.deferred (some [])) ∧ ∀ h', h' = h.setIfInBounds b (.deferred none) → takeMs r h' K
def bodyQT (P : Program) (rs : List ResultVar) (R : Value → Heap → Prop) : Ex → List Nat → Env → Heap → Prop
  | .normal, ms, e, h => takeMs ms h fun h' => resVs P rs e h' (retV R h')
  | .ret, ms, e, h => takeMs ms h fun h' => resVs P rs e h' (retV R h')
  | _, _, _, _ => False
theorem leaves_marks {fn : Func} {t : Array Value} {w0 : World} {R : Value → Heap → Prop} {e : Env} : ∀ (ms : List Nat) {h : Heap} {w : World} {a : Act}, Agree e a.tmps → a.tmps = t → w.heap = h → Kin w0 w → takeMs ms h (fun h' => resVs P fn.results.toList e h' (retV R h')) →
    LeavesInM Fence.wide 0 P fn t (fun en w' => ∃ v, en = .returned v ∧ Kin w0 w' ∧ R v w'.heap) (ms.map markD) .returning w
  | [], h, w, a, hA, ht, hw, hk, H => by
    subst ht
    obtain ⟨v, hr, hR⟩ := results_sound (fn := fn) (w := w) hA hw H
    exact ⟨v, hr, v, rfl, hk, hR⟩
  | b :: r, h, w, a, hA, ht, hw, hk, H => by
    obtain ⟨h1, h2⟩ := H
    have hb : w.heap[b]? = some (.deferred (some [])) := by rw [hw]; exact h1
    refine ⟨by simp, .inl ⟨b, _, rfl, run_takeDeferred hb, ?_⟩⟩
    exact leaves_marks r hA ht rfl (hk.trans (putObj_kin w b _)) (h2 _ (by rw [← hw]; rfl))
/-- The contract of a function that holds ranges over functions. -/
theorem hentT {f : FuncId} {fn : Func} {c : Code} {args : Array Value} {h : Heap} {R : Value → Heap → Prop} (A : Ann) (hm : P.follows .mixedOrders = true) (hf : P.funcs[f]? = some fn) (hb : fn.body = some c) (hn : (fn.name == "runtime.NumGoroutine") = false)
    (hok : drawsT A.calm c = true) (H : vcT P A c (bodyQT P fn.results.toList R) [] (start args.toList fn.ntmps) h) : HEnt P f args h R := by
  refine HEnt.of_body hf (by rw [hb]; rfl) hn ?_
  intro w hw
  refine (callsIn_wide (n := 0)).1 (callsIn_of_wp_marks hf hb trivial ?_ rfl)
  refine (wpIn_wide (n := 0)).2 ?_
  refine vcT_sound hm c hok (start_agree args fn.ntmps) hw rfl ?_ H
  intro x ex ms e a w' hx hA hQ hk hd _
  cases ex <;> simp only [exOf, Option.some.injEq, reduceCtorEq] at hx <;> subst hx
  · show LeavesInM _ _ _ _ _ _ a.defers _ _
    rw [hd]; exact leaves_marks ms hA rfl rfl hk hQ
  · exact hQ.elim
  · exact hQ.elim
  · show LeavesInM _ _ _ _ _ _ a.defers _ _
    rw [hd]; exact leaves_marks ms hA rfl rfl hk hQ
/-- an iterator: it calls a loop's yield; nothing panics -/
@[reducible] def Ann.iter (A : Ann) : Ann := { A with pans := none, pan := fun _ => False, yld := true }
/-- The contract of a function that is handed a loop's yield. -/
theorem hentY {f : FuncId} {fn : Func} {c : Code} {args : Array Value} {h : Heap} {R : Value → Heap → Prop} (A : Ann) (hm : P.follows .mixedOrders = true) (hf : P.funcs[f]? = some fn) (hb : fn.body = some c) (hn : (fn.name == "runtime.NumGoroutine") = false)
    (hok : (plainC c && drawsOk A.iter c) = true) (H : vc P A.iter c (bodyQ P fn.results.toList R) (start args.toList fn.ntmps) h) : HEnt P f args h R := by
  simp only [Bool.and_eq_true] at hok
  refine HEnt.of_body hf (by rw [hb]; rfl) hn ?_
  intro w hw
  refine (callsIn_wide (n := 0)).1 (callsIn_of_wp (F := Fence.wide) hf hb trivial ?_ rfl)
  refine vcI_sound (ro := none) (D := []) (A := A.iter) hm rfl (fun _ hp => hp) c hok.1 hok.2 (start_agree args fn.ntmps) hw rfl ?_ (fun h => ?_) H
  · intro x ex e a w' hx hA hQ hk hd _
    cases ex <;> simp only [exOf, Option.some.injEq, reduceCtorEq] at hx <;> subst hx
    · obtain ⟨v, hr, hR⟩ := results_sound (fn := fn) hA rfl hQ
      exact ⟨hd, v, hr, v, rfl, hk, hR⟩
    · exact hQ.elim
    · exact hQ.elim
    · obtain ⟨v, hr, hR⟩ := results_sound (fn := fn) hA rfl hQ
      exact ⟨hd, v, hr, v, rfl, hk, hR⟩
  · obtain ⟨_, _, h⟩ := h
    obtain ⟨v, h, _⟩ := h
    cases h
end Go.Vc
