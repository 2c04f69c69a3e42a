import Derived.Test.YtcfegbpoailbdaaDoorVcK
import Derived.OrdersIn
import Derived.TacticsIn
import Derived.LoopIn
import Derived.RangeFuncRecord

namespace Go.Vc
set_option linter.unusedVariables false
set_option linter.unusedSimpArgs false
variable {P : Program} {D : List Deferred} {ro : Option Nat} {n : Nat}
/-- the wide fence, in a round or not -/
def wideR (ro : Option Nat) : Fence := { Fence.wide with round := ro }
theorem callsIn_wideR {f : FuncId} {args : Array Value} {w : World} {R : Ending → World → Prop} : CallsIn (wideR ro) n P f args w R ↔ Calls P f args w R :=
  (show CallsIn (wideR ro) n P f args w R ↔ CallsIn Fence.wide n P f args w R from Iff.rfl).trans callsIn_wide
theorem rowsIn_wideR {row : String} {args : Array Value} {w : World} {R : Value → World → Prop} (h : Rows P row args w R) : RowsIn (wideR ro) n P row args w R :=
  fun c cs _ => let ⟨v, w', r, s⟩ := h c cs; ⟨v, w', r, stepsIn_wide.2 s⟩
theorem roundIn_any {m : Nat} {l : Nat} {f : FuncId} {tmps : Array Value} {assign body : Code} {w : World} {R : Ending → World → Prop} (h : RoundIn Fence.wide n P l f tmps assign body w R) : RoundIn (wideR ro) m P l f tmps assign body w R :=
  ⟨trivial, fun c cs _ => h.2 c cs (room_wide _)⟩
def isDefer : Op → Bool
  | .defer _ => true
  | _ => false
theorem not_defer {o : Oper} (h : isDefer o.op = false) : ∀ c, o.op ≠ .defer c := fun c e => by rw [e] at h; cases h
theorem semAt_any {o : Oper} (h : isDefer o.op = false) (ρ : Operand → Value) : o.semAt (wideR ro).round ρ = execOp ρ o := by
  cases ro with
  | none => rfl
  | some l => exact Oper.semAt_some l ρ o (not_defer h)
theorem opIn {o : Oper} {a : Act} {w : World} {K : Act → World → Prop} {Q : Exit → Act → World → Prop} (hnd : isDefer o.op = false) (h : o.wp P a w K Q) : o.wpIn (wideR ro) n P a w K Q := by
  refine ⟨fun _ _ => trivial, ?_⟩
  rw [semAt_any hnd]
  unfold Oper.wp at h
  generalize (execOp a.eval o).run P w = r at *
  cases r with
  | ok x w' =>
    cases x <;> simp only [Oper.upon, Oper.uponIn] at h ⊢ <;>
      first
        | exact h
        | exact ⟨fun h => (by cases h), callsIn_wideR.2 (Calls.mono h fun e w'' he => by cases e <;> exact he)⟩
        | exact ⟨fun h => (by cases h), rowsIn_wideR h⟩
        | exact h.elim
  | halt x w' => cases x <;> simp only [Oper.upon, Oper.uponIn] at h ⊢ <;> exact h
theorem anyIn {md : Region.Mode} {ops : Array Oper} {Q : Exit → Act → World → Prop} (hlo : ¬ LetsOut Q) (hnd : ∀ (i : Nat) o, ops[i]? = some o → isDefer o.op = false) : ∀ (fuel : Nat) (listed : Array Bool) (a : Act) (w : World),
    wpAny P md ops Q fuel listed a w → wpAnyIn (wideR ro) n P md ops Q fuel listed a w
  | 0, listed, a, w, h => h
  | fuel + 1, listed, a, w, h => by
    refine ⟨h.1, fun i hi => ?_⟩
    have := wpOp_mono (fun a w h => anyIn hlo hnd fuel _ a w h) (h.2 i hi)
    unfold wpOp at this
    unfold wpOpIn
    split
    · rename_i ho; simpa [ho] using this
    · rename_i o ho
      simp only [ho] at this
      split
      · rename_i hw
        simp only [hw, if_true] at this
        rcases this with this | ⟨_, hl⟩
        · exact opIn (hnd i o ho) this
        · exact absurd hl hlo
      · rename_i hw
        simp only [hw] at this
        exact ⟨fun _ _ => trivial, this⟩

theorem vcEffP_in {A : Ann} {o : Oper} {e : Env} {h : Heap} {K : Option Value → Heap → Prop} {a : Act} {w : World} {next : Act → World → Prop} {Q : Exit → Act → World → Prop}
    (hnd : isDefer o.op = false) (hpan : A.pans = none) (hA : Agree e a.tmps) (hw : w.heap = h) (hn : Nexts o a w K next) (H : vcEffP P A o e h K) : o.wpIn (wideR ro) n P a w next Q := by
  unfold vcEffP at H
  split at H
  · split at H
    · rename_i c ho
      split at H
      · rename_i f hc
        split at H
        · rename_i l first captured vs hf hv
          have e1 := opv_eval hA hf
          have e2 := opvs_arr hA hv
          have harr : (first.toList ++ vs).toArray = first ++ vs.toArray := by apply Array.ext'; simp
          rw [harr] at H
          have hr : execOp a.eval o = Instr.yield l (first ++ vs.toArray) := by
            simp only [execOp, ho, resolve, hc, e1, e2, Deferred.ofValue]
            rfl
          obtain ⟨fn, tmps, asg, body, hrun, hR⟩ := H w hw
          refine ⟨fun _ _ => trivial, ?_⟩
          rw [semAt_any hnd, hr, hrun]
          simp only [Oper.uponIn]
          refine ⟨fun h => (by cases h), (roundIn_any hR).mono fun en w' ⟨v, he, hk, hv⟩ => ?_⟩
          subst he
          obtain ⟨u, rfl, hK⟩ := withSh_some hv
          exact hn _ _ _ hK (.inr rfl) hk
        · exact opIn hnd (vcEff_sound hA hw hn H)
      · exact opIn hnd (vcEff_sound hA hw hn H)
    · exact opIn hnd (vcEff_sound hA hw hn H)
  · rw [hpan] at H
    exact opIn hnd (vcEff_sound hA hw hn H)

theorem vcOps_in {A : Ann} (hpan : A.pans = none) {all : List Oper} {W : List Nat} {Q : Exit → Act → World → Prop} {K : Env → Heap → Prop} : ∀ (l : List Oper) {e : Env} {h : Heap} {a : Act} {w : World},
    (∀ o ∈ l, isDefer o.op = false) → (∀ o ∈ l, ∀ n, o.dst = some n → n ∈ W) → Agree e a.tmps → w.heap = h → a.defers = D → Behind D w a W K (fun a w => Q .normal a w) → vcOps P A all l e h K → wpListIn (wideR ro) n P all.toArray Q l a w
  | [], e, h, a, w, _, _, hA, hw, hdf, hB, H => hB e a w hA (by rw [hw]; exact H) (Kin.refl w) hdf (Off.refl _ _)
  | o :: r, e, h, a, w, hnd, hW, hA, hw, hdf, hB, H => by
    have rest : ∀ {e' : Env} {u : Value} {w' : World} {h' : Heap}, Agree e' (a.put o.dst u).tmps → w'.heap = h' → (a.put o.dst u).defers = D → Kin w w' → vcOps P A all r e' h' K → wpListIn (wideR ro) n P all.toArray Q r (a.put o.dst u) w' :=
      fun hA' hw' hd' hk H' => vcOps_in hpan r (fun p hp => hnd p (by simp [hp])) (fun p hp => hW p (by simp [hp])) hA' hw' hd' (fun e2 a2 w2 g1 g2 g3 g4 g5 => hB e2 a2 w2 g1 g2 (hk.trans g3) g4 ((Off.put a o.dst _ (hW o (by simp))).trans g5)) H'
    have run : ∀ {e1 : Env}, Agree e1 a.tmps → (vcEffP P A o e1 h fun v h' => vcOps P A all r (Env.put e1 o.dst v) h' K) → o.wpIn (wideR ro) n P a w (wpListIn (wideR ro) n P all.toArray Q r) Q := by
      intro e1 hA1 H1
      refine vcEffP_in (hnd o (by simp)) hpan hA1 hw (fun v u w' hv hu hk => ?_) H1
      exact rest (hA1.put' o.dst u hu) rfl (by rw [put_defers]; exact hdf) hk hv
    simp only [vcOps, withEnv_eq] at H
    unfold wpListIn
    split at H
    · rename_i hg
      rw [if_pos (by simp [Region.wanted, hg])]
      exact run hA H
    · rename_i j want hg
      split at H
      case h_2 => exact H.elim
      rename_i d hd
      have hd' : (all.toArray[j]?).bind (·.dst) = some d := by simpa using hd
      split at H
      · rename_i b hb
        have hy := yielded_bool hA hd' hb
        split at H
        · cases b
          · rw [if_neg (by simp [Region.wanted, hg, hy])]
            exact ⟨fun _ _ => trivial, rest ((hA.lit hb rfl).put' o.dst undef (.inr rfl)) hw (by rw [put_defers]; exact hdf) (Kin.refl w) H⟩
          · rw [if_pos (by simp [Region.wanted, hg, hy])]
            exact run (hA.lit hb rfl) H
        · cases b
          · rw [if_pos (by simp [Region.wanted, hg, hy])]
            exact run (hA.lit hb rfl) H
          · rw [if_neg (by simp [Region.wanted, hg, hy])]
            exact ⟨fun _ _ => trivial, rest ((hA.lit hb rfl).put' o.dst undef (.inr rfl)) hw (by rw [put_defers]; exact hdf) (Kin.refl w) H⟩
      · rename_i vs hb
        have hy := yielded_tuple hA hd' hb
        rw [if_neg (by simp [Region.wanted, hg, hy])]
        exact ⟨fun _ _ => trivial, rest (hA.put' o.dst undef (.inr rfl)) hw (by rw [put_defers]; exact hdf) (Kin.refl w) H⟩
      · exact H.elim

/-- no scopes, no ranges over functions, no deferred calls -/
def plainC : Code → Bool
  | .region _ ops _ => ops.toList.all fun o => !isDefer o.op
  | .seq a b => plainC a && plainC b
  | .cond _ a b => plainC a && plainC b
  | .block _ b => plainC b
  | .loop b => plainC b
  | .skip | .exit _ | .ret => true
  | _ => false
theorem vcI_sound {A : Ann} (hm : P.follows .mixedOrders = true) (hpan : A.pans = none) (hpf : ∀ h, ¬ A.pan h) : ∀ (c : Code) {Qv : Ex → Env → Heap → Prop} {Q : Exit → Act → World → Prop} {e : Env} {h : Heap} {a : Act} {w : World},
    plainC c = true → drawsOk A c = true → Agree e a.tmps → w.heap = h → a.defers = D → Answers D w a (writes c) Qv Q → ¬ LetsOut Q → vcS P A c none Qv e h → c.wpIn (wideR ro) n P Q a w
  | .skip, Qv, Q, e, h, a, w, _, _, hA, hw, hdf, hQ, hlo, H => wpIn_skip (hQ .normal .normal e a w rfl hA (by rw [hw]; exact H) (Kin.refl w) hdf (Off.refl _ _))
  | .exit i, Qv, Q, e, h, a, w, _, _, hA, hw, hdf, hQ, hlo, H => wpIn_exit (hQ (.exit i) (.exit i) e a w rfl hA (by rw [hw]; exact H) (Kin.refl w) hdf (Off.refl _ _))
  | .ret, Qv, Q, e, h, a, w, _, _, hA, hw, hdf, hQ, hlo, H => wpIn_ret (hQ .ret .ret e a w rfl hA (by rw [hw]; exact H) (Kin.refl w) hdf (Off.refl _ _))
  | .region id ops draw, Qv, Q, e, h, a, w, hpl, hok, hA, hw, hdf, hQ, hlo, H => by
    simp only [vcS] at H
    have hnd : ∀ o ∈ ops.toList, isDefer o.op = false := fun o ho => by
      have := List.all_eq_true.1 hpl o ho
      simpa using this
    have hB : Behind D w a (ops.toList.filterMap (·.dst)) (fun e' h' => Qv .normal e' h') (fun a w => Q .normal a w) := fun e' a' w' g1 g2 g3 g4 g5 => hQ .normal .normal e' a' w' rfl g1 g2 g3 g4 g5
    cases draw with
    | false =>
      simp only [vcRegion] at H
      split at H
      · exact H.elim
      · have := vcOps_in (ro := ro) (n := n) hpan (W := ops.toList.filterMap (·.dst)) ops.toList hnd (fun o ho n hn => List.mem_filterMap.2 ⟨o, ho, hn⟩) hA hw hdf hB H
        exact wpIn_region_list (by simpa using this)
    | true =>
      have := vcRegion_any (id := id) (fun h => by cases h) hok hA hw hdf hB (fun _ _ _ _ hp => absurd hp (hpf _)) H
      exact wpIn_region_any hm (anyIn hlo (fun i o ho => hnd o (by
        have := Array.mem_of_getElem? ho
        simpa using this)) _ _ _ _ this)
  | .seq x y, Qv, Q, e, h, a, w, hpl, hok, hA, hw, hdf, hQ, hlo, H => by
    simp only [plainC, Bool.and_eq_true] at hpl
    simp only [drawsOk, Bool.and_eq_true] at hok
    have up : ∀ n, n ∈ writes x → n ∈ writes (.seq x y) := fun n hn => by simp [writes, hn]
    simp only [vcS] at H
    split at H
    · refine wpIn_seq (vcI_sound hm hpan hpf x hpl.1 hok.1 hA hw hdf ?_ (fun ⟨a, w, h⟩ => hlo ⟨a, w, h⟩) H)
      intro ex ext e' a' w' hx g1 g2 g3 g4 g5
      cases ext <;> simp only [exOf, Option.some.injEq, reduceCtorEq] at hx <;> subst hx
      · refine vcI_sound hm hpan hpf y hpl.2 hok.2 g1 rfl g4 ?_ hlo g2
        intro ex2 ext2 e2 a2 w2 hx2 k1 k2 k3 k4 k5
        exact hQ ex2 ext2 e2 a2 w2 hx2 k1 k2 (g3.trans k3) k4 ((g5.mono up).trans (k5.mono fun n hn => by simp [writes, hn]))
      all_goals exact hQ _ _ e' a' w' rfl g1 g2 g3 g4 (g5.mono up)
    · rename_i l hc
      obtain ⟨I, h1, h2⟩ := H
      refine wpIn_seq (vcI_sound hm hpan hpf x hpl.1 hok.1 hA hw hdf ?_ (fun ⟨a, w, h⟩ => hlo ⟨a, w, h⟩) h1)
      intro ex ext e' a' w' hx g1 g2 g3 g4 g5
      cases ext <;> simp only [exOf, Option.some.injEq, reduceCtorEq] at hx <;> subst hx
      · obtain ⟨e1, k1, k2, k3⟩ := forget hA g1 g5 g2 (h2 w'.heap)
        refine vcI_sound hm hpan hpf y hpl.2 hok.2 k1 rfl g4 ?_ hlo k3
        intro ex2 ext2 e2 a2 w2 hx2 m1 m2 m3 m4 m5
        exact hQ ex2 ext2 e2 a2 w2 hx2 m1 m2 (g3.trans m3) m4 ((g5.mono up).trans (m5.mono fun n hn => by simp [writes, hn]))
      all_goals exact hQ _ _ e' a' w' rfl g1 g2 g3 g4 (g5.mono up)
  | .cond c x y, Qv, Q, e, h, a, w, hpl, hok, hA, hw, hdf, hQ, hlo, H => by
    simp only [plainC, Bool.and_eq_true] at hpl
    simp only [drawsOk, Bool.and_eq_true] at hok
    simp only [vcS] at H
    split at H
    case h_2 => exact H.elim
    rename_i t ht
    have hc := opv_eval hA ht
    cases t
    · exact wpIn_cond_false hc (vcI_sound hm hpan hpf y hpl.2 hok.2 hA hw hdf (fun ex ext e' a' w' hx g1 g2 g3 g4 g5 => hQ ex ext e' a' w' hx g1 g2 g3 g4 (g5.mono fun n hn => by simp [writes, hn])) hlo H)
    · exact wpIn_cond_true hc (vcI_sound hm hpan hpf x hpl.1 hok.1 hA hw hdf (fun ex ext e' a' w' hx g1 g2 g3 g4 g5 => hQ ex ext e' a' w' hx g1 g2 g3 g4 (g5.mono fun n hn => by simp [writes, hn])) hlo H)
  | .block id b, Qv, Q, e, h, a, w, hpl, hok, hA, hw, hdf, hQ, hlo, H => by
    simp only [plainC] at hpl
    simp only [drawsOk] at hok
    refine wpIn_block (vcI_sound hm hpan hpf b hpl hok hA hw hdf ?_ (fun ⟨a, w, h⟩ => hlo ⟨a, w, h⟩) H)
    intro ex ext e' a' w' hx g1 g2 g3 g4 g5
    cases ext <;> simp only [exOf, Option.some.injEq, reduceCtorEq] at hx <;> subst hx
    case exit i =>
      simp only [Exit.inBlock]
      simp only at g2
      split at g2
      · rename_i hi
        rw [if_pos (Nat.eq_of_beq_eq_true hi)]
        exact hQ _ _ e' a' w' rfl g1 g2 g3 g4 g5
      · rename_i hi
        rw [if_neg (fun h => by subst h; simp at hi)]
        exact hQ _ _ e' a' w' rfl g1 g2 g3 g4 g5
    all_goals exact hQ _ _ e' a' w' rfl g1 g2 g3 g4 g5
  | .loop b, Qv, Q, e, h, a, w, hpl, hok, hA, hw, hdf, hQ, hlo, H => by
    simp only [plainC] at hpl
    simp only [drawsOk] at hok
    simp only [vcS] at H
    split at H
    case h_2 => exact H.elim
    rename_i l hl
    obtain ⟨I, M, h0, hr⟩ := H
    refine wpIn_loop (fun a1 w1 => ∃ e', Agree e' a1.tmps ∧ invAt l I e' w1.heap ∧ Kin w w1 ∧ a1.defers = D ∧ Off (writes b) a a1) (fun a1 w1 => measOf l M (fun n => a1.tmps.getD n undef) w1.heap)
      ⟨e, hA, by rw [hw]; exact h0, Kin.refl w, hdf, Off.refl _ _⟩ ?_
    rintro a1 w1 ⟨e', g1, g2, g3, g4, g5⟩
    obtain ⟨e1, k1, k2, k3⟩ := forget hA g1 g5 g2 (hr w1.heap)
    have hb := measAt_of l M k1 k3
    refine vcI_sound hm hpan hpf b hpl hok k1 rfl g4 ?_ (fun ⟨a, w, h⟩ => hlo ⟨a, w, h⟩) hb
    intro ex ext e2 a2 w2 hx m1 m2 m3 m4 m5
    cases ext <;> simp only [exOf, Option.some.injEq, reduceCtorEq] at hx <;> subst hx
    · obtain ⟨n1, n2⟩ := m2
      exact ⟨⟨e2, m1, n1, g3.trans m3, m4, g5.trans m5⟩, measAt_of l M (f := fun x => x < measOf l M (fun n => a1.tmps.getD n undef) w1.heap) m1 n2⟩
    all_goals exact hQ _ _ e2 a2 w2 rfl m1 m2 (g3.trans m3) m4 (g5.trans m5)
  | .label _, _, _, _, _, _, _, hpl, _, _, _, _, _, _, _ | .goto _, _, _, _, _, _, _, hpl, _, _, _, _, _, _, _ | .scope _, _, _, _, _, _, _, hpl, _, _, _, _, _, _, _ | .rangeFunc _ _ _ _, _, _, _, _, _, _, hpl, _, _, _, _, _, _, _ | .refuse _, _, _, _, _, _, _, hpl, _, _, _, _, _, _, _ => by cases hpl
end Go.Vc

namespace Go.Vc
set_option linter.unusedVariables false
set_option linter.unusedSimpArgs false
variable {P : Program}
def markD (b : Nat) : Deferred := { target := .collected b, args := #[] }
/-- what a round of the loop l must leave -/
def roundQ (l : Nat) (rec_ : LoopState → Option Code → Obj) (R : Value → Heap → Prop) : Ex → Env → Heap → Prop
  | .normal, _, h => h[l]? = some (rec_ .busy none) ∧ ∀ h', h' = h.setIfInBounds l (rec_ .ready none) → R (.bool true) h'
  | .ret, _, h => h[l]? = some (rec_ .busy none) ∧ ∀ h', h' = h.setIfInBounds l (rec_ .done (some .ret)) → R (.bool false) h'
  | .exit i, _, h => h[l]? = some (rec_ .busy none) ∧ ∀ h', h' = h.setIfInBounds l (rec_ .done (some (.exit i))) → R (.bool false) h'
  | .goto _, _, _ => False
/-- a round: the loop's variables are set; then the body -/
def vcRound (P : Program) (A : Ann) (l : Nat) (rec_ : LoopState → Option Code → Obj) (asg body : Code) (e : Env) (h : Heap) (R : Value → Heap → Prop) : Prop :=
  h[l]? = some (rec_ .ready none) ∧ vcS P A.calm asg none (fun x e1 h1 => match x with
    | .normal => h1[l]? = some (rec_ .ready none) ∧ ∀ h2, h2 = h1.setIfInBounds l (rec_ .busy none) → vcS P A.calm body none (roundQ l rec_ R) e1 h2
    | _ => False) e h
/-- what a loop left behind -/
def pendQ (pd : Option Code) (n r : Prop) (x : Nat → Prop) : Prop := match pd with
  | none => n
  | some .ret => r
  | some (.exit i) => x i
  | _ => False
def selQ (b : Bool) (p q : Prop) : Prop := match b with
  | true => p
  | false => q
def noCells (o : Obj) : Prop := ∀ c t fr, o ≠ .cells c t fr
def vcRange (P : Program) (A : Ann) (g : Operand) (ps : Array Tmp) (asg body : Code) (Q : Ex → List Nat → Env → Heap → Prop) (ms : List Nat) (e : Env) (h : Heap) : Prop :=
  match opv e g, ann A.rngs (firstRegion body) with
  | some v, some sl => fnG A.fns g v fun u => match u with
    | .func (.func f) first captured => match decide (sl.map Prod.fst = ps.toList) with
      | true => ∀ (rec_ : LoopState → Option Code → Obj) (b l : Nat) (h1 : Heap), b = h.size → l = h.size + 1 → Ext h h1 → h1[b]? = some (.deferred (some [])) → h1[l]? = some (rec_ .ready none) → (∀ st pd, noCells (rec_ st pd)) →
        (allIn sl e fun e1 => match opvs e1 (ps.toList.map .tmp) with
          | some vs => ∀ (h2 : Heap) (R : Value → Heap → Prop), vcRound P A l rec_ asg body e1 h2 R → HYield P l vs.toArray h2 R
          | none => True) →
        HEnt P f (first.toList ++ [Value.func (.yield l) #[] #[]] ++ captured.toList).toArray h1 fun _ h3 => ∃ st pd, h3[l]? = some (rec_ st pd) ∧ st ≠ .busy ∧ ∀ h4, h4 = h3.setIfInBounds l (rec_ .exhausted pd) → pendQ pd (Q .normal (b :: ms) e h4) (Q .ret (b :: ms) e h4) (fun i => Q (.exit i) (b :: ms) e h4)
      | false => False
    | _ => False
  | _, _ => False
def hasR : Code → Bool
  | .rangeFunc _ _ _ _ => true
  | .seq a b => hasR a || hasR b
  | .block _ b => hasR b
  | .cond _ a b => hasR a || hasR b
  | _ => false
/-- the conditions of code that holds ranges over functions; the marks of the loops that it has entered -/
def vcT (P : Program) (A : Ann) : Code → (Ex → List Nat → Env → Heap → Prop) → List Nat → Env → Heap → Prop
  | .rangeFunc g ps asg body, Q, ms, e, h => vcRange P A g ps asg body Q ms e h
  | .seq a b, Q, ms, e, h => match hasR (.seq a b) with
    | true => vcT P A a (fun x ms' e' h' => match x with
      | .normal => vcT P A b Q ms' e' h'
      | x => Q x ms' e' h') ms e h
    | false => vcS P A.calm (.seq a b) none (fun x e' h' => Q x ms e' h') e h
  | .block id b, Q, ms, e, h => match hasR b with
    | true => vcT P A b (fun x ms' e' h' => match x with
      | .exit i => selQ (Nat.beq i id) (Q .normal ms' e' h') (Q (.exit i) ms' e' h')
      | x => Q x ms' e' h') ms e h
    | false => vcS P A.calm (.block id b) none (fun x e' h' => Q x ms e' h') e h
  | .cond c a b, Q, ms, e, h => match hasR (.cond c a b) with
    | true => match opv e c with
      | some (.bool t) => br t (vcT P A a Q ms e h) (vcT P A b Q ms e h)
      | _ => False
    | false => vcS P A.calm (.cond c a b) none (fun x e' h' => Q x ms e' h') e h
  | c, Q, ms, e, h => vcS P A.calm c none (fun x e' h' => Q x ms e' h') e h
def drawsT (A : Ann) : Code → Bool
  | .rangeFunc _ ps asg body => (drawsOk A asg && drawsOk A body && plainC asg && plainC body) && decide ps.toList.Nodup
  | .seq a b => match hasR (.seq a b) with
    | true => drawsT A a && drawsT A b
    | false => drawsOk A (.seq a b)
  | .block id b => match hasR b with
    | true => drawsT A b
    | false => drawsOk A (.block id b)
  | .cond c a b => match hasR (.cond c a b) with
    | true => drawsT A a && drawsT A b
    | false => drawsOk A (.cond c a b)
  | c => drawsOk A c
def writesT : Code → List Nat
  | .seq a b => writesT a ++ writesT b
  | .block _ b => writesT b
  | .cond _ a b => writesT a ++ writesT b
  | .rangeFunc _ _ _ _ => []
  | c => writes c
structure SetIn (l : List (Nat × Sh)) (e e1 : Env) : Prop where
  len : e1.length = e.length
  get : ∀ n, n ∉ l.map Prod.fst → Env.get e1 n = Env.get e n
theorem allIn_intro : ∀ (l : List (Nat × Sh)) {e : Env} {f : Env → Prop}, (∀ e1, SetIn l e e1 → f e1) → allIn l e f
  | [], e, f, h => by simp only [allIn, withEnv_eq]; exact h e ⟨rfl, fun _ _ => rfl⟩
  | (d, sh) :: r, e, f, h => by
    have step : ∀ v, allIn r (Env.set e d v) f := fun v => allIn_intro r fun e1 s => h e1 ⟨s.len, fun n hn => by
      simp only [List.map_cons, List.mem_cons, not_or] at hn
      rw [s.get n hn.2, Env.get_set_ne _ _ _ _ (fun e => hn.1 e.symm)]⟩
    cases sh <;> simp only [allIn] <;> intros <;> exact step _
def AnswersT (w0 : World) (a0 : Act) (W : List Nat) (Qv : Ex → List Nat → Env → Heap → Prop) (Q : Exit → Act → World → Prop) : Prop :=
  ∀ x ex ms e a w, exOf ex = some x → Agree e a.tmps → Qv x ms e w.heap → Kin w0 w → a.defers = ms.map markD → Off W a0 a → Q ex a w
theorem putObj_kin (w : World) (r : Nat) (o : Obj) : Kin w (w.putObj r o) := ⟨rfl, rfl, rfl⟩
theorem foldl_get : ∀ (l : List (Nat × Value)) (t : Array Value) (n : Nat), n ∉ l.map Prod.fst → (l.foldl (fun (t : Array Value) (p : Nat × Value) => t.setIfInBounds p.1 p.2) t).getD n undef = t.getD n undef
  | [], t, n, _ => rfl
  | (d, v) :: r, t, n, h => by
    simp only [List.map_cons, List.mem_cons, not_or] at h
    simp only [List.foldl_cons]
    rw [foldl_get r _ n h.2]
    simp only [Array.getD_eq_getD_getElem?]
    rw [Array.getElem?_setIfInBounds_ne (fun e => h.1 e.symm)]
theorem foldl_size : ∀ (l : List (Nat × Value)) (t : Array Value), (l.foldl (fun (t : Array Value) (p : Nat × Value) => t.setIfInBounds p.1 p.2) t).size = t.size
  | [], t => rfl
  | (d, v) :: r, t => by simp only [List.foldl_cons]; rw [foldl_size r]; simp
theorem foldl_mem : ∀ (l : List (Nat × Value)) (t : Array Value) (n : Nat) (v : Value), (l.map Prod.fst).Nodup → (n, v) ∈ l → n < t.size → (l.foldl (fun (t : Array Value) (p : Nat × Value) => t.setIfInBounds p.1 p.2) t).getD n undef = v
  | [], t, n, v, _, h, _ => by cases h
  | (d, u) :: r, t, n, v, hn, h, hl => by
    simp only [List.map_cons, List.nodup_cons] at hn
    simp only [List.foldl_cons]
    rcases List.mem_cons.1 h with h | h
    · cases h
      rw [foldl_get r _ _ hn.1]
      simp only [Array.getD_eq_getD_getElem?]
      rw [Array.getElem?_setIfInBounds_self_of_lt hl]; rfl
    · exact foldl_mem r _ n v hn.2 h (by simpa using hl)

theorem opvs_tmps {e : Env} : ∀ {l : List Nat} {vs : List Value}, opvs e (l.map .tmp) = some vs → vs.length = l.length ∧ ∀ (i d : Nat) (v : Value), l[i]? = some d → vs[i]? = some v → Env.get e d = some v
  | [], vs, h => by simp [opvs] at h; subst h; exact ⟨rfl, fun i d v h => by simp at h⟩
  | d :: l, vs, h => by
    simp only [List.map_cons, opvs] at h
    split at h
    · rename_i v vs' hv hvs
      obtain rfl := Option.some.inj h
      obtain ⟨h1, h2⟩ := opvs_tmps hvs
      refine ⟨by simp [h1], fun i d' v' hd hv' => ?_⟩
      cases i with
      | zero => simp at hd hv'; subst hd; subst hv'; exact hv
      | succ i => exact h2 i d' v' (by simpa using hd) (by simpa using hv')
    · cases h
theorem agree_params {e e1 : Env} {t : Array Value} {sl : List (Nat × Sh)} {ps : List Nat} {vs : List Value} (hA : Agree e t) (s : SetIn sl e e1) (hps : sl.map Prod.fst = ps) (hn : ps.Nodup) (hv : opvs e1 (ps.map .tmp) = some vs) :
    Agree e1 ((ps.zip vs).foldl (fun (t : Array Value) (p : Nat × Value) => t.setIfInBounds p.1 p.2) t) := by
  obtain ⟨hlen, hget⟩ := opvs_tmps hv
  have hz : (ps.zip vs).map Prod.fst = ps := by rw [List.map_fst_zip]; omega
  refine ⟨by rw [s.len, hA.1, foldl_size], fun n v hg => ?_⟩
  by_cases hm : n ∈ ps
  · obtain ⟨i, hi⟩ := List.getElem?_of_mem hm
    have hlt := (List.getElem?_eq_some_iff.1 hi).1
    have hvi : vs[i]? = some (vs[i]'(by omega)) := List.getElem?_eq_getElem (by omega)
    have hg2 := hget i n _ hi hvi
    rw [hg] at hg2
    have hlt2 := Env.get_lt hg
    refine foldl_mem _ t n v (by rw [hz]; exact hn) ?_ (by rw [← hA.1, ← s.len]; exact hlt2)
    rw [List.mem_iff_getElem?]
    refine ⟨i, ?_⟩
    rw [List.getElem?_zip_eq_some]
    exact ⟨hi, by rw [hvi, ← Option.some.inj hg2]⟩
  · rw [foldl_get _ _ _ (by rw [hz]; exact hm)]
    refine hA.2 n v ?_
    rw [← s.get n (by rw [hps]; exact hm)]; exact hg

theorem vcRound_sound {A : Ann} (hm : P.follows .mixedOrders = true) {l : Nat} {r0 : Loop} {ps : List Nat} {sl : List (Nat × Sh)} {e e1 : Env} {vs : List Value} {h : Heap} {R : Value → Heap → Prop}
    (hpa : plainC r0.assign = true) (hpb : plainC r0.body = true) (hda : drawsOk A.calm r0.assign = true) (hdb : drawsOk A.calm r0.body = true) (hps : r0.params.toList = ps) (hn : ps.Nodup) (hsl : sl.map Prod.fst = ps)
    (hA : Agree e r0.tmps) (s : SetIn sl e e1) (hv : opvs e1 (ps.map .tmp) = some vs)
    (H : vcRound P A l (fun st pd => .loop { r0 with state := st, pending := pd }) r0.assign r0.body e1 h R) : HYield P l vs.toArray h R := by
  intro w hw
  obtain ⟨hl, H⟩ := H
  have hlen := (opvs_tmps hv).1
  have hA1 := agree_params hA s hsl hn hv
  have hy := run_yield (P := P) (w := w) (l := l) (r := { r0 with state := .ready, pending := none }) (args := vs.toArray) (by rw [hw]; exact hl) (by simp [hlen, ← hps])
  have hfold : ((r0.params.zip vs.toArray).foldl (fun (tmps : Array Value) (x : Tmp × Value) => match x with | (t, a) => tmps.setIfInBounds t a) r0.tmps) = (ps.zip vs).foldl (fun (t : Array Value) (p : Nat × Value) => t.setIfInBounds p.1 p.2) r0.tmps := by
    rw [← Array.foldl_toList, Array.toList_zip, hps]
  refine ⟨_, _, _, _, hy, ?_⟩
  simp only
  rw [hfold]
  refine roundIn_of_wpIn (F := Fence.wide) trivial ?_
  refine vcI_sound (ro := some l) (D := []) (A := A.calm) hm rfl (fun _ hp => hp) r0.assign hpa hda hA1 hw rfl ?_ (fun ⟨_, _, h⟩ => h) H
  intro x ex ea a1 w1 hx ga gk gkin gd _
  cases ex <;> simp only [exOf, Option.some.injEq, reduceCtorEq] at hx <;> subst hx
  case normal =>
    obtain ⟨hl1, hk⟩ := gk
    refine ⟨_, run_beginRound (r := { r0 with state := .ready, pending := none }) hl1 rfl, ?_⟩
    refine vcI_sound (ro := some l) (D := []) (A := A.calm) hm rfl (fun _ hp => hp) r0.body hpb hdb ga rfl gd ?_ (fun ⟨_, _, h⟩ => h) (hk _ rfl)
    intro x ex eb a2 w2 hx kb kk kkin kd _
    have kin2 : Kin w w2 := (gkin.trans (putObj_kin w1 l _)).trans kkin
    cases ex <;> simp only [exOf, Option.some.injEq, reduceCtorEq] at hx <;> subst hx
    case normal =>
      obtain ⟨hb, hR⟩ := kk
      exact ⟨_, _, run_endRound (r := { r0 with state := .busy, pending := none }) none hb, _, rfl, kin2.trans (putObj_kin _ _ _), hR _ rfl⟩
    case ret =>
      obtain ⟨hb, hR⟩ := kk
      exact ⟨_, _, run_endRound (r := { r0 with state := .busy, pending := none }) (some .ret) hb, _, rfl, kin2.trans (putObj_kin _ _ _), hR _ rfl⟩
    case exit i =>
      obtain ⟨hb, hR⟩ := kk
      exact ⟨_, _, run_endRound (r := { r0 with state := .busy, pending := none }) (some (.exit i)) hb, _, rfl, kin2.trans (putObj_kin _ _ _), hR _ rfl⟩
    case goto t => exact kk.elim
  all_goals exact gk.elim
end Go.Vc

namespace Go.Vc
set_option linter.unusedVariables false
set_option linter.unusedSimpArgs false
variable {P : Program}
theorem vcRange_sound {A : Ann} (hm : P.follows .mixedOrders = true) {g : Operand} {ps : Array Tmp} {asg body : Code} {Qv : Ex → List Nat → Env → Heap → Prop} {Q : Exit → Act → World → Prop} {ms : List Nat} {e : Env} {h : Heap} {a : Act} {w : World}
    (hok : (drawsOk A.calm asg && drawsOk A.calm body && plainC asg && plainC body) = true) (hn : ps.toList.Nodup) (hA : Agree e a.tmps) (hw : w.heap = h) (hdf : a.defers = ms.map markD) (hQ : AnswersT w a [] Qv Q)
    (H : vcRange P A g ps asg body Qv ms e h) : (Code.rangeFunc g ps asg body).wp P Q a w := by
  simp only [Bool.and_eq_true] at hok
  obtain ⟨⟨⟨hda, hdb⟩, hpa⟩, hpb⟩ := hok
  unfold vcRange at H
  split at H
  case h_2 => exact H.elim
  rename_i fv sl hg hsl
  replace H := fnG_out H
  split at H
  case h_2 => exact H.elim
  rename_i f first captured
  split at H
  case h_2 => exact H.elim
  rename_i hd
  have hd' : sl.map Prod.fst = ps.toList := of_decide_eq_true hd
  refine (wpIn_wide (n := 0)).1 (wpIn_rangeFunc (F := Fence.wide) fun fn _ => ?_)
  have he := run_enterLoop_outer (P := P) (w := w) fn a.tmps ps asg body
  have hev := opv_eval hA hg
  have hw1 : ((w.alloc (.deferred (some []))).alloc (.loop { state := .ready, pending := none, fn, tmps := a.tmps, params := ps, assign := asg, body, defers := w.heap.size })).heap = (h.push (.deferred (some []))).push (.loop { state := .ready, pending := none, fn, tmps := a.tmps, params := ps, assign := asg, body, defers := w.heap.size }) := by
    subst hw; rfl
  have hx : Ext h ((h.push (.deferred (some []))).push (.loop { state := .ready, pending := none, fn, tmps := a.tmps, params := ps, assign := asg, body, defers := w.heap.size })) := (Ext.push _ _).trans (Ext.push _ _)
  have H1 := H (fun st pd => .loop { state := st, pending := pd, fn, tmps := a.tmps, params := ps, assign := asg, body, defers := w.heap.size }) h.size (h.size + 1) _ rfl rfl hx
    (by rw [Array.getElem?_push, if_neg (by simp)]; exact Array.getElem?_push_size) (by
      have := Array.getElem?_push_size (xs := h.push (.deferred (some []))) (x := Obj.loop { state := .ready, pending := none, fn, tmps := a.tmps, params := ps, assign := asg, body, defers := w.heap.size })
      simpa using this) (fun st pd c t fr e => by cases e)
    (allIn_intro sl fun e1 s => by
      split
      · rename_i vs hv
        intro h2 R hr
        exact vcRound_sound (A := A) hm (r0 := { state := .ready, pending := none, fn, tmps := a.tmps, params := ps, assign := asg, body, defers := w.heap.size }) hpa hpb hda hdb rfl hn hd' hA s hv hr
      · trivial)
  obtain ⟨hcall, hC⟩ := H1 _ hw1
  have harr : (first.toList ++ [Value.func (.yield (h.size + 1)) #[] #[]] ++ captured.toList).toArray = first ++ #[Value.func (.yield (h.size + 1)) #[] #[]] ++ captured := by apply Array.ext'; simp
  rw [harr] at hcall hC
  have hsz : w.heap.size = h.size := by rw [hw]
  rw [hsz] at he hcall hC
  obtain ⟨W, hW⟩ : ∃ W, W = ((w.alloc (.deferred (some []))).alloc (.loop { state := .ready, pending := none, fn, tmps := a.tmps, params := ps, assign := asg, body, defers := h.size })) := ⟨_, rfl⟩
  rw [← hW] at he hcall hC
  have hkW : Kin w W := by rw [hW]; exact ⟨rfl, rfl, rfl⟩
  refine ⟨h.size + 1, [markD h.size], W, { target := .fn (.func f) captured, args := first ++ #[Value.func (.yield (h.size + 1)) #[] #[]] }, W, f, first ++ #[Value.func (.yield (h.size + 1)) #[] #[]] ++ captured, W, he, ?_, fun _ _ => trivial, ?_, fun h => (by cases h), callsIn_wide.2 (hC.mono ?_)⟩
  · have hev2 : a.eval (.const (Value.func (.yield (h.size + 1)) #[] #[])) = Value.func (.yield (h.size + 1)) #[] #[] := rfl
    simp [resolve, rangeCall, hev, Deferred.ofValue, hev2]
  · simpa [invoke] using hcall
  rintro en w3 ⟨v, rfl, hk, st, pd, h3, hst, hK⟩
  have hend := run_endLoop (P := P) (w := w3) (l := h.size + 1) (r := { state := st, pending := pd, fn, tmps := a.tmps, params := ps, assign := asg, body, defers := h.size }) h3 hst
  have hkin : Kin w (w3.putObj (h.size + 1) (.loop { state := .exhausted, pending := pd, fn, tmps := a.tmps, params := ps, assign := asg, body, defers := h.size })) :=
    (hkW.trans hk).trans (putObj_kin _ _ _)
  have hoff : Off [] a { a with defers := [markD h.size] ++ a.defers } := ⟨rfl, fun _ _ => rfl⟩
  have hdd : [markD h.size] ++ a.defers = (h.size :: ms).map markD := by rw [hdf]; rfl
  refine ⟨pd, _, hend, ?_⟩
  have hK' := hK _ rfl
  match pd, hK', hkin with
  | none, hK', hkin => exact hQ .normal .normal _ e _ _ rfl hA hK' hkin hdd hoff
  | some .ret, hK', hkin => exact wpIn_ret (hQ .ret .ret _ e _ _ rfl hA hK' hkin hdd hoff)
  | some (.exit i), hK', hkin => exact wpIn_exit (hQ (.exit i) (.exit i) _ e _ _ rfl hA hK' hkin hdd hoff)

theorem writesT_plain : ∀ (c : Code), hasR c = false → writesT c = writes c
  | .seq a b, h => by
    simp only [hasR, Bool.or_eq_false_iff] at h
    simp only [writesT, writes, writesT_plain a h.1, writesT_plain b h.2]
  | .block _ b, h => by
    simp only [hasR] at h
    simp only [writesT, writes, writesT_plain b h]
  | .cond _ a b, h => by
    simp only [hasR, Bool.or_eq_false_iff] at h
    simp only [writesT, writes, writesT_plain a h.1, writesT_plain b h.2]
  | .rangeFunc _ _ _ _, h => by simp [hasR] at h
  | .skip, _ => rfl
  | .refuse _, _ => rfl
  | .label _, _ => rfl
  | .goto _, _ => rfl
  | .exit _, _ => rfl
  | .ret, _ => rfl
  | .region _ _ _, _ => rfl
  | .loop _, _ => rfl
  | .scope _, _ => rfl
theorem vcT_plain {A : Ann} (hm : P.follows .mixedOrders = true) {c : Code} (hc : hasR c = false) {Qv : Ex → List Nat → Env → Heap → Prop} {Q : Exit → Act → World → Prop} {ms : List Nat} {e : Env} {h : Heap} {a : Act} {w : World}
    (hok : drawsOk A.calm c = true) (hA : Agree e a.tmps) (hw : w.heap = h) (hdf : a.defers = ms.map markD) (hQ : AnswersT w a (writesT c) Qv Q)
    (H : vcS P A.calm c none (fun x e' h' => Qv x ms e' h') e h) : c.wp P Q a w :=
  vcS_sound (A := A.calm) (D := ms.map markD) hm rfl c none c rfl hok hA hw hdf (fun x ex e1 a1 w1 hx g1 g2 g3 g4 g5 => hQ x ex ms e1 a1 w1 hx g1 g2 g3 g4 (g5.mono fun n hn => by rw [writesT_plain c hc]; exact hn)) (fun _ _ _ _ hp => hp.elim) H
theorem vcT_sound {A : Ann} (hm : P.follows .mixedOrders = true) : ∀ (c : Code) {Qv : Ex → List Nat → Env → Heap → Prop} {Q : Exit → Act → World → Prop} {ms : List Nat} {e : Env} {h : Heap} {a : Act} {w : World},
    drawsT A.calm c = true → Agree e a.tmps → w.heap = h → a.defers = ms.map markD → AnswersT w a (writesT c) Qv Q → vcT P A c Qv ms e h → c.wp P Q a w
  | .rangeFunc g ps asg body, Qv, Q, ms, e, h, a, w, hok, hA, hw, hdf, hQ, H => by
    simp only [drawsT, Bool.and_eq_true, decide_eq_true_eq] at hok
    exact vcRange_sound hm (by simp only [Bool.and_eq_true]; exact hok.1) hok.2 hA hw hdf hQ H
  | .seq x y, Qv, Q, ms, e, h, a, w, hok, hA, hw, hdf, hQ, H => by
    cases hr : hasR (.seq x y) with
    | false =>
      simp only [drawsT, hr] at hok
      simp only [vcT, hr] at H
      exact vcT_plain hm hr hok hA hw hdf hQ H
    | true =>
      simp only [drawsT, hr, Bool.and_eq_true] at hok
      simp only [vcT, hr] at H
      have up : ∀ n, n ∈ writesT x → n ∈ writesT (.seq x y) := fun n hn => by simp [writesT, hn]
      refine wp_seq (vcT_sound hm x hok.1 hA hw hdf ?_ H)
      intro ex ext ms' e' a' w' hx g1 g2 g3 g4 g5
      cases ext <;> simp only [exOf, Option.some.injEq, reduceCtorEq] at hx <;> subst hx
      · refine vcT_sound hm y hok.2 g1 rfl g4 ?_ g2
        intro ex2 ext2 ms2 e2 a2 w2 hx2 k1 k2 k3 k4 k5
        exact hQ ex2 ext2 ms2 e2 a2 w2 hx2 k1 k2 (g3.trans k3) k4 ((g5.mono up).trans (k5.mono fun n hn => by simp [writesT, hn]))
      all_goals exact hQ _ _ ms' e' a' w' rfl g1 g2 g3 g4 (g5.mono up)
  | .block id b, Qv, Q, ms, e, h, a, w, hok, hA, hw, hdf, hQ, H => by
    cases hr : hasR b with
    | false =>
      simp only [drawsT, hr] at hok
      simp only [vcT, hr] at H
      exact vcT_plain hm (by simpa [hasR] using hr) hok hA hw hdf hQ H
    | true =>
      simp only [drawsT, hr] at hok
      simp only [vcT, hr] at H
      refine wp_block (vcT_sound hm b hok hA hw hdf ?_ H)
      intro ex ext ms' e' a' w' hx g1 g2 g3 g4 g5
      cases ext <;> simp only [exOf, Option.some.injEq, reduceCtorEq] at hx <;> subst hx
      case exit i =>
        simp only [Exit.inBlock]
        simp only [selQ] at g2
        split at g2
        · rename_i hi
          rw [if_pos (Nat.eq_of_beq_eq_true hi)]
          exact hQ _ _ ms' e' a' w' rfl g1 g2 g3 g4 g5
        · rename_i hi
          rw [if_neg (fun h => by subst h; simp at hi)]
          exact hQ _ _ ms' e' a' w' rfl g1 g2 g3 g4 g5
      all_goals exact hQ _ _ ms' e' a' w' rfl g1 g2 g3 g4 g5
  | .cond c x y, Qv, Q, ms, e, h, a, w, hok, hA, hw, hdf, hQ, H => by
    cases hr : hasR (.cond c x y) with
    | false =>
      simp only [drawsT, hr] at hok
      simp only [vcT, hr] at H
      exact vcT_plain hm hr hok hA hw hdf hQ H
    | true =>
      simp only [drawsT, hr, Bool.and_eq_true] at hok
      simp only [vcT, hr] at H
      split at H
      case h_2 => exact H.elim
      rename_i t ht
      have hc := opv_eval hA ht
      cases t
      · exact wp_cond_false hc (vcT_sound hm y hok.2 hA hw hdf (fun ex ext ms' e' a' w' hx g1 g2 g3 g4 g5 => hQ ex ext ms' e' a' w' hx g1 g2 g3 g4 (g5.mono fun n hn => by simp [writesT, hn])) H)
      · exact wp_cond_true hc (vcT_sound hm x hok.1 hA hw hdf (fun ex ext ms' e' a' w' hx g1 g2 g3 g4 g5 => hQ ex ext ms' e' a' w' hx g1 g2 g3 g4 (g5.mono fun n hn => by simp [writesT, hn])) H)
  | .refuse _, Qv, Q, ms, e, h, a, w, hok, hA, hw, hdf, hQ, H => vcT_plain hm rfl hok hA hw hdf hQ H
  | .skip, Qv, Q, ms, e, h, a, w, hok, hA, hw, hdf, hQ, H => vcT_plain hm rfl hok hA hw hdf hQ H
  | .label _, Qv, Q, ms, e, h, a, w, hok, hA, hw, hdf, hQ, H => vcT_plain hm rfl hok hA hw hdf hQ H
  | .goto _, Qv, Q, ms, e, h, a, w, hok, hA, hw, hdf, hQ, H => vcT_plain hm rfl hok hA hw hdf hQ H
  | .exit _, Qv, Q, ms, e, h, a, w, hok, hA, hw, hdf, hQ, H => vcT_plain hm rfl hok hA hw hdf hQ H
  | .ret, Qv, Q, ms, e, h, a, w, hok, hA, hw, hdf, hQ, H => vcT_plain hm rfl hok hA hw hdf hQ H
  | .region _ _ _, Qv, Q, ms, e, h, a, w, hok, hA, hw, hdf, hQ, H => vcT_plain hm rfl hok hA hw hdf hQ H
  | .loop _, Qv, Q, ms, e, h, a, w, hok, hA, hw, hdf, hQ, H => vcT_plain hm rfl hok hA hw hdf hQ H
  | .scope _, Qv, Q, ms, e, h, a, w, hok, hA, hw, hdf, hQ, H => vcT_plain hm rfl hok hA hw hdf hQ H

/-- the marks' blocks are shut -/
def takeMs : List Nat → Heap → (Heap → Prop) → Prop
  | [], h, K => K h
  | b :: r, h, K => h[b]? = some (.deferred (some [])) ∧ ∀ h', h' = h.setIfInBounds b (.deferred none) → takeMs r h' K
def bodyQT (P : Program) (rs : List ResultVar) (R : Value → Heap → Prop) : Ex → List Nat → Env → Heap → Prop
  | .normal, ms, e, h => takeMs ms h fun h' => resVs P rs e h' (retV R h')
  | .ret, ms, e, h => takeMs ms h fun h' => resVs P rs e h' (retV R h')
  | _, _, _, _ => False
theorem leaves_marks {fn : Func} {t : Array Value} {w0 : World} {R : Value → Heap → Prop} {e : Env} : ∀ (ms : List Nat) {h : Heap} {w : World} {a : Act}, Agree e a.tmps → a.tmps = t → w.heap = h → Kin w0 w → takeMs ms h (fun h' => resVs P fn.results.toList e h' (retV R h')) →
    LeavesInM Fence.wide 0 P fn t (fun en w' => ∃ v, en = .returned v ∧ Kin w0 w' ∧ R v w'.heap) (ms.map markD) .returning w
  | [], h, w, a, hA, ht, hw, hk, H => by
    subst ht
    obtain ⟨v, hr, hR⟩ := results_sound (fn := fn) (w := w) hA hw H
    exact ⟨v, hr, v, rfl, hk, hR⟩
  | b :: r, h, w, a, hA, ht, hw, hk, H => by
    obtain ⟨h1, h2⟩ := H
    have hb : w.heap[b]? = some (.deferred (some [])) := by rw [hw]; exact h1
    refine ⟨by simp, .inl ⟨b, _, rfl, run_takeDeferred hb, ?_⟩⟩
    exact leaves_marks r hA ht rfl (hk.trans (putObj_kin w b _)) (h2 _ (by rw [← hw]; rfl))
/-- The contract of a function that holds ranges over functions. -/
theorem hentT {f : FuncId} {fn : Func} {c : Code} {args : Array Value} {h : Heap} {R : Value → Heap → Prop} (A : Ann) (hm : P.follows .mixedOrders = true) (hf : P.funcs[f]? = some fn) (hb : fn.body = some c) (hn : (fn.name == "runtime.NumGoroutine") = false)
    (hok : drawsT A.calm c = true) (H : vcT P A c (bodyQT P fn.results.toList R) [] (start args.toList fn.ntmps) h) : HEnt P f args h R := by
  refine HEnt.of_body hf (by rw [hb]; rfl) hn ?_
  intro w hw
  refine (callsIn_wide (n := 0)).1 (callsIn_of_wp_marks hf hb trivial ?_ rfl)
  refine (wpIn_wide (n := 0)).2 ?_
  refine vcT_sound hm c hok (start_agree args fn.ntmps) hw rfl ?_ H
  intro x ex ms e a w' hx hA hQ hk hd _
  cases ex <;> simp only [exOf, Option.some.injEq, reduceCtorEq] at hx <;> subst hx
  · show LeavesInM _ _ _ _ _ _ a.defers _ _
    rw [hd]; exact leaves_marks ms hA rfl rfl hk hQ
  · exact hQ.elim
  · exact hQ.elim
  · show LeavesInM _ _ _ _ _ _ a.defers _ _
    rw [hd]; exact leaves_marks ms hA rfl rfl hk hQ
/-- an iterator: it calls a loop's yield; nothing panics -/
@[reducible] def Ann.iter (A : Ann) : Ann := { A with pans := none, pan := fun _ => False, yld := true }
/-- The contract of a function that is handed a loop's yield. -/
theorem hentY {f : FuncId} {fn : Func} {c : Code} {args : Array Value} {h : Heap} {R : Value → Heap → Prop} (A : Ann) (hm : P.follows .mixedOrders = true) (hf : P.funcs[f]? = some fn) (hb : fn.body = some c) (hn : (fn.name == "runtime.NumGoroutine") = false)
    (hok : (plainC c && drawsOk A.iter c) = true) (H : vc P A.iter c (bodyQ P fn.results.toList R) (start args.toList fn.ntmps) h) : HEnt P f args h R := by
  simp only [Bool.and_eq_true] at hok
  refine HEnt.of_body hf (by rw [hb]; rfl) hn ?_
  intro w hw
  refine (callsIn_wide (n := 0)).1 (callsIn_of_wp (F := Fence.wide) hf hb trivial ?_ rfl)
  refine vcI_sound (ro := none) (D := []) (A := A.iter) hm rfl (fun _ hp => hp) c hok.1 hok.2 (start_agree args fn.ntmps) hw rfl ?_ (fun h => ?_) H
  · intro x ex e a w' hx hA hQ hk hd _
    cases ex <;> simp only [exOf, Option.some.injEq, reduceCtorEq] at hx <;> subst hx
    · obtain ⟨v, hr, hR⟩ := results_sound (fn := fn) hA rfl hQ
      exact ⟨hd, v, hr, v, rfl, hk, hR⟩
    · exact hQ.elim
    · exact hQ.elim
    · obtain ⟨v, hr, hR⟩ := results_sound (fn := fn) hA rfl hQ
      exact ⟨hd, v, hr, v, rfl, hk, hR⟩
  · obtain ⟨_, _, h⟩ := h
    obtain ⟨v, h, _⟩ := h
    cases h
end Go.Vc
