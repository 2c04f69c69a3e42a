import Derived.Test.YtpnbbgcaaogpdaaDoorVcK
import Derived.OrdersIn
import Derived.TacticsIn
import Derived.LoopIn
import Derived.RangeFuncRecord

namespace Go.Vc
set_option linter.unusedVariables false
set_option linter.unusedSimpArgs false
variable {P : Program} {D : List Deferred} {ro : Option Nat} {n : Nat}
/-- the wide fence, in a round or not -/
def wideR (ro : Option Nat) : Fence := { Fence.wide with round := ro }
theorem callsIn_wideR {f : FuncId} {args : Array Value} {w : World} {R : Ending → World → Prop} : CallsIn (wideR ro) n P f args w R ↔ Calls P f args w R :=
  (show CallsIn (wideR ro) n P f args w R ↔ CallsIn Fence.wide n P f args w R from Iff.rfl).trans callsIn_wide
theorem rowsIn_wideR {row : String} {args : Array Value} {w : World} {R : Value → World → Prop} (h : Rows P row args w R) : RowsIn (wideR ro) n P row args w R :=
  fun c cs _ => let ⟨v, w', r, s⟩ := h c cs; ⟨v, w', r, stepsIn_wide.2 s⟩
theorem roundIn_any {m : Nat} {l : Nat} {f : FuncId} {tmps : Array Value} {assign body : Code} {w : World} {R : Ending → World → Prop} (h : RoundIn Fence.wide n P l f tmps assign body w R) : RoundIn (wideR ro) m P l f tmps assign body w R :=
  ⟨trivial, fun c cs _ => h.2 c cs (room_wide _)⟩
def isDefer : Op → Bool
  | .defer _ => true
  | _ => false
theorem not_defer {o : Oper} (h : isDefer o.op = false) : ∀ c, o.op ≠ .defer c := fun c e => by rw [e] at h; cases h
theorem semAt_any {o : Oper} (h : isDefer o.op = false) (ρ : Operand → Value) : o.semAt (wideR ro).round ρ = execOp ρ o := by
  cases ro with
  | none => rfl
  | some l => exact Oper.semAt_some l ρ o (not_defer h)
theorem opIn {o : Oper} {a : Act} {w : World} {K : Act → World → Prop} {Q : Exit → Act → World → Prop} (hnd : isDefer o.op = false) (h : o.wp P a w K Q) : o.wpIn (wideR ro) n P a w K Q := by
  refine ⟨fun _ _ => trivial, ?_⟩
  rw [semAt_any hnd]
  unfold Oper.wp at h
  generalize (execOp a.eval o).run P w = r at *
  cases r with
  | ok x w' =>
    cases x <;> simp only [Oper.upon, Oper.uponIn] at h ⊢ <;>
      first
        | exact h
        | exact ⟨fun h => (by cases h), callsIn_wideR.2 (Calls.mono h fun e w'' he => by cases e <;> exact he)⟩
        | exact ⟨fun h => (by cases h), rowsIn_wideR h⟩
        | exact h.elim
  | halt x w' => cases x <;> simp only [Oper.upon, Oper.uponIn] at h ⊢ <;> exact h
theorem anyIn {md : Region.Mode} {ops : Array Oper} {Q : Exit → Act → World → Prop} (hlo : ¬ LetsOut Q) (hnd : ∀ (i : Nat) o, ops[i]? = some o → isDefer o.op = false) : ∀ (fuel : Nat) (listed : Array Bool) (a : Act) (w : World),
    wpAny P md ops Q fuel listed a w → wpAnyIn (wideR ro) n P md ops Q fuel listed a w
  | 0, listed, a, w, h => h
  | fuel + 1, listed, a, w, h => by
    refine ⟨h.1, fun i hi => ?_⟩
    have := wpOp_mono (fun a w h => anyIn hlo hnd fuel _ a w h) (h.2 i hi)
    unfold wpOp at this
    unfold wpOpIn
    split
    · rename_i ho; simpa [ho] using this
    · rename_i o ho
      simp only [ho] at this
      split
      · rename_i hw
        simp only [hw, if_true] at this
        rcases this with this | ⟨_, hl⟩
        · exact opIn (hnd i o ho) this
        · exact absurd hl hlo
      · rename_i hw
        simp only [hw] at this
        exact ⟨fun _ _ => trivial, this⟩

theorem vcEffP_in {A : Ann} {o : Oper} {e : Env} {h : Heap} {K : Option Value → Heap → Prop} {a : Act} {w : World} {next : Act → World → Prop} {Q : Exit → Act → World → Prop}
    (hnd : isDefer o.op = false) (hpan : A.pans = none) (hA : Agree e a.tmps) (hw : w.heap = h) (hn : Nexts o a w K next) (H : vcEffP P A o e h K) : o.wpIn (wideR ro) n P a w next Q := by
  unfold vcEffP at H
  split at H
  · split at H
    · rename_i c ho
      split at H
      · rename_i f hc
        split at H
        · rename_i l first captured vs hf hv
          have e1 := opv_eval hA hf
          have e2 := opvs_arr hA hv
          have harr : (first.toList ++ vs).toArray = first ++ vs.toArray := by apply Array.ext'; simp
          rw [harr] at H
          have hr : execOp a.eval o = Instr.yield l (first ++ vs.toArray) := by
            simp only [execOp, ho, resolve, hc, e1, e2, Deferred.ofValue]
            rfl
          obtain ⟨fn, tmps, asg, body, hrun, hR⟩ := H w hw
          refine ⟨fun _ _ => trivial, ?_⟩
          rw [semAt_any hnd, hr, hrun]
          simp only [Oper.uponIn]
          refine ⟨fun h => (by cases h), (roundIn_any hR).mono fun en w' ⟨v, he, hk, hv⟩ => ?_⟩
          subst he
          obtain ⟨u, rfl, hK⟩ := withSh_some hv
          exact hn _ _ _ hK (.inr rfl) hk
        · exact opIn hnd (vcEff_sound hA hw hn H)
      · exact opIn hnd (vcEff_sound hA hw hn H)
    · exact opIn hnd (vcEff_sound hA hw hn H)
  · rw [hpan] at H
    exact opIn hnd (vcEff_sound hA hw hn H)

theorem vcOps_in {A : Ann} (hpan : A.pans = none) {all : List Oper} {W : List Nat} {Q : Exit → Act → World → Prop} {K : Env → Heap → Prop} : ∀ (l : List Oper) {e : Env} {h : Heap} {a : Act} {w : World},
    (∀ o ∈ l, isDefer o.op = false) → (∀ o ∈ l, ∀ n, o.dst = some n → n ∈ W) → Agree e a.tmps → w.heap = h → a.defers = D → Behind D w a W K (fun a w => Q .normal a w) → vcOps P A all l e h K → wpListIn (wideR ro) n P all.toArray Q l a w
  | [], e, h, a, w, _, _, hA, hw, hdf, hB, H => hB e a w hA (by rw [hw]; exact H) (Kin.refl w) hdf (Off.refl _ _)
  | o :: r, e, h, a, w, hnd, hW, hA, hw, hdf, hB, H => by
    have rest : ∀ {e' : Env} {u : Value} {w' : World} {h' : Heap}, Agree e' (a.put o.dst u).tmps → w'.heap = h' → (a.put o.dst u).defers = D → Kin w w' → vcOps P A all r e' h' K → wpListIn (wideR ro) n P all.toArray Q r (a.put o.dst u) w' :=
      fun hA' hw' hd' hk H' => vcOps_in hpan r (fun p hp => hnd p (by simp [hp])) (fun p hp => hW p (by simp [hp])) hA' hw' hd' (fun e2 a2 w2 g1 g2 g3 g4 g5 => hB e2 a2 w2 g1 g2 (hk.trans g3) g4 ((Off.put a o.dst _ (hW o (by simp))).trans g5)) H'
    have run : ∀ {e1 : Env}, Agree e1 a.tmps → (vcEffP P A o e1 h fun v h' => vcOps P A all r (Env.put e1 o.dst v) h' K) → o.wpIn (wideR ro) n P a w (wpListIn (wideR ro) n P all.toArray Q r) Q := by
      intro e1 hA1 H1
      refine vcEffP_in (hnd o (by simp)) hpan hA1 hw (fun v u w' hv hu hk => ?_) H1
      exact rest (hA1.put' o.dst u hu) rfl (by rw [put_defers]; exact hdf) hk hv
    simp only [vcOps, withEnv_eq] at H
    unfold wpListIn
    split at H
    · rename_i hg
      rw [if_pos (by simp [Region.wanted, hg])]
      exact run hA H
    · rename_i j want hg
      split at H
      case h_2 => exact H.elim
      rename_i d hd
      have hd' : (all.toArray[j]?).bind (·.dst) = some d := by simpa using hd
      split at H
      · rename_i b hb
        have hy := yielded_bool hA hd' hb
        split at H
        · cases b
          · rw [if_neg (by simp [Region.wanted, hg, hy])]
            exact ⟨fun _ _ => trivial, rest ((hA.lit hb rfl).put' o.dst undef (.inr rfl)) hw (by rw [put_defers]; exact hdf) (Kin.refl w) H⟩
          · rw [if_pos (by simp [Region.wanted, hg, hy])]
            exact run (hA.lit hb rfl) H
        · cases b
          · rw [if_pos (by simp [Region.wanted, hg, hy])]
            exact run (hA.lit hb rfl) H
          · rw [if_neg (by simp [Region.wanted, hg, hy])]
            exact ⟨fun _ _ => trivial, rest ((hA.lit hb rfl).put' o.dst undef (.inr rfl)) hw (by rw [put_defers]; exact hdf) (Kin.refl w) H⟩
      · rename_i vs hb
        have hy := yielded_tuple hA hd' hb
        rw [if_neg (by simp [Region.wanted, hg, hy])]
        exact ⟨fun _ _ => trivial, rest (hA.put' o.dst undef (.inr rfl)) hw (by rw [put_defers]; exact hdf) (Kin.refl w) H⟩
      · exact H.elim

/-- no scopes, no ranges over functions, no deferred calls -/
def plainC : Code → Bool
  | .region _ ops _ => ops.toList.all fun o => !isDefer o.op
  | .seq a b => plainC a && plainC b
  | .cond _ a b => plainC a && plainC b
  | .block _ b => plainC b
  | .loop b => plainC b
  | .skip | .exit _ | .ret => true
  | _ => false
theorem vcI_sound {A : Ann} (hm : P.follows .mixedOrders = true) (hpan : A.pans = none) (hpf : ∀ h, ¬ A.pan h) : ∀ (c : Code) {Qv : Ex → Env → Heap → Prop} {Q : Exit → Act → World → Prop} {e : Env} {h : Heap} {a : Act} {w : World},
    plainC c = true → drawsOk A c = true → Agree e a.tmps → w.heap = h → a.defers = D → Answers D w a (writes c) Qv Q → ¬ LetsOut Q → vcS P A c none Qv e h → c.wpIn (wideR ro) n P Q a w
  | .skip, Qv, Q, e, h, a, w, _, _, hA, hw, hdf, hQ, hlo, H => wpIn_skip (hQ .normal .normal e a w rfl hA (by rw [hw]; exact H) (Kin.refl w) hdf (Off.refl _ _))
  | .exit i, Qv, Q, e, h, a, w, _, _, hA, hw, hdf, hQ, hlo, H => wpIn_exit (hQ (.exit i) (.exit i) e a w rfl hA (by rw [hw]; exact H) (Kin.refl w) hdf (Off.refl _ _))
  | .ret, Qv, Q, e, h, a, w, _, _, hA, hw, hdf, hQ, hlo, H => wpIn_ret (hQ .ret .ret e a w rfl hA (by rw [hw]; exact H) (Kin.refl w) hdf (Off.refl _ _))
  | .region id ops draw, Qv, Q, e, h, a, w, hpl, hok, hA, hw, hdf, hQ, hlo, H => by
    simp only [vcS] at H
    have hnd : ∀ o ∈ ops.toList, isDefer o.op = false := fun o ho => by
      have := List.all_eq_true.1 hpl o ho
      simpa using this
    have hB : Behind D w a (ops.toList.filterMap (·.dst)) (fun e' h' => Qv .normal e' h') (fun a w => Q .normal a w) := fun e' a' w' g1 g2 g3 g4 g5 => hQ .normal .normal e' a' w' rfl g1 g2 g3 g4 g5
    cases draw with
    | false =>
      simp only [vcRegion] at H
      split at H
      · exact H.elim
      · have := vcOps_in (ro := ro) (n := n) hpan (W := ops.toList.filterMap (·.dst)) ops.toList hnd (fun o ho n hn => List.mem_filterMap.2 ⟨o, ho, hn⟩) hA hw hdf hB H
        exact wpIn_region_list (by simpa using this)
    | true =>
      have := vcRegion_any (id := id) (fun h => by cases h) hok hA hw hdf hB (fun _ _ _ _ hp => absurd hp (hpf _)) H
      exact wpIn_region_any hm (anyIn hlo (fun i o ho => hnd o (by
        have := Array.mem_of_getElem? ho
        simpa using this)) _ _ _ _ this)
  | .seq x y, Qv, Q, e, h, a, w, hpl, hok, hA, hw, hdf, hQ, hlo, H => by
    simp only [plainC, Bool.and_eq_true] at hpl
    simp only [drawsOk, Bool.and_eq_true] at hok
    have up : ∀ n, n ∈ writes x → n ∈ writes (.seq x y) := fun n hn => by simp [writes, hn]
    simp only [vcS] at H
    split at H
    · refine wpIn_seq (vcI_sound hm hpan hpf x hpl.1 hok.1 hA hw hdf ?_ (fun ⟨a, w, h⟩ => hlo ⟨a, w, h⟩) H)
      intro ex ext e' a' w' hx g1 g2 g3 g4 g5
      cases ext <;> simp only [exOf, Option.some.injEq, reduceCtorEq] at hx <;> subst hx
      · refine vcI_sound hm hpan hpf y hpl.2 hok.2 g1 rfl g4 ?_ hlo g2
        intro ex2 ext2 e2 a2 w2 hx2 k1 k2 k3 k4 k5
        exact hQ ex2 ext2 e2 a2 w2 hx2 k1 k2 (g3.trans k3) k4 ((g5.mono up).trans (k5.mono fun n hn => by simp [writes, hn]))
      all_goals exact hQ _ _ e' a' w' rfl g1 g2 g3 g4 (g5.mono up)
    · rename_i l hc
      obtain ⟨I, h1, h2⟩ := H
      refine wpIn_seq (vcI_sound hm hpan hpf x hpl.1 hok.1 hA hw hdf ?_ (fun ⟨a, w, h⟩ => hlo ⟨a, w, h⟩) h1)
      intro ex ext e' a' w' hx g1 g2 g3 g4 g5
      cases ext <;> simp only [exOf, Option.some.injEq, reduceCtorEq] at hx <;> subst hx
      · obtain ⟨e1, k1, k2, k3⟩ := forget hA g1 g5 g2 (h2 w'.heap)
        refine vcI_sound hm hpan hpf y hpl.2 hok.2 k1 rfl g4 ?_ hlo k3
        intro ex2 ext2 e2 a2 w2 hx2 m1 m2 m3 m4 m5
        exact hQ ex2 ext2 e2 a2 w2 hx2 m1 m2 (g3.trans m3) m4 ((g5.mono up).trans (m5.mono fun n hn => by simp [writes, hn]))
      all_goals exact hQ _ _ e' a' w' rfl g1 g2 g3 g4 (g5.mono up)
  | .cond c x y, Qv, Q, e, h, a, w, hpl, hok, hA, hw, hdf, hQ, hlo, H => by
    simp only [plainC, Bool.and_eq_true] at hpl
    simp only [drawsOk, Bool.and_eq_true] at hok
    simp only [vcS] at H
    split at H
    case h_2 => exact H.elim
    rename_i t ht
    have hc := opv_eval hA ht
    cases t
    · exact wpIn_cond_false hc (vcI_sound hm hpan hpf y hpl.2 hok.2 hA hw hdf (fun ex ext e' a' w' hx g1 g2 g3 g4 g5 => hQ ex ext e' a' w' hx g1 g2 g3 g4 (g5.mono fun n hn => by simp [writes, hn])) hlo H)
    · exact wpIn_cond_true hc (vcI_sound hm hpan hpf x hpl.1 hok.1 hA hw hdf (fun ex ext e' a' w' hx g1 g2 g3 g4 g5 => hQ ex ext e' a' w' hx g1 g2 g3 g4 (g5.mono fun n hn => by simp [writes, hn])) hlo H)
  | .block id b, Qv, Q, e, h, a, w, hpl, hok, hA, hw, hdf, hQ, hlo, H => by
    simp only [plainC] at hpl
    simp only [drawsOk] at hok
    refine wpIn_block (vcI_sound hm hpan hpf b hpl hok hA hw hdf ?_ (fun ⟨a, w, h⟩ => hlo ⟨a, w, h⟩) H)
    intro ex ext e' a' w' hx g1 g2 g3 g4 g5
    cases ext <;> simp only [exOf, Option.some.injEq, reduceCtorEq] at hx <;> subst hx
    case exit i =>
      simp only [Exit.inBlock]
      simp only at g2
      split at g2
      · rename_i hi
        rw [if_pos (Nat.eq_of_beq_eq_true hi)]
        exact hQ _ _ e' a' w' rfl g1 g2 g3 g4 g5
      · rename_i hi
        rw [if_neg (fun h => by subst h; simp at hi)]
        exact hQ _ _ e' a' w' rfl g1 g2 g3 g4 g5
    all_goals exact hQ _ _ e' a' w' rfl g1 g2 g3 g4 g5
  | .loop b, Qv, Q, e, h, a, w, hpl, hok, hA, hw, hdf, hQ, hlo, H => by
    simp only [plainC] at hpl
    simp only [drawsOk] at hok
    simp only [vcS] at H
    split at H
    case h_2 => exact H.elim
    rename_i l hl
    obtain ⟨I, M, h0, hr⟩ := H
    refine wpIn_loop (fun a1 w1 => ∃ e', Agree e' a1.tmps ∧ invAt l I e' w1.heap ∧ Kin w w1 ∧ a1.defers = D ∧ Off (writes b) a a1) (fun a1 w1 => measOf l M (fun n => a1.tmps.getD n undef) w1.heap)
      ⟨e, hA, by rw [hw]; exact h0, Kin.refl w, hdf, Off.refl _ _⟩ ?_
    rintro a1 w1 ⟨e', g1, g2, g3, g4, g5⟩
    obtain ⟨e1, k1, k2, k3⟩ := forget hA g1 g5 g2 (hr w1.heap)
    have hb := measAt_of l M k1 k3
    refine vcI_sound hm hpan hpf b hpl hok k1 rfl g4 ?_ (fun ⟨a, w, h⟩ => hlo ⟨a, w, h⟩) hb
    intro ex ext e2 a2 w2 hx m1 m2 m3 m4 m5
    cases ext <;> simp only [exOf, Option.some.injEq, reduceCtorEq] at hx <;> subst hx
    · obtain ⟨n1, n2⟩ := m2
      exact ⟨⟨e2, m1, n1, g3.trans m3, m4, g5.trans m5⟩, measAt_of l M (f := fun x => x < measOf l M (fun n => a1.tmps.getD n undef) w1.heap) m1 n2⟩
    all_goals exact hQ _ _ e2 a2 w2 rfl m1 m2 (g3.trans m3) m4 (g5.trans m5)
  | .label _, _, _, _, _, _, _, hpl, _, _, _, _, _, _, _ | .goto _, _, _, _, _, _, _, hpl, _, _, _, _, _, _, _ | .scope _, _, _, _, _, _, _, hpl, _, _, _, _, _, _, _ | .rangeFunc _ _ _ _, _, _, _, _, _, _, hpl, _, _, _, _, _, _, _ | .refuse _, _, _, _, _, _, _, hpl, _, _, _, _, _, _, _ => by cases hpl
end Go.Vc
