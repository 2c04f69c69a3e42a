import Derived.Test.YtcfegbpoailbdaaDoorVcL

namespace Go.Vc
set_option linter.unusedVariables false
set_option linter.unusedSimpArgs false
section
variable {P : Program} {ops : Array Oper} {md : Region.Mode} {Rl : Heap → Heap → Prop}

/-- nothing has turned but the memory, and that as Rl says -/
def UpR (Rl : Heap → Heap → Prop) (w w' : World) : Prop := Kin w w' ∧ Rl w.heap w'.heap
/-- In whatever world that may come now, the operation leaves v. -/
def YS (P : Program) (ops : Array Oper) (Rl : Heap → Heap → Prop) (o : Oper) (v : Value) (a : Act) (w : World) : Prop :=
  (Region.wanted o (yielded ops a.tmps) = true ∧ ∀ w', Rl w.heap w'.heap → (execOp a.eval o).run P w' = .ok (.value v) w') ∨
  (Region.wanted o (yielded ops a.tmps) = false ∧ v = undef)
def GStep (P : Program) (ops : Array Oper) (Rl : Heap → Heap → Prop) (o : Oper) (a : Act) (w : World) (K : Act → World → Prop) : Prop :=
  (Region.wanted o (yielded ops a.tmps) = true ∧ o.wp P a w (fun a' w' => ∃ u, a' = a.put o.dst u ∧ UpR Rl w w' ∧ K a' w') (fun _ _ _ => False)) ∨
  (Region.wanted o (yielded ops a.tmps) = false ∧ K (a.put o.dst undef) w)

theorem wp_more {o : Oper} {a : Act} {w : World} {K K' : Act → World → Prop} {Q : Exit → Act → World → Prop} (h : ∀ a w, K a w → K' a w) (hh : o.wp P a w K (fun _ _ _ => False)) : o.wp P a w K' Q := by
  unfold Oper.wp at *
  generalize (execOp a.eval o).run P w = r at *
  cases r with
  | ok n w' =>
    cases n <;> simp only [Oper.upon] at hh ⊢ <;>
      first
        | exact h _ _ hh
        | exact Calls.mono hh (fun e w'' he => by cases e <;> first | exact h _ _ he | exact he.elim | (obtain ⟨_, _, hf⟩ := he; exact hf.elim))
        | exact Rows.mono hh (fun _ _ he => h _ _ he)
        | exact hh.elim
  | halt x w' => cases x <;> simp only [Oper.upon] at hh ⊢ <;> exact hh.elim
theorem GStep.mono {Rl' : Heap → Heap → Prop} {o : Oper} {a : Act} {w : World} {K K' : Act → World → Prop} (hs : ∀ a b, Rl a b → Rl' a b) (hh : GStep P ops Rl o a w K) (h : ∀ a' w', UpR Rl w w' → K a' w' → K' a' w') (hr : ∀ h, Rl h h) : GStep P ops Rl' o a w K' :=
  hh.imp (fun ⟨h1, h2⟩ => ⟨h1, wp_more (fun a' w' ⟨u, e, hu, hk⟩ => ⟨u, e, ⟨hu.1, hs _ _ hu.2⟩, h _ _ hu hk⟩) h2⟩) fun ⟨h1, h2⟩ => ⟨h1, h _ _ ⟨Kin.refl w, hr _⟩ h2⟩
/-- what a step must keep: nothing, if it is the last one -/
def relX (Rl : Heap → Heap → Prop) (x : List Nat) (i : Nat) : Heap → Heap → Prop := fun a b => i ∈ x ∨ Rl a b
theorem relX_refl (hr : ∀ h, Rl h h) (x : List Nat) (i : Nat) : ∀ h, relX Rl x i h h := fun h => .inr (hr h)
theorem relX_of {x : List Nat} {i : Nat} (hx : i ∉ x) {a b : Heap} (h : relX Rl x i a b) : Rl a b := h.resolve_left hx
theorem put_defers_eq (a : Act) (d : Option Tmp) (v : Value) : (a.put d v).defers = a.defers := by cases d <;> rfl
/-- an operation's step does not look at a slot of another one -/
theorem GStep.put {oi o : Oper} {a : Act} {w : World} {v : Value} {K : Act → World → Prop} (hs : ∀ cs b, o.op ≠ .select cs b) (h1 : ∀ d, oi.dst = some d → d ∉ o.looksAt ops) (h2 : ∀ d, oi.dst = some d → o.dst ≠ some d)
    (h : GStep P ops Rl o (a.put oi.dst v) w K) : GStep P ops Rl o a w fun a' w' => K (a'.put oi.dst v) w' := by
  unfold GStep at *
  rw [wanted_put o a oi.dst v h1] at h
  refine h.imp (fun ⟨hw, h⟩ => ⟨hw, ?_⟩) fun ⟨hw, h⟩ => ⟨hw, by rwa [Act.put_comm a v undef h2] at h⟩
  have key : ∀ (u : Value) (w' : World), (∃ u', (a.put oi.dst v).put o.dst u = (a.put oi.dst v).put o.dst u' ∧ UpR Rl w w' ∧ K ((a.put oi.dst v).put o.dst u) w') → ∃ u', a.put o.dst u = a.put o.dst u' ∧ UpR Rl w w' ∧ K ((a.put o.dst u).put oi.dst v) w' := by
    rintro u w' ⟨u', _, hu, hk⟩
    exact ⟨u, rfl, hu, by rwa [← Act.put_comm a v u h2]⟩
  unfold Oper.wp at *
  rw [execOp_put o hs a oi.dst v h1] at h
  generalize (execOp a.eval o).run P w = r at *
  cases r with
  | ok n w' =>
    cases n <;> simp only [Oper.upon] at h ⊢
    case value u => exact key _ _ h
    case skip => exact key _ _ h
    case defer d =>
      exfalso
      obtain ⟨u, e, _⟩ := h
      have := congrArg Act.defers e
      simp only [put_defers_eq] at this
      exact List.cons_ne_self _ _ this
    case enter f args =>
      refine Calls.mono h fun e w'' he => ?_
      cases e with
      | returned u => exact key _ _ he
      | panicked c => exact he.elim
      | outgrown => exact he
    case row row args => exact Rows.mono h fun u w'' he => key _ _ he
  | halt x w' => cases x <;> simp only [Oper.upon] at h ⊢ <;> exact h.elim
theorem YS.step {Rl' : Heap → Heap → Prop} {o : Oper} {v : Value} {a : Act} {w : World} {K : Act → World → Prop} (hr : ∀ h, Rl h h) (hr' : ∀ h, Rl' h h) (hy : YS P ops Rl o v a w) (h : K (a.put o.dst v) w) : GStep P ops Rl' o a w K := by
  rcases hy with ⟨hw, hy⟩ | ⟨hw, rfl⟩
  · refine .inl ⟨hw, ?_⟩
    unfold Oper.wp
    rw [hy w (hr _)]
    exact ⟨v, rfl, ⟨Kin.refl w, hr' _⟩, h⟩
  · exact .inr ⟨hw, h⟩
theorem YS.put {oi oj : Oper} {v u : Value} {a : Act} {w w' : World} (ht : ∀ a b c, Rl a b → Rl b c → Rl a c) (hy : YS P ops Rl oi v a w) (hu : UpR Rl w w') (hs : ∀ cs b, oi.op ≠ .select cs b) (h : ∀ d, oj.dst = some d → d ∉ oi.looksAt ops) : YS P ops Rl oi v (a.put oj.dst u) w' := by
  unfold YS at *
  rw [execOp_put oi hs a oj.dst u h, wanted_put oi a oj.dst u h]
  exact hy.imp (fun ⟨h1, h2⟩ => ⟨h1, fun w2 h3 => h2 w2 (ht _ _ _ hu.2 h3)⟩) id

def wpAnyR (P : Program) (md : Region.Mode) (ops : Array Oper) (Rl : Heap → Heap → Prop) (x : List Nat) (L : Act → World → Prop) : Nat → Array Bool → Act → World → Prop
  | 0, listed, a, w => Region.ready md ops listed = [] ∧ L a w
  | g + 1, listed, a, w => (Region.ready md ops listed = [] → L a w) ∧ ∀ i ∈ Region.ready md ops listed, ∃ o, ops[i]? = some o ∧ GStep P ops (relX Rl x i) o a w (wpAnyR P md ops Rl x L g (listed.setIfInBounds i true))
theorem wpAny_of_R {x : List Nat} {Q : Exit → Act → World → Prop} : ∀ (g : Nat) (listed : Array Bool) (a : Act) (w : World), wpAnyR P md ops Rl x (fun a w => Q .normal a w) g listed a w → wpAny P md ops Q g listed a w
  | 0, _, _, _, h => h
  | g + 1, listed, a, w, h => by
    refine ⟨h.1, fun i hi => ?_⟩
    obtain ⟨o, ho, hs⟩ := h.2 i hi
    unfold wpOp
    simp only [ho]
    rcases hs with ⟨hw, hs⟩ | ⟨hw, hs⟩
    · rw [if_pos hw]
      exact .inl (wp_more (fun a' w' ⟨_, _, _, hk⟩ => wpAny_of_R g _ a' w' hk) hs)
    · rw [if_neg (by rw [hw]; simp)]
      exact wpAny_of_R g _ _ w hs

/-- what is listed came behind all that it waits for -/
def Closed (md : Region.Mode) (ops : Array Oper) (listed : Array Bool) : Prop := ∀ (j : Nat) (o : Oper), listed.getD j false = true → ops[j]? = some o → ∀ e ∈ o.after, Region.binds md e = true → listed.getD e.on false = true
theorem Closed.step {j : Nat} {listed : Array Bool} (c : Closed md ops listed) (hj : j ∈ Region.ready md ops listed) : Closed md ops (listed.setIfInBounds j true) := by
  intro k o hk ho e he hb
  by_cases hkj : k = j
  · subst hkj
    obtain ⟨_, o', ho', hall⟩ := mem_ready.1 hj
    obtain rfl : o' = o := Option.some.inj (ho'.symm.trans ho)
    exact getD_set_true (hall e he hb)
  · rw [getD_set_ne false (fun e => hkj e.symm)] at hk
    exact getD_set_true (c k o hk ho e he hb)
/-- x waits for i, at most g steps away -/
def waitsOn (md : Region.Mode) (ops : Array Oper) : Nat → Nat → Nat → Bool
  | 0, _, _ => false
  | g + 1, x, i => match ops[x]? with
    | some o => (o.after.toList.any fun e => Nat.beq e.on i && Region.binds md e) || o.after.toList.any fun e => Region.binds md e && waitsOn md ops g e.on i
    | none => false
theorem waitsOn_listed {listed : Array Bool} (c : Closed md ops listed) : ∀ (g : Nat) (x i : Nat) (o : Oper), ops[x]? = some o → (∀ e ∈ o.after, Region.binds md e = true → listed.getD e.on false = true) → waitsOn md ops g x i = true → listed.getD i false = true
  | 0, x, i, o, ho, hall, h => by cases h
  | g + 1, x, i, o, ho, hall, h => by
    simp only [waitsOn, ho, Bool.or_eq_true, List.any_eq_true, Bool.and_eq_true] at h
    rcases h with ⟨e, he, h1, h2⟩ | ⟨e, he, h1, h2⟩
    · have h3 := hall e (by simpa using he) h2
      rw [Nat.eq_of_beq_eq_true h1] at h3; exact h3
    · have h3 := hall e (by simpa using he) h1
      cases hy : ops[e.on]? with
      | none => cases g <;> simp [waitsOn, hy] at h2
      | some y => exact waitsOn_listed c g e.on i y hy (fun f hf hb => c e.on y h3 hy f hf hb) h2
def noXo (md : Region.Mode) (ops : Array Oper) (xs : List Nat) (i : Nat) (listed : Array Bool) : Bool := xs.all fun x => listed.getD x false || waitsOn md ops 10 x i
theorem noXo_mono {x : List Nat} {i j : Nat} {listed : Array Bool} (h : noXo md ops x i listed = true) : noXo md ops x i (listed.setIfInBounds j true) = true := by
  simp only [noXo, List.all_eq_true, Bool.or_eq_true] at h ⊢
  exact fun y hy => (h y hy).imp getD_set_true id
theorem noXo_step {x : List Nat} {i j : Nat} {listed : Array Bool} (c : Closed md ops listed) (h : noXo md ops x i listed = true) (hi : i ∈ Region.ready md ops listed) (hj : j ∈ Region.ready md ops listed) : j ∉ x := by
  intro hx
  obtain ⟨h0, o, ho, hall⟩ := mem_ready.1 hj
  simp only [noXo, List.all_eq_true, Bool.or_eq_true] at h
  rcases h j hx with h | h
  · rw [getD_both h0] at h; cases h
  · have h3 := waitsOn_listed c 10 j i o ho hall h
    rw [getD_both (mem_ready.1 hi).1] at h3
    cases h3
/-- A quiet operation that may come up now may be taken first. -/
theorem wpAnyR_first {x : List Nat} {L : Act → World → Prop} {i : Nat} {oi : Oper} {v : Value} (hr : ∀ h, Rl h h) (ht : ∀ a b c, Rl a b → Rl b c → Rl a c) (hi : ops[i]? = some oi) (hsel : ∀ (j : Nat) (o : Oper) cs b, ops[j]? = some o → o.op ≠ .select cs b) :
    ∀ (g : Nat) (listed : Array Bool) (a : Act) (w : World), noXo md ops x i listed = true → Closed md ops listed →
      (∀ j oj, ops[j]? = some oj → j ≠ i → listed.getD j true = false → (∀ e ∈ oj.after, Region.binds md e = true → e.on ≠ i) → oi.apart ops oj = true) →
      i ∈ Region.ready md ops listed → YS P ops Rl oi v a w →
      wpAnyR P md ops Rl x L g (listed.setIfInBounds i true) (a.put oi.dst v) w → wpAnyR P md ops Rl x L (g + 1) listed a w := by
  intro g
  induction g with
  | zero =>
    intro listed a w _ _ _ hrd hy H
    refine ⟨fun h => (by rw [h] at hrd; cases hrd), fun j hj => ?_⟩
    by_cases hji : j = i
    · subst hji; exact ⟨oi, hi, hy.step hr (relX_refl hr _ _) H⟩
    · have := ready_mono hj hji
      rw [H.1] at this
      cases this
  | succ g ih =>
    intro listed a w hno hcl hfree hrd hy H
    refine ⟨fun h => (by rw [h] at hrd; cases hrd), fun j hj => ?_⟩
    by_cases hji : j = i
    · subst hji; exact ⟨oi, hi, hy.step hr (relX_refl hr _ _) H⟩
    · have hxj := noXo_step hcl hno hrd hj
      obtain ⟨oj, hoj, h1⟩ := H.2 j (ready_mono hj hji)
      obtain ⟨hjun, oj', hoj', hall⟩ := mem_ready.1 hj
      obtain rfl : oj' = oj := Option.some.inj (hoj'.symm.trans hoj)
      have hnot : ∀ e ∈ oj'.after, Region.binds md e = true → e.on ≠ i := fun e he hb heq => by
        have h1 := hall e he hb
        rw [heq, getD_both (mem_ready.1 hrd).1] at h1
        cases h1
      obtain ⟨p1, p2, p3⟩ := Oper.apart_spec (hfree j oj' hoj hji hjun hnot)
      have hfree' : ∀ k ok, ops[k]? = some ok → k ≠ i → (listed.setIfInBounds j true).getD k true = false →
          (∀ e ∈ ok.after, Region.binds md e = true → e.on ≠ i) → oi.apart ops ok = true := fun k ok hk hki hun hno => by
        refine hfree k ok hk hki ?_ hno
        by_cases hjk : j = k
        · subst hjk; exact hjun
        · rw [getD_set_ne true hjk] at hun; exact hun
      have h2 := GStep.put (oi := oi) (fun cs b => hsel j oj' cs b hoj) p1 p2 h1
      refine ⟨oj', hoj, ?_⟩
      rw [Array.setIfInBounds_comm _ _ (Ne.symm hji)] at h2
      -- what comes of j, then i taken first
      rcases h2 with ⟨hw, h2⟩ | ⟨hw, h2⟩
      · refine .inl ⟨hw, wp_more (fun a' w' ⟨u, e, hu, hk⟩ => ⟨u, e, hu, ?_⟩) h2⟩
        subst e
        exact ih (listed.setIfInBounds j true) _ w' (noXo_mono hno) (hcl.step hj) hfree' (ready_mono hrd (Ne.symm hji)) (hy.put ht ⟨hu.1, relX_of hxj hu.2⟩ (fun cs b => hsel i oi cs b hi) p3) hk
      · exact .inr ⟨hw, ih (listed.setIfInBounds j true) _ w (noXo_mono hno) (hcl.step hj) hfree' (ready_mono hrd (Ne.symm hji)) (hy.put ht ⟨Kin.refl w, hr _⟩ (fun cs b => hsel i oi cs b hi) p3) h2⟩

def mixX (md : Region.Mode) (ops : Array Oper) (x : List Nat) : Mix → Array Bool → Bool
  | .done, listed => (Region.ready md ops listed).isEmpty
  | .quiet i r, listed => (Region.ready md ops listed).contains i && Region.free md ops listed i && noXo md ops x i listed && mixX md ops x r (listed.setIfInBounds i true)
  | .one i r, listed => decide (Region.ready md ops listed = [i]) && mixX md ops x r (listed.setIfInBounds i true)
  | .two i r j s, listed => decide (Region.ready md ops listed = [i, j]) && Nat.beq s.len r.len && mixX md ops x r (listed.setIfInBounds i true) && mixX md ops x s (listed.setIfInBounds j true)
  | .three i r j s k u, listed => decide (Region.ready md ops listed = [i, j, k]) && Nat.beq s.len r.len && Nat.beq u.len r.len && mixX md ops x r (listed.setIfInBounds i true) && mixX md ops x s (listed.setIfInBounds j true) && mixX md ops x u (listed.setIfInBounds k true)
  | .last i r, listed => x.any (fun j => Nat.beq j i) && decide (Region.ready md ops listed = [i]) && mixX md ops x r (listed.setIfInBounds i true)
def mixB (md : Region.Mode) (ops : Array Oper) (s : Mix) (listed : Array Bool) : Bool := mixX md ops s.exempt s listed
def wpMix (P : Program) (ops : Array Oper) (Rl : Heap → Heap → Prop) (L : Act → World → Prop) : Mix → Act → World → Prop
  | .done, a, w => L a w
  | .quiet i r, a, w => ∃ o v, ops[i]? = some o ∧ YS P ops Rl o v a w ∧ wpMix P ops Rl L r (a.put o.dst v) w
  | .one i r, a, w => ∃ o, ops[i]? = some o ∧ GStep P ops Rl o a w (wpMix P ops Rl L r)
  | .two i r j s, a, w => (∃ o, ops[i]? = some o ∧ GStep P ops Rl o a w (wpMix P ops Rl L r)) ∧ ∃ o, ops[j]? = some o ∧ GStep P ops Rl o a w (wpMix P ops Rl L s)
  | .three i r j s k u, a, w => (∃ o, ops[i]? = some o ∧ GStep P ops Rl o a w (wpMix P ops Rl L r)) ∧ (∃ o, ops[j]? = some o ∧ GStep P ops Rl o a w (wpMix P ops Rl L s)) ∧ ∃ o, ops[k]? = some o ∧ GStep P ops Rl o a w (wpMix P ops Rl L u)
  | .last i r, a, w => ∃ o, ops[i]? = some o ∧ GStep P ops (fun _ _ => True) o a w (wpMix P ops Rl L r)
theorem wpAnyR_of_mix {x : List Nat} {L : Act → World → Prop} (hr : ∀ h, Rl h h) (ht : ∀ a b c, Rl a b → Rl b c → Rl a c) (hsel : Region.noSelect ops = true) : ∀ (s : Mix) (listed : Array Bool) (a : Act) (w : World), Closed md ops listed → mixX md ops x s listed = true → wpMix P ops Rl L s a w → wpAnyR P md ops Rl x L s.len listed a w
  | .done, listed, a, w, hcl, hB, h => ⟨List.isEmpty_iff.1 hB, h⟩
  | .quiet i r, listed, a, w, hcl, hB, ⟨o, v, ho, hy, h⟩ => by
    simp only [mixX, Bool.and_eq_true] at hB
    obtain ⟨⟨⟨h1, h2⟩, h4⟩, h3⟩ := hB
    exact wpAnyR_first hr ht ho (Region.noSelect_spec hsel) r.len listed a w h4 hcl (Region.free_spec ho h2) (by simpa using h1) hy (wpAnyR_of_mix hr ht hsel r _ _ w (hcl.step (by simpa using h1)) h3 h)
  | .one i r, listed, a, w, hcl, hB, ⟨o, ho, h⟩ => by
    simp only [mixX, Bool.and_eq_true, decide_eq_true_eq] at hB
    obtain ⟨h1, h3⟩ := hB
    refine ⟨fun h0 => (by rw [h1] at h0; cases h0), fun j hj => ?_⟩
    rw [h1] at hj
    obtain rfl : j = i := by simpa using hj
    exact ⟨o, ho, h.mono (fun _ _ => .inr) (fun a' w' _ hk => wpAnyR_of_mix hr ht hsel r _ a' w' (hcl.step (by rw [h1]; simp)) h3 hk) hr⟩
  | .two i r j s, listed, a, w, hcl, hB, ⟨⟨o, ho, h⟩, ⟨o', ho', h'⟩⟩ => by
    simp only [mixX, Bool.and_eq_true, decide_eq_true_eq] at hB
    obtain ⟨⟨⟨h1, h2⟩, h3⟩, h4⟩ := hB
    have hl := Nat.eq_of_beq_eq_true h2
    refine ⟨fun h0 => (by rw [h1] at h0; cases h0), fun k hk => ?_⟩
    rw [h1] at hk
    simp only [List.mem_cons, List.not_mem_nil, or_false] at hk
    rcases hk with rfl | rfl
    · exact ⟨o, ho, h.mono (fun _ _ => .inr) (fun a' w' _ hk => wpAnyR_of_mix hr ht hsel r _ a' w' (hcl.step (by rw [h1]; simp)) h3 hk) hr⟩
    · refine ⟨o', ho', h'.mono (fun _ _ => .inr) (fun a' w' _ hk => ?_) hr⟩
      have := wpAnyR_of_mix hr ht hsel s _ a' w' (hcl.step (by rw [h1]; simp)) h4 hk
      rw [hl] at this; exact this
  | .three i r j s k u, listed, a, w, hcl, hB, ⟨⟨o, ho, h⟩, ⟨o', ho', h'⟩, ⟨o3, ho3, h3'⟩⟩ => by
    simp only [mixX, Bool.and_eq_true, decide_eq_true_eq] at hB
    obtain ⟨⟨⟨⟨⟨h1, h2⟩, h2'⟩, h3⟩, h4⟩, h5⟩ := hB
    have hl := Nat.eq_of_beq_eq_true h2
    have hl' := Nat.eq_of_beq_eq_true h2'
    refine ⟨fun h0 => (by rw [h1] at h0; cases h0), fun m hm => ?_⟩
    rw [h1] at hm
    simp only [List.mem_cons, List.not_mem_nil, or_false] at hm
    rcases hm with rfl | rfl | rfl
    · exact ⟨o, ho, h.mono (fun _ _ => .inr) (fun a' w' _ hk => wpAnyR_of_mix hr ht hsel r _ a' w' (hcl.step (by rw [h1]; simp)) h3 hk) hr⟩
    · refine ⟨o', ho', h'.mono (fun _ _ => .inr) (fun a' w' _ hk => ?_) hr⟩
      have := wpAnyR_of_mix hr ht hsel s _ a' w' (hcl.step (by rw [h1]; simp)) h4 hk
      rw [hl] at this; exact this
    · refine ⟨o3, ho3, h3'.mono (fun _ _ => .inr) (fun a' w' _ hk => ?_) hr⟩
      have := wpAnyR_of_mix hr ht hsel u _ a' w' (hcl.step (by rw [h1]; simp)) h5 hk
      rw [hl'] at this; exact this
  | .last i r, listed, a, w, hcl, hB, ⟨o, ho, h⟩ => by
    simp only [mixX, Bool.and_eq_true, decide_eq_true_eq] at hB
    obtain ⟨⟨h0, h1⟩, h3⟩ := hB
    refine ⟨fun h0 => (by rw [h1] at h0; cases h0), fun j hj => ?_⟩
    rw [h1] at hj
    obtain rfl : j = i := by simpa using hj
    have hx : j ∈ x := by
      obtain ⟨y, hy, e⟩ := List.any_eq_true.1 h0
      rw [← Nat.eq_of_beq_eq_true e]; exact hy
    exact ⟨o, ho, h.mono (fun _ _ _ => .inl hx) (fun a' w' _ hk => wpAnyR_of_mix hr ht hsel r _ a' w' (hcl.step (by rw [h1]; simp)) h3 hk) (fun _ => trivial)⟩

/-- A region that draws, in that order. -/
theorem any_region_mix {Q : Exit → Act → World → Prop} {a : Act} {w : World} {l : List Oper} (s : Mix) (hr : ∀ h, Rl h h) (ht : ∀ a b c, Rl a b → Rl b c → Rl a c)
    (hB : (Region.noSelect l.toArray && Nat.beq s.len l.length && mixB .any l.toArray s (Array.replicate l.toArray.size false)) = true)
    (h : wpMix P l.toArray Rl (fun a w => Q .normal a w) s a { w with drawn := w.drawn + 1 }) : wpAny P .any l.toArray Q l.toArray.size (Array.replicate l.toArray.size false) a { w with drawn := w.drawn + 1 } := by
  simp only [Bool.and_eq_true] at hB
  obtain ⟨⟨h1, h2⟩, h3⟩ := hB
  have := wpAny_of_R _ _ _ _ (wpAnyR_of_mix (md := .any) hr ht h1 s _ _ _ (fun j o hj => by simp [Array.getD_eq_getD_getElem?, Array.getElem?_replicate] at hj; split at hj <;> simp at hj) h3 h)
  have e := Nat.eq_of_beq_eq_true h2
  rw [show l.toArray.size = s.len by simp [e]]
  simpa [e] using this
end
end Go.Vc
