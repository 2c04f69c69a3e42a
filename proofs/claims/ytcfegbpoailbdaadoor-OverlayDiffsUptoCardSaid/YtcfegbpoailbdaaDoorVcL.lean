import Derived.Test.YtcfegbpoailbdaaDoorVcI

namespace Go.Vc
set_option linter.unusedVariables false
section
variable {P : Program} {ops : Array Oper} {md : Region.Mode}

/-- the world has only grown -/
def Up (w w' : World) : Prop := Kin w w' ∧ Ext w.heap w'.heap
theorem Up.refl (w : World) : Up w w := ⟨Kin.refl w, Ext.refl _⟩
theorem Up.trans {a b c : World} (h : Up a b) (k : Up b c) : Up a c := ⟨h.1.trans k.1, h.2.trans k.2⟩

/-- In state 'a', in every world grown out of w0, the operation leaves v in its temporary; and a world grown out of the one that it got. -/
def YU (P : Program) (ops : Array Oper) (w0 : World) (o : Oper) (v : Value) (a : Act) : Prop :=
  (Region.wanted o (yielded ops a.tmps) = true ∧ ∀ w, Up w0 w → Oper.quietUpon P (Up w) w v ((execOp a.eval o).run P w)) ∨
  (Region.wanted o (yielded ops a.tmps) = false ∧ v = undef)
/-- .. the operation makes the block ob, and leaves its value. -/
def EY (P : Program) (ops : Array Oper) (w0 : World) (o : Oper) (ob : Obj) (mk : Nat → Value) (a : Act) : Prop :=
  Region.wanted o (yielded ops a.tmps) = true ∧ ∀ w, Up w0 w → ∃ w', (execOp a.eval o).run P w = .ok (.value (mk w.heap.size)) w' ∧ w'.heap = w.heap.push ob ∧ Kin w w'

theorem YU.put {w0 : World} {oi oj : Oper} {v u : Value} {a : Act} (hy : YU P ops w0 oi v a) (hs : ∀ cs b, oi.op ≠ .select cs b) (h : ∀ d, oj.dst = some d → d ∉ oi.looksAt ops) : YU P ops w0 oi v (a.put oj.dst u) := by
  unfold YU at *
  rwa [execOp_put oi hs a oj.dst u h, wanted_put oi a oj.dst u h]
theorem EY.put {w0 : World} {oi oj : Oper} {ob : Obj} {mk : Nat → Value} {u : Value} {a : Act} (hy : EY P ops w0 oi ob mk a) (hs : ∀ cs b, oi.op ≠ .select cs b) (h : ∀ d, oj.dst = some d → d ∉ oi.looksAt ops) : EY P ops w0 oi ob mk (a.put oj.dst u) := by
  unfold EY at *
  rwa [execOp_put oi hs a oj.dst u h, wanted_put oi a oj.dst u h]

/-- Whatever order is picked among the first n + 1 operations, of which number n makes the block. 'bk': the block, once it is made. -/
def wpX (P : Program) (md : Region.Mode) (ops : Array Oper) (w0 : World) (n : Nat) (ob : Obj) (mk : Nat → Value) (L : Option Nat → Array Bool → Act → Prop) : Nat → Option Nat → Array Bool → Act → Prop
  | 0, bk, listed, a => L bk listed a
  | g + 1, bk, listed, a => Region.ready md ops listed ≠ [] ∧ ∀ i ∈ Region.ready md ops listed, ∃ o, ops[i]? = some o ∧
      ((i < n ∧ ∃ v, YU P ops w0 o v a ∧ wpX P md ops w0 n ob mk L g bk (listed.setIfInBounds i true) (a.put o.dst v)) ∨
       (i = n ∧ bk = none ∧ EY P ops w0 o ob mk a ∧ ∀ b, wpX P md ops w0 n ob mk L g (some b) (listed.setIfInBounds i true) (a.put o.dst (mk b))))

theorem wpAny_of_X {w0 : World} {n g' : Nat} {ob : Obj} {mk : Nat → Value} {L : Option Nat → Array Bool → Act → Prop} {Q' : Exit → Act → World → Prop}
    (hL : ∀ bk listed a w, Up w0 w → (∀ b, bk = some b → w0.heap.size ≤ b ∧ w.heap[b]? = some ob) → L bk listed a → wpAny P md ops Q' g' listed a w) :
    ∀ (g : Nat) (bk : Option Nat) (listed : Array Bool) (a : Act) (w : World), Up w0 w → (∀ b, bk = some b → w0.heap.size ≤ b ∧ w.heap[b]? = some ob) → wpX P md ops w0 n ob mk L g bk listed a → wpAny P md ops Q' (g + g') listed a w
  | 0, bk, listed, a, w, hu, hb, h => by rw [Nat.zero_add]; exact hL _ _ _ _ hu hb h
  | g + 1, bk, listed, a, w, hu, hb, h => by
    rw [show g + 1 + g' = (g + g') + 1 by omega]
    refine ⟨fun h0 => absurd h0 h.1, fun i hi => ?_⟩
    obtain ⟨o, ho, h⟩ := h.2 i hi
    have keep : ∀ w', Up w w' → ∀ b, bk = some b → w0.heap.size ≤ b ∧ w'.heap[b]? = some ob := fun w' hw' b e => by
      obtain ⟨h1, h2⟩ := hb b e
      refine ⟨h1, (hw'.2.block b ?_).trans h2⟩
      by_cases hlt : b < w.heap.size
      · exact hlt
      · have : w.heap[b]? = none := by simp; omega
        rw [this] at h2; cases h2
    unfold wpOp
    simp only [ho]
    rcases h with ⟨_, v, hy, hx⟩ | ⟨_, hbk, hy, hx⟩
    · rcases hy with ⟨hw, hq⟩ | ⟨hw, rfl⟩
      · rw [if_pos hw]
        refine .inl ?_
        have hq := hq w hu
        unfold Oper.wp
        generalize (execOp a.eval o).run P w = r at *
        cases r with
        | halt x w' => exact hq.elim
        | ok x w' =>
          cases x <;> simp only [Oper.quietUpon] at hq
          case value u =>
            obtain ⟨rfl, rfl⟩ := hq
            exact wpAny_of_X hL g bk _ _ w' hu hb hx
          case skip =>
            obtain ⟨rfl, rfl⟩ := hq
            exact wpAny_of_X hL g bk _ _ w' hu hb hx
          case enter f args =>
            obtain ⟨rfl, hc⟩ := hq
            simp only [Oper.upon]
            exact hc.mono fun e w'' ⟨he, hw''⟩ => by subst he; exact wpAny_of_X hL g bk _ _ w'' (hu.trans hw'') (keep w'' hw'') hx
      · rw [if_neg (by rw [hw]; simp)]
        exact wpAny_of_X hL g bk _ _ w hu hb hx
    · rw [if_pos hy.1]
      refine .inl ?_
      obtain ⟨w', hr, hp, hk⟩ := hy.2 w hu
      unfold Oper.wp
      rw [hr]
      refine wpAny_of_X hL g (some w.heap.size) _ _ w' (hu.trans ⟨hk, by rw [hp]; exact Ext.push _ _⟩) ?_ (hx w.heap.size)
      intro b e
      obtain rfl := Option.some.inj e
      exact ⟨hu.2.size, by rw [hp]; simp⟩

/-- An operation of the head that may come up now may be taken first. -/
theorem wpX_first {w0 : World} {n i : Nat} {ob : Obj} {mk : Nat → Value} {oi : Oper} {v : Value} {L : Option Nat → Array Bool → Act → Prop} (hi : ops[i]? = some oi) (hsel : ∀ (j : Nat) (o : Oper) cs b, ops[j]? = some o → o.op ≠ .select cs b)
    (hs : Region.sinkB md ops (n + 1) = true) (hc : Region.chainB md ops (n + 1) = true) (hn : n + 1 < ops.size) (hin : i < n)
    (hdone : ∀ bk listed a, L bk listed a → ∀ j ∈ Region.ready md ops listed, n + 1 ≤ j) :
    ∀ (g : Nat) (bk : Option Nat) (listed : Array Bool) (a : Act), HeadInv md ops (n + 1) listed →
      (∀ j oj, ops[j]? = some oj → j ≠ i → listed.getD j true = false → (∀ e ∈ oj.after, Region.binds md e = true → e.on ≠ i) → oi.apart ops oj = true) →
      i ∈ Region.ready md ops listed → YU P ops w0 oi v a →
      wpX P md ops w0 n ob mk L g bk (listed.setIfInBounds i true) (a.put oi.dst v) → wpX P md ops w0 n ob mk L (g + 1) bk listed a := by
  intro g
  induction g with
  | zero =>
    intro bk listed a inv _ hr hy H
    have hun := (mem_ready.1 hr).1
    refine ⟨fun h => (by rw [h] at hr; cases hr), fun j hj => ?_⟩
    have hjn : j < n + 1 := by
      rcases Nat.lt_or_ge j (n + 1) with h | h
      · exact h
      · exact absurd hj (tail_waits hs hc hn inv _ i rfl (by omega) hun j h)
    by_cases hji : j = i
    · subst hji; exact ⟨oi, hi, .inl ⟨hin, v, hy, H⟩⟩
    · have := hdone _ _ _ H j (ready_mono hj hji)
      omega
  | succ g ih =>
    intro bk listed a inv hfree hr hy H
    have hun := (mem_ready.1 hr).1
    refine ⟨fun h => (by rw [h] at hr; cases hr), fun j hj => ?_⟩
    have hjn : j < n + 1 := by
      rcases Nat.lt_or_ge j (n + 1) with h | h
      · exact h
      · exact absurd hj (tail_waits hs hc hn inv _ i rfl (by omega) hun j h)
    by_cases hji : j = i
    · subst hji; exact ⟨oi, hi, .inl ⟨hin, v, hy, H⟩⟩
    · obtain ⟨hjun, oj, hoj, hall⟩ := mem_ready.1 hj
      have hnot : ∀ e ∈ oj.after, Region.binds md e = true → e.on ≠ i := fun e he hb heq => by
        have h1 := hall e he hb
        rw [heq, getD_both hun] at h1
        cases h1
      have hap := hfree j oj hoj hji hjun hnot
      obtain ⟨h1, h2, h3⟩ := Oper.apart_spec hap
      have hsi := fun cs b => hsel i oi cs b hi
      have hsj := fun cs b => hsel j oj cs b hoj
      have hfree' : ∀ k ok, ops[k]? = some ok → k ≠ i → (listed.setIfInBounds j true).getD k true = false →
          (∀ e ∈ ok.after, Region.binds md e = true → e.on ≠ i) → oi.apart ops ok = true := fun k ok hk hki hun hno => by
        refine hfree k ok hk hki ?_ hno
        by_cases hjk : j = k
        · subst hjk; exact hjun
        · rw [getD_set_ne true hjk] at hun; exact hun
      obtain ⟨oj', hoj', hX⟩ := H.2 j (ready_mono hj hji)
      obtain rfl : oj' = oj := Option.some.inj (hoj'.symm.trans hoj)
      refine ⟨oj', hoj, ?_⟩
      have go : ∀ u bk', wpX P md ops w0 n ob mk L g bk' ((listed.setIfInBounds i true).setIfInBounds j true) ((a.put oi.dst v).put oj'.dst u) →
          wpX P md ops w0 n ob mk L (g + 1) bk' (listed.setIfInBounds j true) (a.put oj'.dst u) := fun u bk' hx => by
        refine ih bk' (listed.setIfInBounds j true) (a.put oj'.dst u) (inv.set hj hjn) hfree' (ready_mono hr (Ne.symm hji)) (hy.put hsi h3) ?_
        rw [Array.setIfInBounds_comm _ _ (fun h => hji h.symm), Act.put_comm a v u h2] at hx
        exact hx
      rcases hX with ⟨hjl, u, hyj, hx⟩ | ⟨hje, hbk, hyj, hx⟩
      · refine .inl ⟨hjl, u, ?_, go u bk hx⟩
        unfold YU at hyj ⊢
        rwa [execOp_put oj' hsj a oi.dst v h1, wanted_put oj' a oi.dst v h1] at hyj
      · refine .inr ⟨hje, hbk, ?_, fun b => go (mk b) (some b) (hx b)⟩
        unfold EY at hyj ⊢
        rwa [execOp_put oj' hsj a oi.dst v h1, wanted_put oj' a oi.dst v h1] at hyj

/-- the head in the order of the text; E: what holds of the frame behind it -/
def wpU (P : Program) (ops : Array Oper) (w0 : World) (E : Act → Prop) : List Oper → Act → Prop
  | [], a => E a
  | o :: l, a => ∃ v, YU P ops w0 o v a ∧ wpU P ops w0 E l (a.put o.dst v)
theorem wpU_out {w0 : World} {α β : Type} {E : α → β → Act → Prop} : ∀ (l : List Oper) (a : Act), wpU P ops w0 (fun a => ∃ x y, E x y a) l a → ∃ x y, wpU P ops w0 (E x y) l a
  | [], a, h => h
  | o :: l, a, ⟨v, hy, h⟩ => let ⟨x, y, h⟩ := wpU_out l _ h; ⟨x, y, v, hy, h⟩

theorem wpX_lex {w0 : World} {n g : Nat} {ob : Obj} {mk : Nat → Value} {on : Oper} {Lq : Nat → Act → Prop} (hon : ops[n]? = some on) (hsel : Region.noSelect ops = true) (hs : Region.sinkB md ops (n + 1) = true) (hc : Region.chainB md ops (n + 1) = true) (hn : n + 1 < ops.size) :
    ∀ (l : List Oper) (k : Nat) (listed : Array Bool) (a : Act), (∀ j, j < l.length → l[j]? = ops[k + j]?) → k + l.length = n → HeadInv md ops (n + 1) listed →
    Region.lexHead md ops (g + 1) l.length k listed = true → wpU P ops w0 (fun a => EY P ops w0 on ob mk a ∧ ∀ b, Lq b (a.put on.dst (mk b))) l a →
    wpX P md ops w0 n ob mk (fun bk listed' a' => Region.seqB md ops g (n + 1) listed' = true ∧ ∃ b, bk = some b ∧ Lq b a') (l.length + 1) none listed a
  | [], k, listed, a, _, hk, _, hB, h => by
    have : k = n := by simpa using hk
    subst this
    simp only [List.length_nil, Region.lexHead, Region.seqB, Bool.and_eq_true, decide_eq_true_eq] at hB
    refine ⟨fun h0 => (by rw [hB.1] at h0; cases h0), fun i hi => ?_⟩
    rw [hB.1] at hi
    obtain rfl : i = k := by simpa using hi
    exact ⟨on, hon, .inr ⟨rfl, rfl, h.1, fun b => ⟨hB.2, b, rfl, h.2 b⟩⟩⟩
  | o :: l, k, listed, a, hl, hk, inv, hB, ⟨v, hy, h⟩ => by
    have h0 : ops[k]? = some o := by simpa using (hl 0 (by simp)).symm
    simp only [List.length_cons, Region.lexHead, Bool.and_eq_true] at hB
    obtain ⟨⟨hr, hf⟩, hB'⟩ := hB
    have hkn : k < n := by simp only [List.length_cons] at hk; omega
    have hr' : k ∈ Region.ready md ops listed := by simpa using hr
    exact wpX_first h0 (Region.noSelect_spec hsel) hs hc hn hkn (fun bk listed' a' hL => seqB_ready hL.1) (l.length + 1) none listed a inv (Region.free_spec h0 hf) hr' hy
      (wpX_lex hon hsel hs hc hn l (k + 1) _ _ (fun j hj => by have := hl (j + 1) (by simp; omega); simpa [Nat.add_assoc, Nat.add_comm 1 j] using this) (by simp only [List.length_cons] at hk; omega) (inv.set hr' (by omega)) hB' h)

def lexNewB (md : Region.Mode) (ops : Array Oper) (n : Nat) : Bool :=
  Region.noSelect ops && decide (n + 1 < ops.size) && Region.sinkB md ops (n + 1) && Region.chainB md ops (n + 1) && Region.lexHead md ops (ops.size - n) n 0 (Array.replicate ops.size false)

/-- A region that draws: the first n operations are quiet, number n makes a block, the others come in sequence. -/
theorem any_region_new {Q : Exit → Act → World → Prop} {a : Act} {w : World} {l : List Oper} (n : Nat) {on : Oper} (hon : l[n]? = some on) (hB : lexNewB .any l.toArray n = true)
    (h : wpU P l.toArray { w with drawn := w.drawn + 1 } (fun a => ∃ (ob : Obj) (mk : Nat → Value), EY P l.toArray { w with drawn := w.drawn + 1 } on ob mk a ∧
      ∀ b w', Up { w with drawn := w.drawn + 1 } w' → w.heap.size ≤ b → w'.heap[b]? = some ob → wpList P l.toArray Q (l.drop (n + 1)) (a.put on.dst (mk b)) w') (l.take n) a) : wpAny P .any l.toArray Q l.toArray.size (Array.replicate l.toArray.size false) a { w with drawn := w.drawn + 1 } := by
  simp only [lexNewB, Bool.and_eq_true, decide_eq_true_eq] at hB
  obtain ⟨⟨⟨⟨hsel, hn⟩, hs⟩, hc⟩, hlex⟩ := hB
  have hn' : n + 1 < l.length := by simpa using hn
  have htl : (l.take n).length = n := by simp; omega
  obtain ⟨ob, mk, h⟩ := wpU_out _ _ h
  have inv0 : HeadInv .any l.toArray (n + 1) (Array.replicate l.toArray.size false) :=
    ⟨by simp, fun j oj _ hl => (by rw [getD_replicate_false] at hl; cases hl), fun t _ ht => getD_in (by simpa using ht) (getD_replicate_false _ _)⟩
  have hg : l.toArray.size - n = (l.length - n - 1) + 1 := by simp; omega
  rw [hg] at hlex
  have hdl : (l.drop (n + 1)).length = l.length - n - 1 := by simp; omega
  have H := wpX_lex (md := .any) (g := l.length - n - 1) (on := on) (by simpa using hon) hsel hs hc hn (l.take n) 0 _ a (fun j hj => by
    have hj' : j < n := by rw [htl] at hj; exact hj
    simp [hj']) (by simpa using htl) inv0 (by rw [htl]; exact hlex)
    (Lq := fun b a' => ∀ w', Up { w with drawn := w.drawn + 1 } w' → w.heap.size ≤ b → w'.heap[b]? = some ob → wpList P l.toArray Q (l.drop (n + 1)) a' w') h
  have := wpAny_of_X (Q' := Q) (g' := l.length - n - 1) (fun bk listed a' w' hu hb hL => by
    obtain ⟨hsq, b, rfl, hL⟩ := hL
    obtain ⟨h1, h2⟩ := hb b rfl
    have := wpAny_of_seq (md := .any) (Q' := Q) (l.drop (n + 1)) (n + 1) listed a' w' (fun j => by simp [List.getElem?_drop]) (by rw [hdl]; exact hsq) (hL w' hu h1 h2)
    rwa [hdl] at this) _ none _ _ { w with drawn := w.drawn + 1 } (Up.refl _) (fun b e => by cases e) H
  rw [htl, show n + 1 + (l.length - n - 1) = l.toArray.size by simp; omega] at this
  exact this
end
end Go.Vc
