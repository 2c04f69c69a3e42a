import Derived.Test.YtcfegbpoailbdaaDoorVcL
import Derived.Test.YtcfegbpoailbdaaDoorVcZ
import Derived.ScopeJumps

namespace Go.Vc
set_option linter.unusedSimpArgs false
set_option linter.unusedVariables false
variable {P : Program} {D : List Deferred}

/-- Outside these slots the frame is as it was. -/
structure Off (W : List Nat) (a a' : Act) : Prop where
  size : a'.tmps.size = a.tmps.size
  get : ∀ n, n ∉ W → a'.tmps.getD n undef = a.tmps.getD n undef
theorem Off.refl (W : List Nat) (a : Act) : Off W a a := ⟨rfl, fun _ _ => rfl⟩
theorem Off.trans {W : List Nat} {a b c : Act} (h : Off W a b) (k : Off W b c) : Off W a c := ⟨k.size.trans h.size, fun n hn => (k.get n hn).trans (h.get n hn)⟩
theorem Off.mono {W W' : List Nat} {a b : Act} (h : Off W a b) (hs : ∀ n, n ∈ W → n ∈ W') : Off W' a b := ⟨h.size, fun n hn => h.get n (fun hm => hn (hs n hm))⟩
theorem Off.put {W : List Nat} (a : Act) (d : Option Tmp) (v : Value) (h : ∀ n, d = some n → n ∈ W) : Off W a (a.put d v) := by
  cases d with
  | none => exact Off.refl _ _
  | some d =>
    refine ⟨by simp [Act.put], fun n hn => ?_⟩
    have hne : d ≠ n := fun e => hn (e ▸ h d rfl)
    simp only [Act.put, Array.getD_eq_getD_getElem?]
    rw [Array.getElem?_setIfInBounds_ne hne]

/-- what stands behind a region -/
def Behind (D : List Deferred) (w0 : World) (a0 : Act) (W : List Nat) (K : Env → Heap → Prop) (Q' : Act → World → Prop) : Prop :=
  ∀ e a w, Agree e a.tmps → K e w.heap → Kin w0 w → a.defers = D → Off W a0 a → Q' a w

/-- what a panic finds that goes out of here -/
def Pan (A : Ann) (D : List Deferred) (w0 : World) (a0 : Act) (W : List Nat) (Q : Exit → Act → World → Prop) : Prop :=
  ∀ chain a w, Raised chain → A.pan w.heap → Kin w0 w → a.defers = D → Off W a0 a → Q (.panic chain) a w
theorem Pan.from_ {A : Ann} {w0 w1 : World} {a0 a1 : Act} {W W' : List Nat} {Q Q' : Exit → Act → World → Prop} (h : Pan A D w0 a0 W Q) (hk : Kin w0 w1) (ho : Off W a0 a1) (hW : ∀ n, n ∈ W' → n ∈ W) (hQ : ∀ ch a w, Q (.panic ch) a w → Q' (.panic ch) a w) : Pan A D w1 a1 W' Q' :=
  fun ch a w hc hp hk' hd ho' => hQ _ _ _ (h ch a w hc hp (hk.trans hk') hd (ho.trans (ho'.mono hW)))
theorem Agree.put' {e : Env} {a : Act} (h : Agree e a.tmps) (d : Option Nat) (v : Value) {u : Option Value} (hu : u = none ∨ u = some v) : Agree (Env.put e d u) (a.put d v).tmps := by
  cases d with
  | none => exact h
  | some d => exact h.set d v _ hu
theorem put_defers (a : Act) (d : Option Tmp) (v : Value) : (a.put d v).defers = a.defers := by cases d <;> rfl

theorem Agree.lit {e : Env} {a : Act} {d : Nat} {b lit : Bool} (h : Agree e a.tmps) (hd : Env.get e d = some (.bool b)) (hb : b = lit) : Agree (Env.set e d (some (.bool lit))) a.tmps := by
  subst hb
  refine ⟨by rw [Env.set_length]; exact h.1, fun n v hn => ?_⟩
  by_cases hnd : d = n
  · subst hnd
    rw [Env.get_set_same _ _ _ (Env.get_lt hd)] at hn
    exact h.2 d v (hd.trans hn)
  · rw [Env.get_set_ne _ _ _ _ hnd] at hn
    exact h.2 n v hn

theorem yielded_bool {ops : Array Oper} {a : Act} {e : Env} {j d : Nat} {b : Bool} (hA : Agree e a.tmps) (hd : (ops[j]?).bind (·.dst) = some d) (hg : Env.get e d = some (.bool b)) : yielded ops a.tmps j = some b := by
  have h1 := hA.2 d _ hg
  have hlt : d < a.tmps.size := by rw [← hA.1]; exact Env.get_lt hg
  unfold yielded
  rw [hd]
  simp only [Option.bind_some]
  rw [Array.getD_eq_getD_getElem?, Array.getElem?_eq_getElem hlt] at h1
  rw [Array.getElem?_eq_getElem hlt]
  simp only [Option.getD_some] at h1
  rw [h1]
theorem yielded_tuple {ops : Array Oper} {a : Act} {e : Env} {j d : Nat} {vs : Array Value} (hA : Agree e a.tmps) (hd : (ops[j]?).bind (·.dst) = some d) (hg : Env.get e d = some (.tuple vs)) : yielded ops a.tmps j = none := by
  have h1 := hA.2 d _ hg
  have hlt : d < a.tmps.size := by rw [← hA.1]; exact Env.get_lt hg
  unfold yielded
  rw [hd]
  simp only [Option.bind_some]
  rw [Array.getD_eq_getD_getElem?, Array.getElem?_eq_getElem hlt] at h1
  rw [Array.getElem?_eq_getElem hlt]
  simp only [Option.getD_some] at h1
  rw [h1]

theorem vcOps_sound {A : Ann} {all : List Oper} {W : List Nat} {Q : Exit → Act → World → Prop} {K : Env → Heap → Prop} (hy : A.yld = false) : ∀ (l : List Oper) {e : Env} {h : Heap} {a : Act} {w : World},
    (∀ o ∈ l, ∀ n, o.dst = some n → n ∈ W) → Agree e a.tmps → w.heap = h → a.defers = D → Behind D w a W K (fun a w => Q .normal a w) → Pan A D w a W Q → vcOps P A all l e h K → wpList P all.toArray Q l a w
  | [], e, h, a, w, _, hA, hw, hdf, hB, _, H => hB e a w hA (by rw [hw]; exact H) (Kin.refl w) hdf (Off.refl _ _)
  | o :: r, e, h, a, w, hW, hA, hw, hdf, hB, hP, H => by
    have rest : ∀ {e' : Env} {u : Value} {w' : World} {h' : Heap}, Agree e' (a.put o.dst u).tmps → w'.heap = h' → (a.put o.dst u).defers = D → Kin w w' → vcOps P A all r e' h' K → wpList P all.toArray Q r (a.put o.dst u) w' :=
      fun hA' hw' hd' hk H' => vcOps_sound hy r (fun p hp => hW p (by simp [hp])) hA' hw' hd' (fun e2 a2 w2 g1 g2 g3 g4 g5 => hB e2 a2 w2 g1 g2 (hk.trans g3) g4 ((Off.put a o.dst _ (hW o (by simp))).trans g5)) (hP.from_ hk (Off.put a o.dst _ (hW o (by simp))) (fun _ h => h) (fun _ _ _ h => h)) H'
    have run : ∀ {e1 : Env}, Agree e1 a.tmps → (vcEffP P A o e1 h fun v h' => vcOps P A all r (Env.put e1 o.dst v) h' K) → o.wp P a w (wpList P all.toArray Q r) Q := by
      intro e1 hA1 H1
      refine vcEffP_sound hy hA1 hw (fun v u w' hv hu hk => ?_) (fun ch w' hc hp hk => hP ch a w' hc hp hk hdf (Off.refl _ _)) H1
      exact rest (hA1.put' o.dst u hu) rfl (by rw [put_defers]; exact hdf) hk hv
    simp only [vcOps, withEnv_eq] at H
    unfold wpList
    split at H
    · rename_i hg
      rw [if_pos (by simp [Region.wanted, hg])]
      exact .inl (run hA H)
    · rename_i j want hg
      split at H
      case h_2 => exact H.elim
      rename_i d hd
      have hd' : (all.toArray[j]?).bind (·.dst) = some d := by simpa using hd
      split at H
      · rename_i b hb
        have hy := yielded_bool hA hd' hb
        split at H
        · cases b
          · rw [if_neg (by simp [Region.wanted, hg, hy])]
            exact rest ((hA.lit hb rfl).put' o.dst undef (.inr rfl)) hw (by rw [put_defers]; exact hdf) (Kin.refl w) H
          · rw [if_pos (by simp [Region.wanted, hg, hy])]
            exact .inl (run (hA.lit hb rfl) H)
        · cases b
          · rw [if_pos (by simp [Region.wanted, hg, hy])]
            exact .inl (run (hA.lit hb rfl) H)
          · rw [if_neg (by simp [Region.wanted, hg, hy])]
            exact rest ((hA.lit hb rfl).put' o.dst undef (.inr rfl)) hw (by rw [put_defers]; exact hdf) (Kin.refl w) H
      · rename_i vs hb
        have hy := yielded_tuple hA hd' hb
        rw [if_neg (by simp [Region.wanted, hg, hy])]
        exact rest (hA.put' o.dst undef (.inr rfl)) hw (by rw [put_defers]; exact hdf) (Kin.refl w) H
      · exact H.elim

/-- the worlds of a quiet head -/
def ClsW (ext : Bool) (w0 : World) (h : Heap) (w : World) : Prop := Kin w0 w ∧ Cls ext h w.heap
theorem Cls.ext {b : Bool} {h h' : Heap} (c : Cls b h h') : Ext h h' := by
  cases b
  · simp only [Cls] at c; subst c; exact Ext.refl _
  · exact c
theorem Cls.trans {b : Bool} {h h1 h2 : Heap} (c : Cls b h h1) (d : Cls b h1 h2) : Cls b h h2 := by
  cases b
  · simp only [Cls] at *; exact d.trans c
  · exact Ext.trans c d

theorem vcQo_sound {A : Ann} {ext : Bool} {o : Oper} {e : Env} {h : Heap} {K : Option Value → Prop} {a : Act} {w0 : World} {next : Act → Prop} (hA : Agree e a.tmps)
    (hn : ∀ v, K (some v) → next (a.put o.dst v)) (H : vcQo P A ext o e h K) : o.quiet P a (ClsW ext w0 h) next := by
  obtain ⟨dst, op, ty, pos, after, guard⟩ := o
  have pure_ : vcPure P A ⟨dst, op, ty, pos, after, guard⟩ e h K → Oper.quiet P ⟨dst, op, ty, pos, after, guard⟩ a (ClsW ext w0 h) next := by
    intro H
    obtain ⟨v, hk, hr⟩ := vcPure_sound hA H
    refine ⟨v, fun w hw => ?_, hn v hk⟩
    unfold Oper.quietAt
    rw [hr w hw.2.ext]
    exact ⟨rfl, rfl⟩
  cases op with
  | call c =>
    obtain ⟨callee, args, tys⟩ := c
    simp only [vcQo] at H
    split at H
    · rename_i f
      split at H
      case h_2 => exact H.elim
      rename_i g first captured vs hf hv
      obtain ⟨u, hc, hk⟩ := withSh_some H
      refine ⟨u, fun w hw => ?_, hn u hk⟩
      have e1 := opv_eval hA hf
      have e2 := opvs_arr hA hv
      have harr : (first.toList ++ vs ++ captured.toList).toArray = first ++ vs.toArray ++ captured := by apply Array.ext'; simp
      rw [harr] at hc
      have hr : execOp a.eval ⟨dst, .call { callee := .value f, args, argTypes := tys }, ty, pos, after, guard⟩ = callFunc g (first ++ vs.toArray ++ captured) := by
        simp only [execOp, resolve, e1, e2, Deferred.ofValue]
        rfl
      unfold Oper.quietAt
      rw [hr]
      obtain ⟨h1, hC⟩ := hc w.heap hw.2 w rfl
      rw [h1]
      refine ⟨rfl, hC.mono fun en w' ⟨v, he, hkn, hvu, hcl⟩ => ⟨by rw [he, hvu], hw.1.trans hkn, hw.2.trans hcl⟩⟩
    · exact pure_ H
  | lookup t x i ok =>
    simp only [vcQo] at H
    split at H
    case h_2 => exact H.elim
    rename_i m k hx hi
    obtain ⟨u, hr, hk⟩ := withSh_some H
    refine ⟨u, fun w hw => ?_, hn u hk⟩
    unfold Oper.quietAt
    simp only [execOp, opv_eval hA hx, opv_eval hA hi, Sem.run_bind, hr w hw.2, Result.andThen_ok, Sem.run_pure]
    exact ⟨rfl, rfl⟩
  | build t parts =>
    simp only [vcQo] at H
    obtain ⟨v, hk, hr⟩ := buildV_sound hA H
    refine ⟨v, fun w hw => ?_, hn v hk⟩
    unfold Oper.quietAt
    simp only [execOp, Sem.run_bind, hr w, Result.andThen_ok, Sem.run_pure]
    exact ⟨rfl, rfl⟩
  | _ => exact pure_ H

theorem vcQ_sound {A : Ann} {ext : Bool} {all : List Oper} {W : List Nat} {w0 : World} {h : Heap} {K : Env → Prop} {Q : Act → Prop} : ∀ (l : List Oper) {e : Env} {a : Act},
    (∀ o ∈ l, ∀ n, o.dst = some n → n ∈ W) → Agree e a.tmps → a.defers = D → (∀ e' a', Agree e' a'.tmps → a'.defers = D → Off W a a' → K e' → Q a') → vcQ P A ext all l e h K → wpQuiet P all.toArray (ClsW ext w0 h) Q l a
  | [], e, a, _, hA, hdf, hB, H => hB e a hA hdf (Off.refl _ _) H
  | o :: r, e, a, hW, hA, hdf, hB, H => by
    have rest : ∀ {e' : Env} {u : Value}, Agree e' (a.put o.dst u).tmps → (a.put o.dst u).defers = D → vcQ P A ext all r e' h K → wpQuiet P all.toArray (ClsW ext w0 h) Q r (a.put o.dst u) :=
      fun hA' hd' H' => vcQ_sound r (fun p hp => hW p (by simp [hp])) hA' hd' (fun e2 a2 g1 g2 g3 g4 => hB e2 a2 g1 g2 ((Off.put a o.dst _ (hW o (by simp))).trans g3) g4) H'
    have run : ∀ {e1 : Env}, Agree e1 a.tmps → (vcQo P A ext o e1 h fun v => vcQ P A ext all r (Env.put e1 o.dst v) h K) → o.quiet P a (ClsW ext w0 h) (wpQuiet P all.toArray (ClsW ext w0 h) Q r) :=
      fun hA1 H1 => vcQo_sound hA1 (fun v hv => rest (hA1.put' o.dst v (.inr rfl)) (by rw [put_defers]; exact hdf) hv) H1
    simp only [vcQ, withEnv_eq] at H
    unfold wpQuiet
    split at H
    · rename_i hg
      rw [if_pos (by simp [Region.wanted, hg])]
      exact run hA H
    · rename_i j want hg
      split at H
      case h_2 => exact H.elim
      rename_i d hd
      have hd' : (all.toArray[j]?).bind (·.dst) = some d := by simpa using hd
      split at H
      · rename_i b hb
        have hy := yielded_bool hA hd' hb
        split at H
        · cases b
          · rw [if_neg (by simp [Region.wanted, hg, hy])]
            exact rest ((hA.lit hb rfl).put' o.dst undef (.inr rfl)) (by rw [put_defers]; exact hdf) H
          · rw [if_pos (by simp [Region.wanted, hg, hy])]
            exact run (hA.lit hb rfl) H
        · cases b
          · rw [if_pos (by simp [Region.wanted, hg, hy])]
            exact run (hA.lit hb rfl) H
          · rw [if_neg (by simp [Region.wanted, hg, hy])]
            exact rest ((hA.lit hb rfl).put' o.dst undef (.inr rfl)) (by rw [put_defers]; exact hdf) H
      · rename_i vs hb
        have hy := yielded_tuple hA hd' hb
        rw [if_neg (by simp [Region.wanted, hg, hy])]
        exact rest (hA.put' o.dst undef (.inr rfl)) (by rw [put_defers]; exact hdf) H
      · exact H.elim

theorem vcQo_up {A : Ann} {o : Oper} {e : Env} {h : Heap} {K : Option Value → Prop} {a : Act} {w0 : World} (hA : Agree e a.tmps) (hw0 : w0.heap = h) (H : vcQo P A true o e h K) :
    ∃ v, K (some v) ∧ ∀ w, Up w0 w → Oper.quietUpon P (Up w) w v ((execOp a.eval o).run P w) := by
  obtain ⟨dst, op, ty, pos, after, guard⟩ := o
  subst hw0
  have pure_ : vcPure P A ⟨dst, op, ty, pos, after, guard⟩ e w0.heap K → ∃ v, K (some v) ∧ ∀ w, Up w0 w → Oper.quietUpon P (Up w) w v ((execOp a.eval ⟨dst, op, ty, pos, after, guard⟩).run P w) := by
    intro H
    obtain ⟨v, hk, hr⟩ := vcPure_sound hA H
    exact ⟨v, hk, fun w hw => by rw [hr w hw.2]; exact ⟨rfl, rfl⟩⟩
  cases op with
  | call c =>
    obtain ⟨callee, args, tys⟩ := c
    simp only [vcQo] at H
    split at H
    · rename_i f
      split at H
      case h_2 => exact H.elim
      rename_i g first captured vs hf hv
      obtain ⟨u, hc, hk⟩ := withSh_some H
      refine ⟨u, hk, fun w hw => ?_⟩
      have e1 := opv_eval hA hf
      have e2 := opvs_arr hA hv
      have harr : (first.toList ++ vs ++ captured.toList).toArray = first ++ vs.toArray ++ captured := by apply Array.ext'; simp
      rw [harr] at hc
      have hr : execOp a.eval ⟨dst, .call { callee := .value f, args, argTypes := tys }, ty, pos, after, guard⟩ = callFunc g (first ++ vs.toArray ++ captured) := by
        simp only [execOp, resolve, e1, e2, Deferred.ofValue]
        rfl
      rw [hr]
      obtain ⟨h1, hC⟩ := hc w.heap hw.2 w rfl
      rw [h1]
      exact ⟨rfl, hC.mono fun en w' ⟨v, he, hkn, hvu, hcl⟩ => ⟨by rw [he, hvu], hkn, hcl⟩⟩
    · exact pure_ H
  | lookup t x i ok =>
    simp only [vcQo] at H
    split at H
    case h_2 => exact H.elim
    rename_i m k hx hi
    obtain ⟨u, hr, hk⟩ := withSh_some H
    refine ⟨u, hk, fun w hw => ?_⟩
    simp only [execOp, opv_eval hA hx, opv_eval hA hi, Sem.run_bind, hr w hw.2, Result.andThen_ok, Sem.run_pure]
    exact ⟨rfl, rfl⟩
  | build t parts =>
    simp only [vcQo] at H
    obtain ⟨v, hk, hr⟩ := buildV_sound hA H
    refine ⟨v, hk, fun w hw => ?_⟩
    simp only [execOp, Sem.run_bind, hr w, Result.andThen_ok, Sem.run_pure]
    exact ⟨rfl, rfl⟩
  | _ => exact pure_ H

theorem vcQ_up {A : Ann} {all : List Oper} {W : List Nat} {w0 : World} {h : Heap} {K : Env → Prop} {E : Act → Prop} : ∀ (l : List Oper) {e : Env} {a : Act},
    (∀ o ∈ l, ∀ n, o.dst = some n → n ∈ W) → Agree e a.tmps → a.defers = D → w0.heap = h → (∀ e' a', Agree e' a'.tmps → a'.defers = D → Off W a a' → K e' → E a') → vcQ P A true all l e h K → wpU P all.toArray w0 E l a
  | [], e, a, _, hA, hdf, _, hB, H => hB e a hA hdf (Off.refl _ _) H
  | o :: r, e, a, hW, hA, hdf, hw0, hB, H => by
    have rest : ∀ {e' : Env} {u : Value}, Agree e' (a.put o.dst u).tmps → vcQ P A true all r e' h K → wpU P all.toArray w0 E r (a.put o.dst u) :=
      fun hA' H' => vcQ_up r (fun p hp => hW p (by simp [hp])) hA' (by rw [put_defers]; exact hdf) hw0 (fun e2 a2 g1 g2 g3 g4 => hB e2 a2 g1 g2 ((Off.put a o.dst _ (hW o (by simp))).trans g3) g4) H'
    have run : ∀ {e1 : Env}, Agree e1 a.tmps → Region.wanted o (yielded all.toArray a.tmps) = true → (vcQo P A true o e1 h fun v => vcQ P A true all r (Env.put e1 o.dst v) h K) → wpU P all.toArray w0 E (o :: r) a := by
      intro e1 hA1 hwt H1
      obtain ⟨v, hk, hq⟩ := vcQo_up hA1 hw0 H1
      exact ⟨v, .inl ⟨hwt, hq⟩, rest (hA1.put' o.dst v (.inr rfl)) hk⟩
    have skip : ∀ {e1 : Env}, Agree e1 a.tmps → Region.wanted o (yielded all.toArray a.tmps) = false → vcQ P A true all r (Env.put e1 o.dst (some undef)) h K → wpU P all.toArray w0 E (o :: r) a :=
      fun hA1 hwt H1 => ⟨undef, .inr ⟨hwt, rfl⟩, rest (hA1.put' o.dst undef (.inr rfl)) H1⟩
    simp only [vcQ, withEnv_eq] at H
    split at H
    · rename_i hg
      exact run hA (by simp [Region.wanted, hg]) H
    · rename_i j want hg
      split at H
      case h_2 => exact H.elim
      rename_i d hd
      have hd' : (all.toArray[j]?).bind (·.dst) = some d := by simpa using hd
      split at H
      · rename_i b hb
        have hy := yielded_bool hA hd' hb
        split at H
        · cases b
          · exact skip (hA.lit hb rfl) (by simp [Region.wanted, hg, hy]) H
          · exact run (hA.lit hb rfl) (by simp [Region.wanted, hg, hy]) H
        · cases b
          · exact run (hA.lit hb rfl) (by simp [Region.wanted, hg, hy]) H
          · exact skip (hA.lit hb rfl) (by simp [Region.wanted, hg, hy]) H
      · rename_i vs hb
        have hy := yielded_tuple hA hd' hb
        exact skip hA (by simp [Region.wanted, hg, hy]) H
      · exact H.elim

theorem vcA_sound {o : Oper} {e : Env} {a : Act} {w0 : World} {all : Array Oper} {f : Obj → (Nat → Value) → Prop} (hA : Agree e a.tmps) (hg : o.guard = none) (H : vcA P o e f) :
    ∃ ob mk, EY P all w0 o ob mk a ∧ f ob mk := by
  have go : ∀ (ob : Obj) (mk : Nat → Value), (∀ w, ∃ w', (execOp a.eval o).run P w = .ok (.value (mk w.heap.size)) w' ∧ w'.heap = w.heap.push ob ∧ Kin w w') → f ob mk → ∃ ob mk, EY P all w0 o ob mk a ∧ f ob mk :=
    fun ob mk h1 h2 => ⟨ob, mk, ⟨by simp [Region.wanted, hg], fun w _ => h1 w⟩, h2⟩
  obtain ⟨dst, op, ty, pos, after, guard⟩ := o
  cases op <;> simp only [vcA] at H
  case alloc t =>
    split at H
    case h_2 => exact H.elim
    rename_i z hz
    exact go _ _ (fun w => ⟨{ w with heap := w.heap.push (.cells z.cells t) }, by simp [execOp, Instr.alloc, run_zero hz, newVar, newRow], rfl, ⟨rfl, rfl, rfl⟩⟩) H
  case box t x =>
    split at H
    case h_2 => exact H.elim
    rename_i v hv
    exact go _ _ (fun w => ⟨{ w with heap := w.heap.push (.cells v.cells t) }, by simp [execOp, Instr.box, opv_eval hA hv, newVar, newRow], rfl, ⟨rfl, rfl, rfl⟩⟩) H
  case buildSlice t len parts =>
    split at H
    case h_2 => exact H.elim
    rename_i el vs ht hv
    split at H
    case h_2 => exact H.elim
    rename_i z hl hz
    have hlen := Nat.eq_of_beq_eq_true hl
    have e1 : (parts.map fun (i, x) => (i, a.eval x)) = vs.toArray := by
      apply Array.ext'
      have := partsV_eval hA hv
      simpa using this
    obtain ⟨i, hi, hiz⟩ := info_of hz
    obtain ⟨⟨hsz, hk⟩, hf⟩ := seqParts_sound vs 0 len (((Array.range (len * P.cellsOf el)).map ((if len * P.cellsOf el = 0 then #[] else z.cells)[· % (if len * P.cellsOf el = 0 then #[] else z.cells).size]!)).toList) (by omega) (by simp) H
    simp only [Array.toArray_toList, Nat.zero_mul, List.take_zero, List.nil_append] at hf
    refine go _ _ (fun w => ⟨{ w with heap := w.heap.push (.cells (catCells vs).toArray el) }, ?_, rfl, ⟨rfl, rfl, rfl⟩⟩) hk
    have hle : ¬ (len * P.cellsOf el > 2 ^ 24) := by
      have e : (2 : Nat) ^ 24 = 16777216 := by decide
      omega
    simp only [execOp, Instr.buildSlice, Sem.run_bind, run_und ht, Result.andThen_ok, run_sizeI hi, if_neg hle, e1]
    by_cases h0 : len * P.cellsOf el = 0
    · simp only [h0, if_true] at hf ⊢
      simp at hf
      simp [hf, newRow]
    · simp only [h0, if_false] at hf ⊢
      simp [run_zero hz, hf, newRow]
  all_goals exact H.elim

theorem Ext.none (h : Heap) : Ext #[] h := ⟨Nat.zero_le _, fun k hk => by simp at hk⟩
theorem vcGuard_sound {all : List Oper} {o : Oper} {e : Env} {run skip : Env → Prop} {a : Act} (hA : Agree e a.tmps) (H : vcGuard all o e run skip) :
    ∃ e1, Agree e1 a.tmps ∧ ((Region.wanted o (yielded all.toArray a.tmps) = true ∧ run e1) ∨ (Region.wanted o (yielded all.toArray a.tmps) = false ∧ skip e1)) := by
  unfold vcGuard at H
  split at H
  · rename_i hg
    exact ⟨e, hA, .inl ⟨by simp [Region.wanted, hg], H⟩⟩
  · rename_i j want hg
    split at H
    case h_2 => exact H.elim
    rename_i d hd
    have hd' : (all.toArray[j]?).bind (·.dst) = some d := by simpa using hd
    split at H
    · rename_i b hb
      have hy := yielded_bool hA hd' hb
      split at H
      · cases b
        · exact ⟨_, hA.lit hb rfl, .inr ⟨by simp [Region.wanted, hg, hy], H⟩⟩
        · exact ⟨_, hA.lit hb rfl, .inl ⟨by simp [Region.wanted, hg, hy], H⟩⟩
      · cases b
        · exact ⟨_, hA.lit hb rfl, .inl ⟨by simp [Region.wanted, hg, hy], H⟩⟩
        · exact ⟨_, hA.lit hb rfl, .inr ⟨by simp [Region.wanted, hg, hy], H⟩⟩
    · rename_i vs hb
      have hy := yielded_tuple hA hd' hb
      exact ⟨e, hA, .inr ⟨by simp [Region.wanted, hg, hy], H⟩⟩
    · exact H.elim
theorem vcMq_sound {A : Ann} {Rl : Heap → Heap → Prop} {o : Oper} {e : Env} {h : Heap} {K : Option Value → Prop} {a : Act} (hA : Agree e a.tmps) (H : vcMq P A Rl o e h K) :
    ∃ v, K (some v) ∧ ∀ w : World, Rl h w.heap → (execOp a.eval o).run P w = .ok (.value v) w := by
  obtain ⟨dst, op, ty, pos, after, guard⟩ := o
  have pure_ : vcPure P A ⟨dst, op, ty, pos, after, guard⟩ e #[] K → ∃ v, K (some v) ∧ ∀ w : World, Rl h w.heap → (execOp a.eval ⟨dst, op, ty, pos, after, guard⟩).run P w = .ok (.value v) w := by
    intro H
    obtain ⟨v, hk, hr⟩ := vcPure_sound hA H
    exact ⟨v, hk, fun w _ => hr w (Ext.none _)⟩
  cases op with
  | load t x =>
    simp only [vcMq] at H
    split at H
    case h_2 => exact H.elim
    rename_i ad hx
    obtain ⟨u, hr, hk⟩ := withSh_some H
    exact ⟨u, hk, fun w hw => by simp [execOp, opv_eval hA hx, Instr.loadAt, Instr.sureAddr, Sem.run_bind, hr w hw]⟩
  | lookup t x i ok =>
    simp only [vcMq] at H
    split at H
    case h_2 => exact H.elim
    rename_i m k hx hi
    obtain ⟨u, hr, hk⟩ := withSh_some H
    exact ⟨u, hk, fun w hw => by simp [execOp, opv_eval hA hx, opv_eval hA hi, hr w hw]⟩
  | build t parts =>
    simp only [vcMq] at H
    obtain ⟨v, hk, hr⟩ := buildV_sound hA H
    exact ⟨v, hk, fun w _ => by simp [execOp, hr w]⟩
  | convert s d x =>
    simp only [vcMq] at H
    split at H
    · rename_i p l c hx
      split at H
      · obtain ⟨u, hr, hk⟩ := withSh_some H
        exact ⟨u, hk, fun w hw => by simp [execOp, opv_eval hA hx, hr w hw]⟩
      · exact pure_ H
    · exact pure_ H
  | _ => exact pure_ H
theorem vcMe_sound {A : Ann} {Rl : Heap → Heap → Prop} {all : List Oper} {o : Oper} {e : Env} {h : Heap} {a : Act} {w : World} {K : Env → Heap → Prop} {L : Act → World → Prop}
    (hA : Agree e a.tmps) (hw : w.heap = h)
    (rest : ∀ {e' : Env} {u : Value} {w' : World}, Agree e' (a.put o.dst u).tmps → Kin w w' → K e' w'.heap → L (a.put o.dst u) w')
    (H : vcGuard all o e (fun e1 => vcEff P A o e1 h fun v h' => Rl h h' ∧ withEnv (Env.put e1 o.dst v) fun e2 => K e2 h') (fun e1 => withEnv (Env.put e1 o.dst (some undef)) fun e2 => K e2 h)) : GStep P all.toArray Rl o a w L := by
  obtain ⟨e1, hA1, ⟨hwt, H1⟩ | ⟨hwt, H1⟩⟩ := vcGuard_sound hA H
  · refine .inl ⟨hwt, ?_⟩
    refine vcEff_sound hA1 hw (fun v u w' hv hu hk => ?_) H1
    obtain ⟨h1, h2⟩ := hv
    rw [withEnv_eq] at h2
    exact ⟨u, rfl, ⟨hk, by rw [hw]; exact h1⟩, rest (hA1.put' o.dst u hu) hk h2⟩
  · rw [withEnv_eq] at H1
    exact .inr ⟨hwt, rest (hA1.put' o.dst undef (.inr rfl)) (Kin.refl w) (by rw [hw]; exact H1)⟩
theorem vcM_sound {A : Ann} {Rl : Heap → Heap → Prop} (hr : ∀ h, Rl h h) {all : List Oper} {W : List Nat} {Q : Exit → Act → World → Prop} {K : Env → Heap → Prop} (hW : ∀ o ∈ all, ∀ n, o.dst = some n → n ∈ W) : ∀ (s : Mix) {e : Env} {h : Heap} {a : Act} {w : World},
    Agree e a.tmps → w.heap = h → a.defers = D → Behind D w a W K (fun a w => Q .normal a w) → vcM P A Rl all s e h K → wpMix P all.toArray Rl (fun a w => Q .normal a w) s a w
  | .done, e, h, a, w, hA, hw, hdf, hB, H => hB e a w hA (by rw [hw]; exact H) (Kin.refl w) hdf (Off.refl _ _)
  | .quiet i r, e, h, a, w, hA, hw, hdf, hB, H => by
    simp only [vcM] at H
    split at H
    · exact H.elim
    rename_i o ho
    have ho' : all.toArray[i]? = some o := by simpa using ho
    have hmem : o ∈ all := List.mem_of_getElem? ho
    have rest : ∀ {e' : Env} {u : Value} {w' : World} {h' : Heap}, Agree e' (a.put o.dst u).tmps → w'.heap = h' → Kin w w' → vcM P A Rl all r e' h' K → wpMix P all.toArray Rl (fun a w => Q .normal a w) r (a.put o.dst u) w' :=
      fun hA' hw' hk H' => vcM_sound hr hW r hA' hw' (by rw [put_defers]; exact hdf) (fun e2 a2 w2 g1 g2 g3 g4 g5 => hB e2 a2 w2 g1 g2 (hk.trans g3) g4 ((Off.put a o.dst _ (hW o hmem)).trans g5)) H'
    obtain ⟨e1, hA1, ⟨hwt, H1⟩ | ⟨hwt, H1⟩⟩ := vcGuard_sound hA H
    · obtain ⟨v, hk, hrun⟩ := vcMq_sound hA1 H1
      rw [withEnv_eq] at hk
      exact ⟨o, v, ho', .inl ⟨hwt, fun w' hw' => hrun w' (by rw [← hw]; exact hw')⟩, rest (hA1.put' o.dst v (.inr rfl)) hw (Kin.refl w) hk⟩
    · rw [withEnv_eq] at H1
      exact ⟨o, undef, ho', .inr ⟨hwt, rfl⟩, rest (hA1.put' o.dst undef (.inr rfl)) hw (Kin.refl w) H1⟩
  | .one i r, e, h, a, w, hA, hw, hdf, hB, H => by
    simp only [vcM] at H
    split at H
    · exact H.elim
    rename_i o ho
    have ho' : all.toArray[i]? = some o := by simpa using ho
    have hmem : o ∈ all := List.mem_of_getElem? ho
    exact ⟨o, ho', vcMe_sound (K := fun e2 h' => vcM P A Rl all r e2 h' K) hA hw (fun hA' hk H' => vcM_sound hr hW r hA' rfl (by rw [put_defers]; exact hdf) (fun e2 a2 w2 g1 g2 g3 g4 g5 => hB e2 a2 w2 g1 g2 (hk.trans g3) g4 ((Off.put a o.dst _ (hW o hmem)).trans g5)) H') H⟩
  | .two i r j s, e, h, a, w, hA, hw, hdf, hB, H => by
    simp only [vcM] at H
    split at H
    case h_2 => exact H.elim
    rename_i o o' ho ho2
    have ho' : all.toArray[i]? = some o := by simpa using ho
    have ho2' : all.toArray[j]? = some o' := by simpa using ho2
    have hmem : o ∈ all := List.mem_of_getElem? ho
    have hmem2 : o' ∈ all := List.mem_of_getElem? ho2
    exact ⟨⟨o, ho', vcMe_sound (K := fun e2 h' => vcM P A Rl all r e2 h' K) hA hw (fun hA' hk H' => vcM_sound hr hW r hA' rfl (by rw [put_defers]; exact hdf) (fun e2 a2 w2 g1 g2 g3 g4 g5 => hB e2 a2 w2 g1 g2 (hk.trans g3) g4 ((Off.put a o.dst _ (hW o hmem)).trans g5)) H') H.1⟩,
      ⟨o', ho2', vcMe_sound (K := fun e2 h' => vcM P A Rl all s e2 h' K) hA hw (fun hA' hk H' => vcM_sound hr hW s hA' rfl (by rw [put_defers]; exact hdf) (fun e2 a2 w2 g1 g2 g3 g4 g5 => hB e2 a2 w2 g1 g2 (hk.trans g3) g4 ((Off.put a o'.dst _ (hW o' hmem2)).trans g5)) H') H.2⟩⟩
  | .three i r j s k u, e, h, a, w, hA, hw, hdf, hB, H => by
    simp only [vcM] at H
    split at H
    case h_2 => exact H.elim
    rename_i o o' o3 ho ho2 ho3
    have ho' : all.toArray[i]? = some o := by simpa using ho
    have ho2' : all.toArray[j]? = some o' := by simpa using ho2
    have ho3' : all.toArray[k]? = some o3 := by simpa using ho3
    have hmem : o ∈ all := List.mem_of_getElem? ho
    have hmem2 : o' ∈ all := List.mem_of_getElem? ho2
    have hmem3 : o3 ∈ all := List.mem_of_getElem? ho3
    exact ⟨⟨o, ho', vcMe_sound (K := fun e2 h' => vcM P A Rl all r e2 h' K) hA hw (fun hA' hk H' => vcM_sound hr hW r hA' rfl (by rw [put_defers]; exact hdf) (fun e2 a2 w2 g1 g2 g3 g4 g5 => hB e2 a2 w2 g1 g2 (hk.trans g3) g4 ((Off.put a o.dst _ (hW o hmem)).trans g5)) H') H.1⟩,
      ⟨o', ho2', vcMe_sound (K := fun e2 h' => vcM P A Rl all s e2 h' K) hA hw (fun hA' hk H' => vcM_sound hr hW s hA' rfl (by rw [put_defers]; exact hdf) (fun e2 a2 w2 g1 g2 g3 g4 g5 => hB e2 a2 w2 g1 g2 (hk.trans g3) g4 ((Off.put a o'.dst _ (hW o' hmem2)).trans g5)) H') H.2.1⟩,
      ⟨o3, ho3', vcMe_sound (K := fun e2 h' => vcM P A Rl all u e2 h' K) hA hw (fun hA' hk H' => vcM_sound hr hW u hA' rfl (by rw [put_defers]; exact hdf) (fun e2 a2 w2 g1 g2 g3 g4 g5 => hB e2 a2 w2 g1 g2 (hk.trans g3) g4 ((Off.put a o3.dst _ (hW o3 hmem3)).trans g5)) H') H.2.2⟩⟩
  | .last i r, e, h, a, w, hA, hw, hdf, hB, H => by
    simp only [vcM] at H
    split at H
    · exact H.elim
    rename_i o ho
    have ho' : all.toArray[i]? = some o := by simpa using ho
    have hmem : o ∈ all := List.mem_of_getElem? ho
    exact ⟨o, ho', vcMe_sound (Rl := fun _ _ => True) (K := fun e2 h' => vcM P A Rl all r e2 h' K) hA hw (fun hA' hk H' => vcM_sound hr hW r hA' rfl (by rw [put_defers]; exact hdf) (fun e2 a2 w2 g1 g2 g3 g4 g5 => hB e2 a2 w2 g1 g2 (hk.trans g3) g4 ((Off.put a o.dst _ (hW o hmem)).trans g5)) H') H⟩

/-- Every region that draws is of one of the two forms that its annotation names. -/
def drawsOk (A : Ann) : Code → Bool
  | .region id ops true => match ann A.draws id with
    | some (m, n) => match Nat.beq m 3 with
      | true => match ann A.mixes id with
        | some s => Region.noSelect ops.toList.toArray && Nat.beq s.len ops.toList.length && mixB .any ops.toList.toArray s (Array.replicate ops.toList.toArray.size false)
        | none => true
      | false => match Nat.beq n ops.toList.length with
      | true => Region.lexB .any ops
      | false => match Nat.beq m 2 with
        | false => Region.lexTailB .any ops n
        | true => lexNewB .any ops n
    | none => true
  | .seq a b => drawsOk A a && drawsOk A b
  | .cond _ a b => drawsOk A a && drawsOk A b
  | .block _ b => drawsOk A b
  | .loop b => drawsOk A b
  | .scope b => drawsOk A b
  | _ => true

/-- what a region comes to, in sequence or drawn -/
def RegP (P : Program) (ops : Array Oper) (draw : Bool) (Q : Exit → Act → World → Prop) (a : Act) (w : World) : Prop :=
  match draw with
  | false => wpList P ops.toList.toArray Q ops.toList a w
  | true => wpAny P .any ops Q ops.size (Array.replicate ops.size false) a { w with drawn := w.drawn + 1 }
theorem vcRegion_any {A : Ann} {id : Nat} {ops : Array Oper} {draw : Bool} {e : Env} {h : Heap} {K : Env → Heap → Prop} {Q : Exit → Act → World → Prop} {a : Act} {w : World}
    (hy : draw = false → A.yld = false) (hok : drawsOk A (.region id ops draw) = true) (hA : Agree e a.tmps) (hw : w.heap = h) (hdf : a.defers = D) (hB : Behind D w a (ops.toList.filterMap (·.dst)) K (fun a w => Q .normal a w)) (hP : Pan A D w a (ops.toList.filterMap (·.dst)) Q) (H : vcRegion P A id ops.toList draw e h K) :
    RegP P ops draw Q a w := by
  have hW : ∀ o ∈ ops.toList, ∀ n, o.dst = some n → n ∈ ops.toList.filterMap (·.dst) := fun o ho n hn => List.mem_filterMap.2 ⟨o, ho, hn⟩
  cases draw with
  | false =>
    simp only [vcRegion] at H
    split at H
    · exact H.elim
    · exact vcOps_sound (hy rfl) ops.toList hW hA hw hdf hB hP H
  | true =>
    show wpAny P .any ops Q ops.size (Array.replicate ops.size false) a { w with drawn := w.drawn + 1 }
    simp only [vcRegion] at H
    split at H
    case h_2 => exact H.elim
    rename_i m n hd
    simp only [drawsOk, hd] at hok
    have hc0 : ClsW (Nat.beq m 1) w h { w with drawn := w.drawn + 1 } := ⟨⟨rfl, rfl, rfl⟩, by
      show Cls _ h w.heap
      rw [hw]
      unfold Cls
      split
      · exact Ext.refl _
      · rfl⟩
    split at H
    · rename_i hm3
      simp only [hm3] at hok
      split at H
      case h_2 => exact H.elim
      rename_i s hs
      simp only [hs] at hok
      obtain ⟨Rl, hr, ht, H⟩ := H
      have := any_region_mix (P := P) (Q := Q) (a := a) (w := w) (l := ops.toList) s hr ht hok
        (vcM_sound (w := { w with drawn := w.drawn + 1 }) hr hW s hA hw hdf (fun e2 a2 w2 g1 g2 g3 g4 g5 => hB e2 a2 w2 g1 g2 (Kin.trans (b := { w with drawn := w.drawn + 1 }) ⟨rfl, rfl, rfl⟩ g3) g4 g5) H)
      simpa using this
    rename_i hm3
    simp only [hm3] at hok
    split at H
    · rename_i hn
      rw [hn] at hok
      refine any_region_quiet (C := ClsW (Nat.beq m 1) w h) hok hc0 ?_
      exact vcQ_sound ops.toList hW hA hdf (fun e' a' hA' hd' ho hK w' hw' => hB e' a' w' hA' (hK _ hw'.2) hw'.1 hd' ho) H
    · rename_i hn
      rw [hn] at hok
      split at H
      case h_2 =>
        rename_i hm2
        simp only [hm2] at hok
        split at H
        case h_2 => exact H.elim
        rename_i o ho
        split at H
        case h_2 => exact H.elim
        rename_i hg
        have := any_region_new (P := P) (Q := Q) (a := a) (w := w) (l := ops.toList) n ho hok
          (vcQ_up (ops.toList.take n) (fun o ho => hW o (List.mem_of_mem_take ho)) hA hdf hw (fun e' a' hA' hd' hof hK => by
            obtain ⟨ob, mk, hey, hf⟩ := vcA_sound (w0 := { w with drawn := w.drawn + 1 }) (all := ops.toList.toArray) hA' hg hK
            refine ⟨ob, mk, hey, fun b w' hu hb hbo => ?_⟩
            have hmem : o ∈ ops.toList := List.mem_of_getElem? ho
            refine vcOps_sound (A := A.still) rfl (ops.toList.drop (n + 1)) (fun o ho => hW o (List.mem_of_mem_drop ho)) (hA'.put' o.dst (mk b) (.inr rfl)) rfl (by rw [put_defers]; exact hd') (fun e2 a2 w2 g1 g2 g3 g4 g5 => hB e2 a2 w2 g1 g2 (Kin.trans (b := { w with drawn := w.drawn + 1 }) ⟨rfl, rfl, rfl⟩ (hu.1.trans g3)) g4 (hof.trans ((Off.put a' o.dst _ (hW o hmem)).trans g5))) (hP.from_ (Kin.trans (b := { w with drawn := w.drawn + 1 }) ⟨rfl, rfl, rfl⟩ hu.1) (hof.trans (Off.put a' o.dst _ (hW o hmem))) (fun _ h => h) (fun _ _ _ h => h)) (by have := hf b w'.heap (by rw [← hw]; exact hb) (by rw [← hw]; exact hu.2) hbo; rwa [withEnv_eq] at this)) H)
        simpa using this
      rename_i hm2
      simp only [hm2] at hok
      have := any_region_quiet_tail (P := P) (Q := Q) (a := a) (w := w) (l := ops.toList) (C := ClsW (Nat.beq m 1) w h) n hok hc0
        (vcQ_sound (ops.toList.take n) (fun o ho => hW o (List.mem_of_mem_take ho)) hA hdf (fun e' a' hA' hd' ho hK w' hw' => vcOps_sound (A := A.still) rfl (ops.toList.drop n) (fun o ho => hW o (List.mem_of_mem_drop ho)) hA' rfl hd' (fun e2 a2 w2 g1 g2 g3 g4 g5 => hB e2 a2 w2 g1 g2 (hw'.1.trans g3) g4 (ho.trans g5)) (hP.from_ hw'.1 ho (fun _ h => h) (fun _ _ _ h => h)) (hK _ hw'.2)) H)
      simpa using this

theorem vcRegion_sound {A : Ann} {id : Nat} {ops : Array Oper} {draw : Bool} {e : Env} {h : Heap} {K : Env → Heap → Prop} {Q : Exit → Act → World → Prop} {a : Act} {w : World}
    (hm : P.follows .mixedOrders = true) (hy : A.yld = false) (hok : drawsOk A (.region id ops draw) = true) (hA : Agree e a.tmps) (hw : w.heap = h) (hdf : a.defers = D) (hB : Behind D w a (ops.toList.filterMap (·.dst)) K (fun a w => Q .normal a w)) (hP : Pan A D w a (ops.toList.filterMap (·.dst)) Q) (H : vcRegion P A id ops.toList draw e h K) :
    (Code.region id ops draw).wp P Q a w := by
  have := vcRegion_any (id := id) (fun _ => hy) hok hA hw hdf hB hP H
  cases draw with
  | false => exact wp_region_list (by simpa [RegP] using this)
  | true => exact wp_region_any hm this

/-! ### code -/
def exOf : Exit → Option Ex
  | .normal => some .normal
  | .exit i => some (.exit i)
  | .goto l => some (.goto l)
  | .ret => some .ret
  | _ => none
/-- What the machine's exits are to answer, by the conditions' own. -/
def Answers (D : List Deferred) (w0 : World) (a0 : Act) (W : List Nat) (Qv : Ex → Env → Heap → Prop) (Q : Exit → Act → World → Prop) : Prop :=
  ∀ x ex e a w, exOf ex = some x → Agree e a.tmps → Qv x e w.heap → Kin w0 w → a.defers = D → Off W a0 a → Q ex a w

theorem kills_spec : ∀ (l : List Nat) (e : Env) (n : Nat) (v : Value), Env.get (kills l e) n = some v → Env.get e n = some v ∧ n ∉ l
  | [], e, n, v, h => ⟨h, by simp⟩
  | d :: r, e, n, v, h => by
    obtain ⟨h1, h2⟩ := kills_spec r (Env.set e d none) n v h
    by_cases hdn : d = n
    · subst hdn
      have := Env.get_lt h1
      rw [Env.set_length] at this
      rw [Env.get_set_same _ _ _ this] at h1
      cases h1
    · rw [Env.get_set_ne _ _ _ _ hdn] at h1
      exact ⟨h1, by simp; exact ⟨fun h => hdn h.symm, h2⟩⟩
theorem kills_length : ∀ (l : List Nat) (e : Env), (kills l e).length = e.length
  | [], _ => rfl
  | d :: r, e => by rw [kills, kills_length, Env.set_length]

/-- the values in an environment's slots, put into another one -/
def carry (l : List (Nat × Sh)) (e' : Env) (e : Env) : Env := l.foldl (fun e p => Env.set e p.1 (Env.get e' p.1)) e

theorem allIn_use : ∀ (l : List (Nat × Sh)) (I : Inv l) (e' e : Env) (h : Heap) (f : Env → Prop), invAt l I e' h → allIn l e f → f (carry l e' e)
  | [], _, _, _, _, _, _, hf => by rw [allIn, withEnv_eq] at hf; exact hf
  | (d, .int k) :: r, I, e', e, h, f, hi, hf => by
    simp only [invAt] at hi
    split at hi
    case h_2 => exact hi.elim
    rename_i hg
    obtain ⟨hk, hi2⟩ := ifK_out hi
    subst hk
    simp only [carry, List.foldl_cons, hg]
    exact allIn_use r _ e' _ h f hi2 (hf _)
  | (d, .slice) :: r, I, e', e, h, f, hi, hf => by
    simp only [invAt] at hi
    split at hi
    case h_2 => exact hi.elim
    rename_i hg
    simp only [carry, List.foldl_cons, hg]
    exact allIn_use r _ e' _ h f hi (hf _ _ _)
  | (d, .bool) :: r, I, e', e, h, f, hi, hf | (d, .str) :: r, I, e', e, h, f, hi, hf | (d, .ptr) :: r, I, e', e, h, f, hi, hf | (d, .map) :: r, I, e', e, h, f, hi, hf
  | (d, .any) :: r, I, e', e, h, f, hi, hf | (d, .agg _) :: r, I, e', e, h, f, hi, hf | (d, .struct _) :: r, I, e', e, h, f, hi, hf | (d, .tuple _) :: r, I, e', e, h, f, hi, hf => by
    simp only [invAt] at hi
    split at hi
    case h_2 => exact hi.elim
    rename_i hg
    simp only [carry, List.foldl_cons, hg]
    exact allIn_use r _ e' _ h f hi (hf _)

theorem carry_get : ∀ (l : List (Nat × Sh)) (e' e : Env) (n : Nat) (v : Value), Env.get (carry l e' e) n = some v → Env.get e' n = some v ∨ Env.get e n = some v
  | [], _, _, _, _, h => .inr h
  | (d, s) :: r, e', e, n, v, h => by
    simp only [carry, List.foldl_cons] at h
    rcases carry_get r e' _ n v h with h | h
    · exact .inl h
    · by_cases hdn : d = n
      · subst hdn
        have := Env.get_lt h
        rw [Env.set_length] at this
        rw [Env.get_set_same _ _ _ this] at h
        exact .inl h
      · rw [Env.get_set_ne _ _ _ _ hdn] at h; exact .inr h
theorem carry_length : ∀ (l : List (Nat × Sh)) (e' e : Env), (carry l e' e).length = e.length
  | [], _, _ => rfl
  | (d, s) :: r, e', e => by simp only [carry, List.foldl_cons]; exact (carry_length r e' _).trans (Env.set_length _ _ _)

theorem Agree.carry {l : List (Nat × Sh)} {W : List Nat} {e e' : Env} {a0 a' : Act} (hA : Agree e a0.tmps) (hA' : Agree e' a'.tmps) (ho : Off W a0 a') : Agree (carry l e' (kills W e)) a'.tmps := by
  refine ⟨by rw [carry_length, kills_length, hA.1, ho.size], fun n v hn => ?_⟩
  rcases carry_get l e' _ n v hn with h | h
  · exact hA'.2 n v h
  · obtain ⟨h1, h2⟩ := kills_spec W e n v h
    rw [ho.get n h2]; exact hA.2 n v h1

/-- the measure, of a frame -/
def measOf : (l : List (Nat × Sh)) → Meas l → (Nat → Value) → Heap → Nat
  | [], M, _, h => M h
  | (d, .int _) :: r, M, g, h => match g d with
    | .int _ n => measOf r (M n) g h
    | _ => 0
  | (d, .bool) :: r, M, g, h => match g d with
    | .bool b => measOf r (M b) g h
    | _ => 0
  | (d, .str) :: r, M, g, h => match g d with
    | .string s => measOf r (M s) g h
    | _ => 0
  | (d, .ptr) :: r, M, g, h => match g d with
    | .pointer a => measOf r (M a) g h
    | _ => 0
  | (d, .slice) :: r, M, g, h => match g d with
    | .slice a l c => measOf r (M a l c) g h
    | _ => 0
  | (d, .map) :: r, M, g, h => match g d with
    | .map m => measOf r (M m) g h
    | _ => 0
  | (d, .any) :: r, M, g, h | (d, .agg _) :: r, M, g, h | (d, .struct _) :: r, M, g, h | (d, .tuple _) :: r, M, g, h => measOf r (M (g d)) g h
theorem measAt_of : ∀ (l : List (Nat × Sh)) (M : Meas l) {e : Env} {t : Array Value} {h : Heap} {f : Nat → Prop}, Agree e t → measAt l M e h f → f (measOf l M (fun n => t.getD n undef) h)
  | [], _, _, _, _, _, _, H => H
  | (d, .int _) :: r, M, e, t, h, f, hA, H | (d, .bool) :: r, M, e, t, h, f, hA, H | (d, .str) :: r, M, e, t, h, f, hA, H | (d, .ptr) :: r, M, e, t, h, f, hA, H
  | (d, .slice) :: r, M, e, t, h, f, hA, H | (d, .map) :: r, M, e, t, h, f, hA, H
  | (d, .any) :: r, M, e, t, h, f, hA, H | (d, .agg _) :: r, M, e, t, h, f, hA, H | (d, .struct _) :: r, M, e, t, h, f, hA, H | (d, .tuple _) :: r, M, e, t, h, f, hA, H => by
    simp only [measAt] at H
    split at H
    case h_2 => exact H.elim
    rename_i hg
    simp only [measOf, hA.2 d _ hg]
    exact measAt_of r _ hA H

theorem carry_mem : ∀ (l : List (Nat × Sh)) (e' e : Env) (d : Nat), d ∈ l.map Prod.fst ∨ Env.get e d = Env.get e' d → d < e.length → Env.get (carry l e' e) d = Env.get e' d
  | [], e', e, d, h, _ => by simpa [carry] using h
  | (c, s) :: r, e', e, d, h, hlt => by
    simp only [carry, List.foldl_cons]
    refine carry_mem r e' (Env.set e c (Env.get e' c)) d ?_ (by rw [Env.set_length]; exact hlt)
    by_cases hcd : c = d
    · subst hcd; exact .inr (Env.get_set_same _ _ _ hlt)
    · rcases h with h | h
      · simp only [List.map_cons, List.mem_cons] at h
        rcases h with h | h
        · exact absurd h.symm hcd
        · exact .inl h
      · exact .inr (by rw [Env.get_set_ne _ _ _ _ hcd]; exact h)
theorem invAt_congr : ∀ (l : List (Nat × Sh)) (I : Inv l) {e1 e2 : Env} {h : Heap}, (∀ d, d ∈ l.map Prod.fst → Env.get e1 d = Env.get e2 d) → invAt l I e1 h → invAt l I e2 h
  | [], _, _, _, _, _, H => H
  | (d, .int _) :: r, I, e1, e2, h, hc, H => by
    simp only [invAt] at H ⊢
    rw [← hc d (by simp)]
    split at H
    · rename_i hg
      obtain ⟨hk, H2⟩ := ifK_out H
      simp only [hg, ifK, if_pos hk]
      exact invAt_congr r _ (fun d hd => hc d (by simp [hd])) H2
    · exact H.elim
  | (d, .bool) :: r, I, e1, e2, h, hc, H | (d, .str) :: r, I, e1, e2, h, hc, H | (d, .ptr) :: r, I, e1, e2, h, hc, H
  | (d, .slice) :: r, I, e1, e2, h, hc, H | (d, .map) :: r, I, e1, e2, h, hc, H
  | (d, .any) :: r, I, e1, e2, h, hc, H | (d, .agg _) :: r, I, e1, e2, h, hc, H | (d, .struct _) :: r, I, e1, e2, h, hc, H | (d, .tuple _) :: r, I, e1, e2, h, hc, H => by
    simp only [invAt] at H ⊢
    rw [← hc d (by simp)]
    split at H
    · exact invAt_congr r _ (fun d hd => hc d (by simp [hd])) H
    · exact H.elim
theorem invAt_lt : ∀ (l : List (Nat × Sh)) (I : Inv l) {e : Env} {h : Heap}, invAt l I e h → ∀ d, d ∈ l.map Prod.fst → d < e.length
  | [], _, _, _, _, d, hd => by simp at hd
  | (c, .int _) :: r, I, e, h, H, d, hd => by
    simp only [invAt] at H
    split at H
    · rename_i hg
      simp only [List.map_cons, List.mem_cons] at hd
      rcases hd with rfl | hd
      · exact Env.get_lt hg
      · exact invAt_lt r _ (ifK_out H).2 d hd
    · exact H.elim
  | (c, .bool) :: r, I, e, h, H, d, hd | (c, .str) :: r, I, e, h, H, d, hd | (c, .ptr) :: r, I, e, h, H, d, hd
  | (c, .slice) :: r, I, e, h, H, d, hd | (c, .map) :: r, I, e, h, H, d, hd
  | (c, .any) :: r, I, e, h, H, d, hd | (c, .agg _) :: r, I, e, h, H, d, hd | (c, .struct _) :: r, I, e, h, H, d, hd | (c, .tuple _) :: r, I, e, h, H, d, hd => by
    simp only [invAt] at H
    split at H
    · rename_i hg
      simp only [List.map_cons, List.mem_cons] at hd
      rcases hd with rfl | hd
      · exact Env.get_lt hg
      · exact invAt_lt r _ H d hd
    · exact H.elim

/-- A cut, or a loop's head: what holds of the values at hand holds of them once all else is forgotten. -/
theorem forget {l : List (Nat × Sh)} {I : Inv l} {W : List Nat} {e e' : Env} {a0 a' : Act} {h : Heap} {p : Env → Prop} (hA : Agree e a0.tmps) (hA' : Agree e' a'.tmps) (ho : Off W a0 a') (hi : invAt l I e' h)
    (H : allIn l (kills W e) fun e1 => invAt l I e1 h → p e1) : ∃ e1, Agree e1 a'.tmps ∧ invAt l I e1 h ∧ p e1 := by
  have hlen : (kills W e).length = e'.length := by rw [kills_length, hA.1, hA'.1, ho.size]
  have hi1 : invAt l I (carry l e' (kills W e)) h := invAt_congr l I (fun d hd => (carry_mem l e' _ d (.inl hd) (by rw [hlen]; exact invAt_lt l I hi d hd)).symm) hi
  exact ⟨_, hA.carry hA' ho, hi1, allIn_use l I e' _ h _ hi H hi1⟩

theorem hasLabel_find : ∀ (c : Code) (l : Nat), hasLabel c l = (findLabel c l).isSome
  | .seq a b, l => by
    have ha := hasLabel_find a l
    have hb := hasLabel_find b l
    unfold hasLabel findLabel
    rw [ha]
    cases h : findLabel a l <;> simp [hb]
  | .label m, l => by
    unfold hasLabel findLabel
    by_cases h : m = l
    · subst h; simp
    · have h1 : Nat.beq m l = false := by rw [← Bool.not_eq_true]; exact fun e => h (Nat.eq_of_beq_eq_true e)
      simp [h, h1]
  | .skip, _ | .exit _, _ | .goto _, _ | .ret, _ | .region _ _ _, _ | .cond _ _ _, _ | .block _ _, _ | .loop _, _ | .scope _, _ | .rangeFunc _ _ _ _, _ | .refuse _, _ => rfl
theorem find_writes : ∀ (c : Code) (l : Nat) (r : Code), findLabel c l = some r → ∀ n ∈ writes r, n ∈ writes c
  | .seq a b, l, r, h, n, hn => by
    unfold findLabel at h
    split at h
    · rename_i x hx
      obtain rfl := Option.some.inj h
      simp only [writes, List.mem_append] at hn ⊢
      exact hn.imp (find_writes a l x hx n) id
    · have := find_writes b l r h n hn
      simp [writes, this]
  | .label m, l, r, h, n, hn => by
    unfold findLabel at h
    split at h
    · obtain rfl := Option.some.inj h; simp [writes] at hn
    · cases h
  | .skip, _, _, h, _, _ | .exit _, _, _, h, _, _ | .goto _, _, _, h, _, _ | .ret, _, _, h, _, _ | .region _ _ _, _, _, h, _, _ | .cond _ _ _, _, _, h, _, _ | .block _ _, _, _, h, _, _ | .loop _, _, _, h, _, _ | .scope _, _, _, h, _, _ | .rangeFunc _ _ _ _, _, _, h, _, _ | .refuse _, _, _, h, _, _ => by cases h
theorem label_find : ∀ (c : Code) (l : Nat), theLabel c = some l → ∃ r, findLabel c l = some r
  | .seq a b, l, h => by
    unfold theLabel at h
    unfold findLabel
    cases hf : findLabel a l with
    | some r => exact ⟨_, rfl⟩
    | none =>
      split at h
      · rename_i m hm
        obtain rfl := Option.some.inj h
        obtain ⟨r, hr⟩ := label_find a m hm
        rw [hr] at hf; cases hf
      · obtain ⟨r, hr⟩ := label_find b l h
        exact ⟨r, hr⟩
  | .label m, l, h => by
    obtain rfl := Option.some.inj h
    exact ⟨.skip, by simp [findLabel]⟩
  | .skip, _, h | .exit _, _, h | .goto _, _, h | .ret, _, h | .region _ _ _, _, h | .cond _ _ _, _, h | .block _ _, _, h | .loop _, _, h | .scope _, _, h | .rangeFunc _ _ _ _, _, h | .refuse _, _, h => by cases h

/-- what is walked: the whole, or what stands behind a label -/
def RestOf (c : Code) : Option Nat → Code → Prop
  | none, r => r = c
  | some l, r => findLabel c l = some r

theorem vcS_sound {A : Ann} (hm : P.follows .mixedOrders = true) (hy : A.yld = false) : ∀ (c : Code) (s : Option Nat) (r : Code) {Qv : Ex → Env → Heap → Prop} {Q : Exit → Act → World → Prop} {e : Env} {h : Heap} {a : Act} {w : World},
    RestOf c s r → drawsOk A c = true → Agree e a.tmps → w.heap = h → a.defers = D → Answers D w a (writes c) Qv Q → Pan A D w a (writes c) Q → vcS P A c s Qv e h → r.wp P Q a w
  | .skip, none, _, Qv, Q, e, h, a, w, hp, _, hA, hw, hdf, hQ, hP, H => by
    obtain rfl := hp
    exact wp_skip (hQ .normal .normal e a w rfl hA (by rw [hw]; exact H) (Kin.refl w) hdf (Off.refl _ _))
  | .label _, none, _, Qv, Q, e, h, a, w, hp, _, hA, hw, hdf, hQ, hP, H => by
    obtain rfl := hp
    exact wp_label (hQ .normal .normal e a w rfl hA (by rw [hw]; exact H) (Kin.refl w) hdf (Off.refl _ _))
  | .label m, some l, _, Qv, Q, e, h, a, w, hp, _, hA, hw, hdf, hQ, hP, H => by
    simp only [vcS] at H
    split at H
    · simp only [RestOf, findLabel] at hp
      split at hp
      · obtain rfl := Option.some.inj hp
        exact wp_skip (hQ .normal .normal e a w rfl hA (by rw [hw]; exact H) (Kin.refl w) hdf (Off.refl _ _))
      · cases hp
    · exact H.elim
  | .exit i, none, _, Qv, Q, e, h, a, w, hp, _, hA, hw, hdf, hQ, hP, H => by
    obtain rfl := hp
    exact wp_exit (hQ (.exit i) (.exit i) e a w rfl hA (by rw [hw]; exact H) (Kin.refl w) hdf (Off.refl _ _))
  | .goto i, none, _, Qv, Q, e, h, a, w, hp, _, hA, hw, hdf, hQ, hP, H => by
    obtain rfl := hp
    exact wp_goto (hQ (.goto i) (.goto i) e a w rfl hA (by rw [hw]; exact H) (Kin.refl w) hdf (Off.refl _ _))
  | .ret, none, _, Qv, Q, e, h, a, w, hp, _, hA, hw, hdf, hQ, hP, H => by
    obtain rfl := hp
    exact wp_ret (hQ .ret .ret e a w rfl hA (by rw [hw]; exact H) (Kin.refl w) hdf (Off.refl _ _))
  | .region id ops draw, none, _, Qv, Q, e, h, a, w, hp, hok, hA, hw, hdf, hQ, hP, H => by
    obtain rfl := hp
    simp only [vcS] at H
    exact vcRegion_sound hm hy hok hA hw hdf (fun e' a' w' g1 g2 g3 g4 g5 => hQ .normal .normal e' a' w' rfl g1 g2 g3 g4 g5) (hP.from_ (Kin.refl w) (Off.refl _ _) (fun _ h => h) (fun _ _ _ h => h)) H
  | .seq x y, none, _, Qv, Q, e, h, a, w, hp, hok, hA, hw, hdf, hQ, hP, H => by
    obtain rfl := hp
    simp only [drawsOk, Bool.and_eq_true] at hok
    have up : ∀ n, n ∈ writes x → n ∈ writes (.seq x y) := fun n hn => by simp [writes, hn]
    simp only [vcS] at H
    split at H
    · refine wp_seq (vcS_sound hm hy x none x rfl hok.1 hA hw hdf ?_ (hP.from_ (Kin.refl w) (Off.refl _ _) up (fun _ _ _ h => h)) H)
      intro ex ext e' a' w' hx g1 g2 g3 g4 g5
      cases ext <;> simp only [exOf, Option.some.injEq, reduceCtorEq] at hx <;> subst hx
      · refine vcS_sound hm hy y none y rfl hok.2 g1 rfl g4 ?_ (hP.from_ g3 (g5.mono up) (fun n hn => by simp [writes, hn]) (fun _ _ _ h => h)) g2
        intro ex2 ext2 e2 a2 w2 hx2 k1 k2 k3 k4 k5
        exact hQ ex2 ext2 e2 a2 w2 hx2 k1 k2 (g3.trans k3) k4 ((g5.mono up).trans (k5.mono fun n hn => by simp [writes, hn]))
      all_goals exact hQ _ _ e' a' w' rfl g1 g2 g3 g4 (g5.mono up)
    · rename_i l hc
      obtain ⟨I, h1, h2⟩ := H
      refine wp_seq (vcS_sound hm hy x none x rfl hok.1 hA hw hdf ?_ (hP.from_ (Kin.refl w) (Off.refl _ _) up (fun _ _ _ h => h)) h1)
      intro ex ext e' a' w' hx g1 g2 g3 g4 g5
      cases ext <;> simp only [exOf, Option.some.injEq, reduceCtorEq] at hx <;> subst hx
      · obtain ⟨e1, k1, k2, k3⟩ := forget hA g1 g5 g2 (h2 w'.heap)
        refine vcS_sound hm hy y none y rfl hok.2 k1 rfl g4 ?_ (hP.from_ g3 (g5.mono up) (fun n hn => by simp [writes, hn]) (fun _ _ _ h => h)) k3
        intro ex2 ext2 e2 a2 w2 hx2 m1 m2 m3 m4 m5
        exact hQ ex2 ext2 e2 a2 w2 hx2 m1 m2 (g3.trans m3) m4 ((g5.mono up).trans (m5.mono fun n hn => by simp [writes, hn]))
      all_goals exact hQ _ _ e' a' w' rfl g1 g2 g3 g4 (g5.mono up)
  | .seq x y, some l, r, Qv, Q, e, h, a, w, hp, hok, hA, hw, hdf, hQ, hP, H => by
    simp only [drawsOk, Bool.and_eq_true] at hok
    have up : ∀ n, n ∈ writes x → n ∈ writes (.seq x y) := fun n hn => by simp [writes, hn]
    simp only [vcS] at H
    simp only [RestOf, findLabel] at hp
    split at H
    · rename_i hl
      rw [hasLabel_find] at hl
      obtain ⟨x', hx'⟩ := Option.isSome_iff_exists.1 hl
      rw [hx'] at hp
      obtain rfl := Option.some.inj hp
      refine wp_seq (vcS_sound hm hy x (some l) x' hx' hok.1 hA hw hdf ?_ (hP.from_ (Kin.refl w) (Off.refl _ _) up (fun _ _ _ h => h)) H)
      intro ex ext e' a' w' hx g1 g2 g3 g4 g5
      cases ext <;> simp only [exOf, Option.some.injEq, reduceCtorEq] at hx <;> subst hx
      · refine vcS_sound hm hy y none y rfl hok.2 g1 rfl g4 ?_ (hP.from_ g3 (g5.mono up) (fun n hn => by simp [writes, hn]) (fun _ _ _ h => h)) g2
        intro ex2 ext2 e2 a2 w2 hx2 k1 k2 k3 k4 k5
        exact hQ ex2 ext2 e2 a2 w2 hx2 k1 k2 (g3.trans k3) k4 ((g5.mono up).trans (k5.mono fun n hn => by simp [writes, hn]))
      all_goals exact hQ _ _ e' a' w' rfl g1 g2 g3 g4 (g5.mono up)
    · rename_i hl
      rw [hasLabel_find] at hl
      have hn : findLabel x l = none := by cases hf : findLabel x l <;> simp_all
      rw [hn] at hp
      exact vcS_sound hm hy y (some l) r hp hok.2 hA hw hdf (fun ex ext e' a' w' hx g1 g2 g3 g4 g5 => hQ ex ext e' a' w' hx g1 g2 g3 g4 (g5.mono fun n hn => by simp [writes, hn])) (hP.from_ (Kin.refl w) (Off.refl _ _) (fun n hn => by simp [writes, hn]) (fun _ _ _ h => h)) H
  | .cond c x y, none, _, Qv, Q, e, h, a, w, hp, hok, hA, hw, hdf, hQ, hP, H => by
    obtain rfl := hp
    simp only [drawsOk, Bool.and_eq_true] at hok
    simp only [vcS] at H
    split at H
    case h_2 => exact H.elim
    rename_i t ht
    have hc := opv_eval hA ht
    cases t
    · exact wp_cond_false hc (vcS_sound hm hy y none y rfl hok.2 hA hw hdf (fun ex ext e' a' w' hx g1 g2 g3 g4 g5 => hQ ex ext e' a' w' hx g1 g2 g3 g4 (g5.mono fun n hn => by simp [writes, hn])) (hP.from_ (Kin.refl w) (Off.refl _ _) (fun n hn => by simp [writes, hn]) (fun _ _ _ h => h)) H)
    · exact wp_cond_true hc (vcS_sound hm hy x none x rfl hok.1 hA hw hdf (fun ex ext e' a' w' hx g1 g2 g3 g4 g5 => hQ ex ext e' a' w' hx g1 g2 g3 g4 (g5.mono fun n hn => by simp [writes, hn])) (hP.from_ (Kin.refl w) (Off.refl _ _) (fun n hn => by simp [writes, hn]) (fun _ _ _ h => h)) H)
  | .block id b, none, _, Qv, Q, e, h, a, w, hp, hok, hA, hw, hdf, hQ, hP, H => by
    obtain rfl := hp
    simp only [drawsOk] at hok
    refine wp_block (vcS_sound hm hy b none b rfl hok hA hw hdf ?_ (hP.from_ (Kin.refl w) (Off.refl _ _) (fun _ h => h) (fun _ _ _ h => h)) H)
    intro ex ext e' a' w' hx g1 g2 g3 g4 g5
    cases ext <;> simp only [exOf, Option.some.injEq, reduceCtorEq] at hx <;> subst hx
    case exit i =>
      simp only [Exit.inBlock]
      simp only at g2
      split at g2
      · rename_i hi
        rw [if_pos (Nat.eq_of_beq_eq_true hi)]
        exact hQ _ _ e' a' w' rfl g1 g2 g3 g4 g5
      · rename_i hi
        rw [if_neg (fun h => by subst h; simp at hi)]
        exact hQ _ _ e' a' w' rfl g1 g2 g3 g4 g5
    all_goals exact hQ _ _ e' a' w' rfl g1 g2 g3 g4 g5
  | .loop b, none, _, Qv, Q, e, h, a, w, hp, hok, hA, hw, hdf, hQ, hP, H => by
    obtain rfl := hp
    simp only [drawsOk] at hok
    simp only [vcS] at H
    split at H
    case h_2 => exact H.elim
    rename_i l hl
    obtain ⟨I, M, h0, hr⟩ := H
    refine wp_loop (fun a1 w1 => ∃ e', Agree e' a1.tmps ∧ invAt l I e' w1.heap ∧ Kin w w1 ∧ a1.defers = D ∧ Off (writes b) a a1) (fun a1 w1 => measOf l M (fun n => a1.tmps.getD n undef) w1.heap)
      ⟨e, hA, by rw [hw]; exact h0, Kin.refl w, hdf, Off.refl _ _⟩ ?_
    rintro a1 w1 ⟨e', g1, g2, g3, g4, g5⟩
    obtain ⟨e1, k1, k2, k3⟩ := forget hA g1 g5 g2 (hr w1.heap)
    have hb := measAt_of l M k1 k3
    refine vcS_sound hm hy b none b rfl hok k1 rfl g4 ?_ (hP.from_ g3 g5 (fun _ h => h) (fun _ _ _ h => h)) hb
    intro ex ext e2 a2 w2 hx m1 m2 m3 m4 m5
    cases ext <;> simp only [exOf, Option.some.injEq, reduceCtorEq] at hx <;> subst hx
    · obtain ⟨n1, n2⟩ := m2
      exact ⟨⟨e2, m1, n1, g3.trans m3, m4, g5.trans m5⟩, measAt_of l M (f := fun x => x < measOf l M (fun n => a1.tmps.getD n undef) w1.heap) m1 n2⟩
    all_goals exact hQ _ _ e2 a2 w2 rfl m1 m2 (g3.trans m3) m4 (g5.trans m5)
  | .scope b, none, _, Qv, Q, e, h, a, w, hp, hok, hA, hw, hdf, hQ, hP, H => by
    obtain rfl := hp
    simp only [drawsOk] at hok
    simp only [vcS] at H
    cases hl : theLabel b with
    | none =>
      rw [hl] at H
      refine wp_scope_straight (vcS_sound hm hy b none b rfl hok hA hw hdf ?_ (hP.from_ (Kin.refl w) (Off.refl _ _) (fun _ h => h) (fun _ _ _ h => h)) H)
      intro ex ext e' a' w' hx g1 g2 g3 g4 g5
      cases ext <;> simp only [exOf, Option.some.injEq, reduceCtorEq] at hx <;> subst hx
      case goto l => exact g2.elim
      all_goals exact hQ _ _ e' a' w' rfl g1 g2 g3 g4 g5
    | some m =>
      rw [hl] at H
      obtain ⟨r, hr⟩ := label_find b m hl
      refine wp_scope_jumps m (fun a' w' => ∃ e', Agree e' a'.tmps ∧ Kin w w' ∧ a'.defers = D ∧ Off (writes b) a a' ∧ vcS P A b (some m) (fun x e' h' => match x with
          | .goto _ => False
          | x => Qv x e' h') e' w'.heap) (fun _ _ => 0) hr (vcS_sound hm hy b none b rfl hok hA hw hdf ?_ (hP.from_ (Kin.refl w) (Off.refl _ _) (fun _ h => h) (fun _ _ _ h => h)) H) ?_
      · intro ex ext e' a' w' hx g1 g2 g3 g4 g5
        cases ext <;> simp only [exOf, Option.some.injEq, reduceCtorEq] at hx <;> subst hx
        case goto l =>
          simp only at g2
          split at g2
          · rename_i hb
            exact ⟨(Nat.eq_of_beq_eq_true hb).symm, e', g1, g3, g4, g5, g2⟩
          · exact g2.elim
        all_goals exact hQ _ _ e' a' w' rfl g1 g2 g3 g4 g5
      · rintro a1 w1 ⟨e', k1, k2, k3, k4, k5⟩
        refine vcS_sound hm hy b (some m) r hr hok k1 rfl k3 ?_ (hP.from_ k2 k4 (fun _ h => h) (fun _ _ _ h => h)) k5
        intro ex ext e2 a2 w2 hx g1 g2 g3 g4 g5
        cases ext <;> simp only [exOf, Option.some.injEq, reduceCtorEq] at hx <;> subst hx
        case goto l => exact g2.elim
        all_goals exact hQ _ _ e2 a2 w2 rfl g1 g2 (k2.trans g3) g4 (k4.trans g5)
  | .rangeFunc _ _ _ _, _, _, _, _, _, _, _, _, _, _, _, _, _, _, _, H => by cases ‹Option Nat› <;> exact H.elim
  | .refuse _, _, _, _, _, _, _, _, _, _, _, _, _, _, _, _, H => by cases ‹Option Nat› <;> exact H.elim
  | .skip, some _, _, _, _, _, _, _, _, _, _, _, _, _, _, _, H | .exit _, some _, _, _, _, _, _, _, _, _, _, _, _, _, _, _, H | .goto _, some _, _, _, _, _, _, _, _, _, _, _, _, _, _, _, H | .ret, some _, _, _, _, _, _, _, _, _, _, _, _, _, _, _, H
  | .region _ _ _, some _, _, _, _, _, _, _, _, _, _, _, _, _, _, _, H | .cond _ _ _, some _, _, _, _, _, _, _, _, _, _, _, _, _, _, _, H | .block _ _, some _, _, _, _, _, _, _, _, _, _, _, _, _, _, _, H | .loop _, some _, _, _, _, _, _, _, _, _, _, _, _, _, _, _, H | .scope _, some _, _, _, _, _, _, _, _, _, _, _, _, _, _, _, H => H.elim

theorem vc_sound {A : Ann} (hm : P.follows .mixedOrders = true) (hy : A.yld = false) (c : Code) {Qv : Ex → Env → Heap → Prop} {Q : Exit → Act → World → Prop} {e : Env} {h : Heap} {a : Act} {w : World}
    (hok : drawsOk A c = true) (hA : Agree e a.tmps) (hw : w.heap = h) (hdf : a.defers = D) (hQ : Answers D w a (writes c) Qv Q) (hP : Pan A D w a (writes c) Q) (H : vc P A c Qv e h) : c.wp P Q a w :=
  vcS_sound hm hy c none c rfl hok hA hw hdf hQ hP H

end Go.Vc
