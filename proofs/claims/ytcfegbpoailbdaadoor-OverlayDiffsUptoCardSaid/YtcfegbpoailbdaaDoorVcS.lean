import Derived.Test.YtcfegbpoailbdaaDoorVcN

namespace Go.Vc
set_option linter.unusedVariables false
variable {P : Program}

theorem run_equal_int {e : TypeId} {k : IntKind} (he : P.underlying e = some (.int k)) (d : Nat) (a b : Int) (w : World) : (Op.equalIn (d + 1) e (.int k a) (.int k b)).run P w = .ok (a == b) w := by
  simp [Op.equalIn, run_underlying he]

theorem run_equalIn_ints {t e : TypeId} {k : IntKind} {n d : Nat} (hin : ∀ a b w, (Op.equalIn d e (.int k a) (.int k b)).run P w = .ok (a == b) w) (ht : P.underlying t = some (.array n e)) (he : P.underlying e = some (.int k)) (hc : P.cellsOf e = 1) (xs ys : List Int) (hx : xs.length = n) (hy : ys.length = n) (w : World) :
    (Op.equalIn (d + 1) t (.agg (xs.map fun z => Value.int k z).toArray) (.agg (ys.map fun z => Value.int k z).toArray)).run P w = .ok (decide (xs = ys)) w := by
  have hs : ∀ w, (sizeOf e).run P w = .ok 1 w := fun w => by rw [run_size he, hc]
  have hp : ∀ (zs : List Int) (i : Nat) (z : Int), zs[i]? = some z → ∀ w, (part e (zs.map fun z => Value.int k z).toArray i).run P w = .ok (.int k z) w := fun zs i z hz w =>
    run_part_plain he rfl (by simp [hz]) w
  have key : ∀ (m i : Nat), i + m = n → ∀ w, (forIn (m := Sem) (List.range' i m 1) ((none, ()) : Option Bool × Unit) fun i r => do
      if (!(← Op.equalIn d e (← part e (xs.map fun z => Value.int k z).toArray (i * 1)) (← part e (ys.map fun z => Value.int k z).toArray (i * 1)))) = true then pure (ForInStep.done (some false, ()))
      else pure (ForInStep.yield (none, ()))).run P w = .ok (if xs.drop i = ys.drop i then (none, ()) else (some false, ())) w := by
    intro m
    induction m with
    | zero =>
      intro i hi w
      rw [List.drop_of_length_le (by omega), List.drop_of_length_le (by omega), if_pos rfl]
      simp
    | succ m ih =>
      intro i hi w
      obtain ⟨a, ha⟩ : ∃ a, xs[i]? = some a := ⟨xs[i]'(by omega), List.getElem?_eq_getElem (by omega)⟩
      obtain ⟨b, hb⟩ : ∃ b, ys[i]? = some b := ⟨ys[i]'(by omega), List.getElem?_eq_getElem (by omega)⟩
      have da : xs.drop i = a :: xs.drop (i + 1) := by rw [List.drop_eq_getElem_cons (by omega)]; congr 1; simpa [List.getElem?_eq_getElem (show i < xs.length by omega)] using ha
      have db : ys.drop i = b :: ys.drop (i + 1) := by rw [List.drop_eq_getElem_cons (by omega)]; congr 1; simpa [List.getElem?_eq_getElem (show i < ys.length by omega)] using hb
      rw [List.range'_succ, List.forIn_cons]
      simp only [Sem.run_bind, Nat.mul_one, hp xs i a ha, hp ys i b hb, Result.andThen_ok, hin, Sem.run_ite, Sem.run_pure]
      by_cases hab : a = b
      · subst hab
        simp only [beq_self_eq_true, Bool.not_true, Bool.false_eq_true, if_false, Result.andThen_ok]
        have := ih (i + 1) (by omega) w
        simp only [Nat.mul_one] at this
        rw [this, da, db]
        simp
      · have : (a == b) = false := by simp [hab]
        simp only [this, Bool.not_false, if_true, Result.andThen_ok, Sem.run_pure]
        rw [da, db, if_neg (by intro e; injection e; contradiction)]
  simp only [Op.equalIn, Sem.run_bind, run_underlying ht, Result.andThen_ok, hs]
  rw [Std.Legacy.Range.forIn_eq_forIn_range']
  have := key n 0 (by omega) w
  simp only [Std.Legacy.Range.size, Nat.sub_zero, Nat.add_sub_cancel, Nat.div_one]
  simp only [List.drop_zero] at this
  rw [this]
  by_cases h : xs = ys <;> simp [h]
/-- Two arrays of numbers compared. -/
theorem run_equal_ints {t e : TypeId} {k : IntKind} {n : Nat} (ht : P.underlying t = some (.array n e)) (he : P.underlying e = some (.int k)) (hc : P.cellsOf e = 1) (xs ys : List Int) (hx : xs.length = n) (hy : ys.length = n) (w : World) :
    (Op.equal t (.agg (xs.map fun z => Value.int k z).toArray) (.agg (ys.map fun z => Value.int k z).toArray)).run P w = .ok (decide (xs = ys)) w :=
  run_equalIn_ints (d := 9999) (fun a b w => run_equal_int he 9998 a b w) ht he hc xs ys hx hy w
end Go.Vc
