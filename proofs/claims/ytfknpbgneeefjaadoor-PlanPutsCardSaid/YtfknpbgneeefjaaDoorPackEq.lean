import Derived.Test.YtfknpbgneeefjaaDoorPacks
import Derived.Test.YtfknpbgneeefjaaDoorVcS

namespace Go.Packs
open Go.Vc
set_option linter.unusedVariables false
set_option linter.unusedSimpArgs false
theorem run_equal_ref {P : Program} {t ta e ti : TypeId} {k : IntKind} {f0 f1 : Field} (ht : P.underlying t = some (.struct #[f0, f1])) (hst : P.stoodInHeld t = false) (n0 : f0.name = "Sum") (n1 : f1.name = "Size") (t0 : f0.type = ta) (o0 : f0.offset = 0) (t1 : f1.type = ti) (o1 : f1.offset = 32)
    (hta : P.underlying ta = some (.array 32 e)) (he : P.underlying e = some (.int .u8)) (hce : P.cellsOf e = 1) (hca : P.cellsOf ta = 32) (hti : P.underlying ti = some (.int k)) (xs ys : List Int) (hx : xs.length = 32) (hy : ys.length = 32) (a b : Int) (w : World) :
    (Op.equal t (.agg (xs.map (fun z => Value.int .u8 z) ++ [Value.int k a]).toArray) (.agg (ys.map (fun z => Value.int .u8 z) ++ [Value.int k b]).toArray)).run P w = .ok (decide (xs = ys ∧ a = b)) w := by
  have hp0 : ∀ (zs : List Int) (c : Int), zs.length = 32 → ∀ w, (part ta (zs.map (fun z => Value.int .u8 z) ++ [Value.int k c]).toArray 0).run P w = .ok (.agg (zs.map (fun z => Value.int .u8 z)).toArray) w := fun zs c hz w => by
    rw [Vc.run_part hta rfl, hca]
    congr 3
    simp only [List.drop_zero]
    rw [List.take_append_of_le_length (by simp [hz]), List.take_of_length_le (by simp [hz])]
  have hp1 : ∀ (zs : List Int) (c : Int), zs.length = 32 → ∀ w, (part ti (zs.map (fun z => Value.int .u8 z) ++ [Value.int k c]).toArray 32).run P w = .ok (.int k c) w := fun zs c hz w => by
    refine Vc.run_part_plain hti rfl ?_ w
    simp [List.getElem?_append_right, hz]
  have e0 : ∀ w, (Op.equalIn 9999 ta (.agg (xs.map fun z => Value.int .u8 z).toArray) (.agg (ys.map fun z => Value.int .u8 z).toArray)).run P w = .ok (decide (xs = ys)) w := fun w => run_equalIn_ints (d := 9998) (fun a b w => run_equal_int he 9997 a b w) hta he hce xs ys hx hy w
  have e1 : ∀ (a b : Int) w, (Op.equalIn 9999 ti (.int k a) (.int k b)).run P w = .ok (a == b) w := fun a b w => run_equal_int hti 9998 a b w
  show (Op.equalIn (9999 + 1) t _ _).run P w = _
  generalize 9999 = dd at e0 e1
  simp only [Op.equalIn, Sem.run_bind, run_underlying ht, Result.andThen_ok, hst, Bool.false_eq_true, if_false]
  simp only [List.forIn_toArray, List.forIn_cons, List.forIn_nil, n0, n1, t0, t1, o0, o1, Sem.run_bind, hp0 xs a hx, hp0 ys b hy, hp1 xs a hx, hp1 ys b hy, e0, e1, Result.andThen_ok, Sem.run_ite, Sem.run_pure]
  have hst' : ¬ (P.stoodInHeld t = true) := by rw [hst]; decide
  by_cases h1 : xs = ys
  · subst h1
    by_cases h2 : a = b
    · subst h2
      simp [hst, hp1 xs a hx, e1]
    · simp [hst, hp1 xs a hx, hp1 xs b hx, e1, h2]
  · simp [hst, h1]
end Go.Packs
