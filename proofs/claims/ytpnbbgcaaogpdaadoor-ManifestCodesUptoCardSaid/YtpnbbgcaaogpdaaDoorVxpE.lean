import Derived.Test.YtpnbbgcaaogpdaaDoorVcU
import Derived.Test.YtpnbbgcaaogpdaaDoorVcX
import Derived.Test.YtpnbbgcaaogpdaaDoorVcS

namespace Go.Vc
set_option linter.unusedVariables false
set_option linter.unusedSimpArgs false
variable {P : Program}
def rowV (ds : List Nat) : Value := .agg (ds.map fun n : Nat => Value.int .u8 (n : Int)).toArray
theorem row_ints (ds : List Nat) : (ds.map fun n : Nat => Value.int .u8 (n : Int)) = (ds.map Int.ofNat).map fun z => Value.int .u8 z := by
  rw [List.map_map]; rfl
theorem ofNat_inj {a b : List Nat} : a.map Int.ofNat = b.map Int.ofNat ↔ a = b := by
  constructor
  · intro h
    have := congrArg (List.map Int.toNat) h
    simpa [List.map_map, Function.comp_def] using this
  · intro h; rw [h]
theorem run_equal_rows {t e : TypeId} {n d : Nat} (hin : ∀ a b w, (Op.equalIn d e (.int .u8 a) (.int .u8 b)).run P w = .ok (a == b) w) (ht : P.underlying t = some (.array n e)) (he : P.underlying e = some (.int .u8)) (hc : P.cellsOf e = 1) (a b : List Nat) (ha : a.length = n) (hb : b.length = n) (w : World) :
    (Op.equalIn (d + 1) t (rowV a) (rowV b)).run P w = .ok (decide (a = b)) w := by
  unfold rowV
  rw [row_ints, row_ints, run_equalIn_ints hin ht he hc _ _ (by simpa using ha) (by simpa using hb)]
  congr 1
  exact decide_eq_decide.2 ofNat_inj
theorem run_chk_row {t e : TypeId} {n : Nat} (em : Bool) {d : Nat} (hi : ∀ (z : Int) w, (Instr.checkKey em d e (.int .u8 z)).run P w = .ok () w) (ht : P.underlying t = some (.array n e)) (he : P.underlying e = some (.int .u8)) (hc : P.cellsOf e = 1) (a : List Nat) (ha : a.length = n) (w : World) :
    (Instr.checkKey em (d + 1) t (rowV a)).run P w = .ok () w := by
  have hs : ∀ w, (sizeOf e).run P w = .ok 1 w := fun w => by rw [run_size he, hc]
  have hp : ∀ (i : Nat) (z : Nat), a[i]? = some z → ∀ w, (part e (a.map fun n : Nat => Value.int .u8 (n : Int)).toArray i).run P w = .ok (.int .u8 z) w := fun i z hz w =>
    run_part_plain he rfl (by simp [hz]) w
  have key : ∀ (m i : Nat), i + m = n → ∀ w, (forIn (m := Sem) (List.range' i m 1) () fun i r => do
      Instr.checkKey em d e (← part e (a.map fun n : Nat => Value.int .u8 (n : Int)).toArray (i * (← sizeOf e)))
      pure (ForInStep.yield ())).run P w = .ok () w := by
    intro m
    induction m with
    | zero => intro i hi' w; simp
    | succ m ih =>
      intro i hi' w
      obtain ⟨z, hz⟩ : ∃ z, a[i]? = some z := ⟨a[i]'(by omega), List.getElem?_eq_getElem (by omega)⟩
      rw [List.range'_succ, List.forIn_cons]
      simp only [Sem.run_bind, hs, Result.andThen_ok, Nat.mul_one, hp i z hz, hi, Sem.run_pure]
      have := ih (i + 1) (by omega) w
      exact this
  unfold rowV
  simp only [Instr.checkKey, Sem.run_bind, run_und ht, Result.andThen_ok]
  rw [Std.Legacy.Range.forIn_eq_forIn_range']
  have := key n 0 (by omega) w
  simp only [Std.Legacy.Range.size, Nat.sub_zero, Nat.add_sub_cancel, Nat.div_one]
  rw [this]
  simp
theorem rows_keyed {t e : TypeId} {n : Nat} (ht : P.underlying t = some (.array n e)) (he : P.underlying e = some (.int .u8)) (hc : P.cellsOf e = 1) : Keyed P t rowV (fun ds => ds.length = n) where
  und := ⟨_, ht, .inr fun _ _ => rfl⟩
  eq a b ha hb w := run_equal_rows (d := 9999) (fun a b w => run_equal_int he 9998 a b w) ht he hc a b ha hb w
  chk em a ha w := run_chk_row (d := 9999) em (fun z w => run_chk_num he em 9998 z w) ht he hc a ha w
  same a _ := by
    show Instr.sameBits (9999 + 1) (rowV a) (rowV a) = true
    generalize 9999 = d
    unfold rowV
    simp only [Instr.sameBits, beq_self_eq_true, Bool.true_and, List.all_eq_true]
    rintro ⟨x, y⟩ hxy
    have : x = y ∧ ∃ n : Nat, x = .int .u8 n := by
      obtain ⟨i, hi⟩ := List.mem_iff_getElem?.1 hxy
      obtain ⟨h1, h2⟩ := List.getElem?_zip_eq_some.1 hi
      rw [h1] at h2
      refine ⟨Option.some.inj h2, ?_⟩
      simp only [List.getElem?_map] at h1
      cases hz : a[i]? with
      | none => rw [hz] at h1; cases h1
      | some z => rw [hz] at h1; exact ⟨z, (Option.some.inj h1).symm⟩
    obtain ⟨rfl, n, rfl⟩ := this
    cases d <;> simp [Instr.sameBits]
/-- a row of n bytes and a number behind it -/
def refC (r : List Nat × Int) : List Value := (r.1.map fun n : Nat => Value.int .u8 (n : Int)) ++ [.int .i64 r.2]
theorem refC_len (r : List Nat × Int) : (refC r).length = r.1.length + 1 := by simp [refC]
theorem refC_one (r : List Nat × Int) : ∀ u ∈ refC r, one u = true := by
  intro u hu
  rcases List.mem_append.1 hu with hu | hu
  · obtain ⟨n, _, rfl⟩ := List.mem_map.1 hu; rfl
  · simp at hu; subst hu; rfl
theorem run_equal_refs {t ta ti e : TypeId} {n : Nat} {f0 f1 : Field} (ht : P.underlying t = some (.struct #[f0, f1])) (hst : P.stoodInHeld t = false) (n0 : (f0.name == "_") = false) (n1 : (f1.name == "_") = false) (t0 : f0.type = ta) (o0 : f0.offset = 0) (t1 : f1.type = ti) (o1 : f1.offset = n)
    (hta : P.underlying ta = some (.array n e)) (he : P.underlying e = some (.int .u8)) (hc : P.cellsOf e = 1) (hca : P.cellsOf ta = n) (hti : P.underlying ti = some (.int .i64)) (p q : List Nat × Int) (hp : p.1.length = n) (hq : q.1.length = n) (w : World) :
    (Op.equal t (.agg (refC p).toArray) (.agg (refC q).toArray)).run P w = .ok (decide (p = q)) w := by
  have hp0 : ∀ (r : List Nat × Int), r.1.length = n → ∀ w, (part ta (refC r).toArray 0).run P w = .ok (rowV r.1) w := fun r hr w => by
    rw [Vc.run_part hta rfl, hca]
    unfold rowV refC
    congr 2
    simp [← hr]
  have hp1 : ∀ (r : List Nat × Int), r.1.length = n → ∀ w, (part ti (refC r).toArray n).run P w = .ok (.int .i64 r.2) w := fun r hr w => Vc.run_part_plain hti rfl (by unfold refC; simp [← hr]) w
  have e0 : ∀ (a b : List Nat), a.length = n → b.length = n → ∀ w, (Op.equalIn 9999 ta (rowV a) (rowV b)).run P w = .ok (decide (a = b)) w := fun a b ha hb w => run_equal_rows (d := 9998) (fun a b w => run_equal_int he 9997 a b w) hta he hc a b ha hb w
  have e1 : ∀ (a b : Int) w, (Op.equalIn 9999 ti (.int .i64 a) (.int .i64 b)).run P w = .ok (a == b) w := fun a b w => run_equal_int hti 9998 a b w
  have n0' : f0.name ≠ "_" := by simpa using n0
  have n1' : f1.name ≠ "_" := by simpa using n1
  show (Op.equalIn (9999 + 1) t _ _).run P w = _
  have h00 := hp0 p hp
  have h01 := hp0 q hq
  have h10 := hp1 p hp
  have h11 := hp1 q hq
  have e0' := e0 p.1 q.1 hp hq
  have e1' := e1 p.2 q.2
  generalize 9999 = dd at e0' e1'
  generalize (refC p).toArray = cp at h00 h10
  generalize (refC q).toArray = cq at h01 h11
  simp only [Op.equalIn, Sem.run_bind, run_underlying ht, Result.andThen_ok, hst, Bool.false_eq_true, if_false]
  simp only [List.forIn_toArray, List.forIn_cons, List.forIn_nil, t0, t1, o0, o1, Sem.run_bind, h00, h01, h10, h11, e0', e1', Result.andThen_ok, Sem.run_ite, Sem.run_pure]
  obtain ⟨a, b⟩ := p
  obtain ⟨c, d⟩ := q
  simp only at h00 h01 h10 h11 e0' e1' ⊢
  by_cases h1 : a = c
  · subst h1
    by_cases h2 : b = d
    · subst h2
      simp [hst, n0', n1', h00, h01, h10, h11, e0', e1']
    · simp [hst, n0', n1', h00, h01, h10, h11, e0', e1', h2]
  · simp [hst, n0', n1', h00, h01, h10, h11, e0', e1', h1]
end Go.Vc
