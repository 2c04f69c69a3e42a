import Derived.Test.YtnahhdkekchmfaaDoorLayC
import Derived.Test.YtnahhdkekchmfaaDoorVcX

namespace Go.Proofs.YtnahhdkekchmfaaDoor
open Go.Vc Go.Sha Go.Trail Go.Lay
set_option linter.unusedVariables false
set_option linter.unusedSimpArgs false
def eqE (e f : EntV) : Bool := e.path == f.path && e.kind == f.kind && e.mode == f.mode && e.body == f.body
theorem beq_bytes (a b : ByteArray) : (a == b) = true ↔ a = b := by
  obtain ⟨a⟩ := a
  obtain ⟨b⟩ := b
  show (a == b) = true ↔ _
  simp
theorem eqE_iff (e f : EntV) : eqE e f = true ↔ e = f := by
  obtain ⟨e1, e2, e3, e4⟩ := e
  obtain ⟨f1, f2, f3, f4⟩ := f
  simp only [eqE, Bool.and_eq_true, beq_bytes, beq_iff_eq, EntV.mk.injEq, and_assoc]
theorem held30 : Tryd.prog.stoodInHeld 30 = false := by kernel_rfl
theorem eqg30 : Tryd.prog.eqGuardType Tryd.prog.depth 30 = false := by kernel_rfl
theorem part30s (e : EntV) (w : World) : (part 9 (entA e) 0).run Tryd.prog w = .ok (.string e.path) w := Vc.run_part_plain Tryd.underlying9 rfl rfl w
theorem part30k (e : EntV) (w : World) : (part 3 (entA e) 1).run Tryd.prog w = .ok (.int .i64 e.kind) w := Vc.run_part_plain Tryd.underlying3 rfl rfl w
theorem part30m (e : EntV) (w : World) : (part 3 (entA e) 2).run Tryd.prog w = .ok (.int .i64 e.mode) w := Vc.run_part_plain Tryd.underlying3 rfl rfl w
theorem part30b (e : EntV) (w : World) : (part 9 (entA e) 3).run Tryd.prog w = .ok (.string e.body) w := Vc.run_part_plain Tryd.underlying9 rfl rfl w
theorem run_equal_str (d : Nat) (a b : ByteArray) (w : World) : (Op.equalIn (d + 1) 9 (.string a) (.string b)).run Tryd.prog w = .ok (a == b) w := by
  simp [Op.equalIn, run_underlying Tryd.underlying9]
theorem run_equal_ent (e f : EntV) (w : World) : (Op.equal 30 (.agg (entA e)) (.agg (entA f))).run Tryd.prog w = .ok (eqE e f) w := by
  have e0 : ∀ (a b : ByteArray) w, (Op.equalIn 9999 9 (.string a) (.string b)).run Tryd.prog w = .ok (a == b) w := fun a b w => run_equal_str 9998 a b w
  have e1 : ∀ (a b : Int) w, (Op.equalIn 9999 3 (.int .i64 a) (.int .i64 b)).run Tryd.prog w = .ok (a == b) w := fun a b w => run_equal_int Tryd.underlying3 9998 a b w
  show (Op.equalIn (9999 + 1) 30 _ _).run Tryd.prog w = _
  generalize 9999 = dd at e0 e1
  simp only [Op.equalIn, Sem.run_bind, run_underlying Tryd.underlying30, Result.andThen_ok, held30, Bool.false_eq_true, if_false]
  simp only [List.forIn_toArray, List.forIn_cons, List.forIn_nil, Sem.run_bind, part30s, part30k, part30m, part30b, e0, e1, Result.andThen_ok, Sem.run_ite, Sem.run_pure]
  unfold eqE
  have hst' : ¬ (Tryd.prog.stoodInHeld 30 = true) := by rw [held30]; decide
  rcases Bool.eq_false_or_eq_true (e.path == f.path) with h1 | h1
  · rcases Bool.eq_false_or_eq_true (e.kind == f.kind) with h2 | h2
    · rcases Bool.eq_false_or_eq_true (e.mode == f.mode) with h3 | h3
      · rcases Bool.eq_false_or_eq_true (e.body == f.body) with h4 | h4 <;> simp [h1, h2, h3, h4, hst', part30s, part30k, part30m, part30b, e0, e1]
      · simp [h1, h2, h3, hst', part30s, part30k, part30m, part30b, e0, e1]
    · simp [h1, h2, hst', part30s, part30k, part30m, part30b, e0, e1]
  · simp [h1, hst', part30s, part30k, part30m, part30b, e0, e1]

/-- what a layer is charged for -/
def sizeC (es : List EntV) : Nat := (es.map fun e => e.path.size + e.body.size).sum
theorem sizeC_cons (e : EntV) (es : List EntV) : sizeC (e :: es) = e.path.size + e.body.size + sizeC es := by simp [sizeC]
theorem sizeC_snoc (es : List EntV) (e : EntV) : sizeC (es ++ [e]) = sizeC es + (e.path.size + e.body.size) := by simp [sizeC]
theorem sizeC_le {es : List EntV} (h : Small es) : sizeC es ≤ es.length * 2 ^ 30 := by
  induction es with
  | nil => simp [sizeC]
  | cons e es ih =>
    have := h e (by simp)
    have := ih fun x hx => h x (List.mem_cons_of_mem _ hx)
    rw [sizeC_cons, List.length_cons, Nat.succ_mul]; omega
theorem take_en {es : List EntV} {k : Nat} (h : k < es.length) : es.take (k + 1) = es.take k ++ [en es k] := by
  rw [List.take_add_one, en_get h]; rfl
theorem small_take {es : List EntV} (h : Small es) (k : Nat) : Small (es.take k) := fun e he => h e (List.mem_of_mem_take he)
theorem size_bound {es : List EntV} (h : Small es) (hl : es.length < 2 ^ 20) (k : Nat) : sizeC (es.take k) < 2 ^ 50 := by
  have := sizeC_le (small_take h k)
  have h2 : (es.take k).length ≤ es.length := List.length_take_le' k es
  have := Nat.mul_le_mul_right (2 ^ 30) h2
  omega

theorem size_ok (a : Option Addr) (l c : Nat) (es : List EntV) (h : Heap) (w : Tab 4 h a l c (ents es)) (hs : Small es) (hl : l < 2 ^ 20) :
    HEnt Tryd.prog 17 #[.slice a l c] h fun v h' => v = .int .i64 (sizeC es) ∧ Ext h h' := by
  have hlen : es.length = l := by have := w.len; rwa [ents_len] at this
  refine F17_ent _ _ _ _ _ ?_
  unfold F17
  rintro _ rfl
  refine ⟨fun n x hh => ∃ k : Nat, x = k ∧ k ≤ l ∧ Ext h hh ∧ n = (sizeC (es.take k) : Nat), fun _ x _ => ((l : Int) - x).toNat, ⟨0, rfl, by omega, Ext.refl _, rfl⟩, ?_⟩
  rintro h1 _ _ ⟨k, rfl, hk, x1, rfl⟩
  unfold F17_b1
  refine br_of (fun g => ?_) (fun g => ?_)
  · have hk' : k < l := by simpa using g
    obtain ⟨q, eq, _, c0, c1, c2, c3⟩ := ent_get (w.grow x1) (en_get (i := k) (by omega))
    have hsm := hs _ (en_mem (es := es) (i := k) (by omega))
    unfold F17_k2
    refine ⟨q, eq, by omega, by omega, _, _, _, _, by rw [Int.toNat_natCast]; exact c0, by rw [Int.toNat_natCast]; exact c1, by rw [Int.toNat_natCast]; exact c2, by rw [Int.toNat_natCast]; exact c3, rfl, ?_⟩
    refine (St.start h1).new fun b h2 s2 x2 _ => ?_
    refine fill (vs := entA (en es k)) s2 zero30 (entA_size _) (entA_one _) fun h3 s3 o3 => ?_
    refine ⟨_, s3.cell 0 rfl rfl, _, s3.cell 0 rfl rfl, ?_⟩
    rintro _ rfl
    have hb := size_bound hs (by omega) (k + 1)
    have e1 := sizeC_snoc (es.take k) (en es k)
    rw [← take_en (by omega)] at e1
    rw [i64_lt ((k : Int) + 1) (by omega) (by omega), i64_lt (((en es k).path.size : Int) + _) (by omega) (by omega), i64_lt _ (by omega) (by omega)]
    refine ⟨⟨k + 1, by omega, by omega, x1.trans s3.ext, by rw [e1]; omega⟩, by show ((l : Int) - ((k : Int) + 1)).toNat < ((l : Int) - k).toNat; omega⟩
  · have hk' : k = l := by
      have : ¬ (k : Int) < (l : Int) := by simpa using g
      omega
    unfold F17_k3
    exact ⟨by rw [hk', ← hlen, List.take_length], x1⟩
theorem refSize_ok (a : Option Addr) (l c : Nat) (es : List EntV) (h : Heap) (w : Tab 4 h a l c (ents es)) (hs : Small es) (hl : l < 2 ^ 20) :
    HEnt Tryd.prog 18 #[.slice a l c] h fun v h' => v = .int .i64 (sizeC es) ∧ Ext h h' := by
  have hlen : es.length = l := by have := w.len; rwa [ents_len] at this
  refine F18_ent _ _ _ _ _ ?_
  unfold F18
  rintro _ rfl _ rfl
  refine ⟨fun n x hh => ∃ k : Nat, x = k ∧ k ≤ l ∧ Ext h hh ∧ n = (sizeC (es.take k) : Nat), fun _ x _ => ((l : Int) - x).toNat, ⟨0, rfl, by omega, Ext.refl _, rfl⟩, ?_⟩
  rintro h1 _ _ ⟨k, rfl, hk, x1, rfl⟩
  unfold F18_b1
  refine br_of (fun g => ?_) (fun g => ?_)
  · have hk' : k < l := by simpa using g
    obtain ⟨q, eq, _, c0, c1, c2, c3⟩ := ent_get (w.grow x1) (en_get (i := k) (by omega))
    have hsm := hs _ (en_mem (es := es) (i := k) (by omega))
    unfold F18_k2
    refine ⟨q, eq, by omega, by omega, _, by rw [Int.toNat_natCast]; exact c0, ?_⟩
    rintro _ rfl
    refine ⟨q, eq, by omega, by omega, _, by rw [Int.toNat_natCast]; exact c3, ?_⟩
    rintro _ rfl _ rfl
    have hb := size_bound hs (by omega) (k + 1)
    have e1 := sizeC_snoc (es.take k) (en es k)
    rw [← take_en (by omega)] at e1
    rw [i64_lt ((k : Int) + 1) (by omega) (by omega), i64_lt ((sizeC (es.take k) : Int) + _) (by omega) (by omega), i64_lt _ (by omega) (by omega)]
    refine ⟨⟨k + 1, by omega, by omega, x1, by rw [e1]; omega⟩, by show ((l : Int) - ((k : Int) + 1)).toNat < ((l : Int) - k).toNat; omega⟩
  · have hk' : k = l := by
      have : ¬ (k : Int) < (l : Int) := by simpa using g
      omega
    unfold F18_k3
    exact ⟨by rw [hk', ← hlen, List.take_length], x1⟩

theorem same_ok (a : Option Addr) (l c : Nat) (es : List EntV) (a' : Option Addr) (l' c' : Nat) (fs : List EntV) (h : Heap) (w : Tab 4 h a l c (ents es)) (w' : Tab 4 h a' l' c' (ents fs)) (hl : l < 2 ^ 40) :
    HEnt Tryd.prog 19 #[.slice a l c, .slice a' l' c'] h fun v h' => (∃ b, v = .bool b ∧ (b = true ↔ es = fs)) ∧ h' = h := by
  have hlen : es.length = l := by have := w.len; rwa [ents_len] at this
  have hlen' : fs.length = l' := by have := w'.len; rwa [ents_len] at this
  refine F19_ent _ _ _ _ _ _ _ _ ?_
  unfold F19
  refine br_of (fun g => ⟨⟨_, rfl, fun e => (by cases e), fun e => ?_⟩, rfl⟩) (fun g => ?_)
  · have : l ≠ l' := by simp at g; omega
    rw [e] at hlen; omega
  have hll : l = l' := by simp at g; omega
  subst hll
  unfold F19_k1
  rintro _ rfl
  refine ⟨fun x hh => ∃ k : Nat, x = k ∧ k ≤ l ∧ hh = h ∧ es.take k = fs.take k, fun x _ => ((l : Int) - x).toNat, ⟨0, rfl, by omega, rfl, rfl⟩, ?_⟩
  rintro h1 _ ⟨k, rfl, hk, rfl, ht⟩
  unfold F19_b2
  refine br_of (fun g => ?_) (fun g => ?_)
  · have hk' : k < l := by simpa using g
    obtain ⟨q, eq, _, c0, c1, c2, c3⟩ := ent_get w (en_get (i := k) (by omega))
    obtain ⟨q', eq', _, d0, d1, d2, d3⟩ := ent_get w' (en_get (i := k) (by omega))
    unfold F19_k3
    refine ⟨q, eq, by omega, by omega, _, _, _, _, by rw [Int.toNat_natCast]; exact c0, by rw [Int.toNat_natCast]; exact c1, by rw [Int.toNat_natCast]; exact c2, by rw [Int.toNat_natCast]; exact c3, rfl, ?_⟩
    refine ⟨q', eq', by omega, by omega, _, _, _, _, by rw [Int.toNat_natCast]; exact d0, by rw [Int.toNat_natCast]; exact d1, by rw [Int.toNat_natCast]; exact d2, by rw [Int.toNat_natCast]; exact d3, rfl, ?_⟩
    refine ⟨eqE (en es k) (en fs k), fun w => run_equal_ent _ _ w, eqg30, fun h2 e2 => ?_⟩
    obtain rfl : h2 = h1 := e2
    refine br_of (fun g2 => ⟨⟨_, rfl, fun e => (by cases e), fun e => ?_⟩, rfl⟩) (fun g2 => ?_)
    · subst e
      have := (eqE_iff (en es k) (en es k)).2 rfl
      rw [this] at g2; cases g2
    · have g3 : en es k = en fs k := (eqE_iff _ _).1 (by simpa using g2)
      unfold F19_k4
      rintro _ rfl
      rw [i64_lt ((k : Int) + 1) (by omega) (by omega)]
      exact ⟨⟨k + 1, by omega, by omega, rfl, by rw [take_en (by omega), take_en (by omega), ht, g3]⟩, by show ((l : Int) - ((k : Int) + 1)).toNat < ((l : Int) - k).toNat; omega⟩
  · have hk' : k = l := by
      have : ¬ (k : Int) < (l : Int) := by simpa using g
      omega
    unfold F19_k5
    refine ⟨⟨_, rfl, fun _ => ?_, fun _ => rfl⟩, rfl⟩
    rw [hk', List.take_of_length_le (by omega), List.take_of_length_le (by omega)] at ht
    exact ht

theorem cells30 : Tryd.prog.cellsOf 30 = 4 := by kernel_rfl
theorem zeroR30 : (((Tryd.prog.info? 30).bind (·.zero)).getD undef).cells.size = 4 := by kernel_rfl
theorem bytes30 : Tryd.prog.bytesOf 30 = 48 := by kernel_rfl
theorem ents_row (es : List EntV) : ∀ r ∈ ents es, r.length = 4 := by
  intro r hr
  obtain ⟨e, _, rfl⟩ := List.mem_map.1 hr
  rfl
theorem ents_one (es : List EntV) : ∀ r ∈ ents es, ∀ u ∈ r, one u = true := by
  intro r hr
  obtain ⟨e, _, rfl⟩ := List.mem_map.1 hr
  exact entC_one e
/-- entries in memory of their own -/
theorem own_ok (a : Option Addr) (l c : Nat) (es : List EntV) (h : Heap) (w : Tab 4 h a l c (ents es)) (hl : l < 2 ^ 20) :
    HEnt Tryd.prog 15 #[.slice a l c] h fun v h' => ∃ a' c', v = .slice a' l c' ∧ Tab 4 h' a' l c' (ents es) ∧ Ext h h' := by
  have hlen : es.length = l := by have := w.len; rwa [ents_len] at this
  refine F15_ent _ _ _ _ _ ?_
  unfold F15
  refine ⟨by decide, newK_intro fun h1 n1 x1 _ => ?_⟩
  have o1 : OwnR 30 4 h h1 (some (at0 h.size)) 0 0 [] := OwnR.new_ (rows := []) n1 x1 (Nat.le_refl _) (by simp) rfl
  refine appK_R cells30 o1 ((w.grow x1).src) (by rw [ents_len, hlen]) (ents_row es) (ents_one es) (by rw [bytes30]; omega) zeroR30 fun a5 c5 h2 o2 k2 d2 => ?_
  rw [Nat.zero_add, List.nil_append] at o2
  refine ⟨rfl, by decide, newK_intro fun h3 n3 x3 _ => ?_⟩
  have o3 : OwnR 30 4 h2 h3 (some (at0 h2.size)) 1 1 [[.string (⟨#[63]⟩ : ByteArray), .int .i64 0, .int .i64 0, .string ByteArray.empty]] := OwnR.new_ (rows := [[.string (⟨#[63]⟩ : ByteArray), .int .i64 0, .int .i64 0, .string ByteArray.empty]]) n3 x3 (Nat.le_refl _) (by simp) rfl
  rw [Nat.zero_add]
  refine appK_R cells30 (o2.grow x3) o3.rows.src rfl (by simp) (by
    intro r hr u hu
    simp only [List.mem_cons, List.not_mem_nil, or_false] at hr
    subst hr
    simp only [List.mem_cons, List.not_mem_nil, or_false] at hu
    rcases hu with rfl | rfl | rfl | rfl <;> rfl) (by rw [bytes30]; omega) zeroR30 fun a8 c8 h4 o4 k4 d4 => ?_
  have hc8 := o4.cap
  refine ⟨by omega, by omega, by omega, a8, c8, ?_, ?_, o4.ext⟩
  · rw [cutAt0, Int.toNat_natCast, Nat.sub_zero, Nat.sub_zero]
  · have := o4.rows.take l (by omega)
    rw [List.take_append_of_le_length (by rw [ents_len]; omega), List.take_of_length_le (by rw [ents_len]; omega)] at this
    exact this
end Go.Proofs.YtnahhdkekchmfaaDoor
