import Derived.Test.YtcfegbpoailbdaaDoorVcG

namespace Go.Vc
set_option linter.unusedSimpArgs false
set_option linter.unusedVariables false
variable {P : Program}

theorem run_info {t : TypeId} {i : TypeInfo} (h : P.info? t = some i) (w : World) : (typeInfo t).run P w = .ok i w := by
  unfold typeInfo; simp [h]
theorem bytesOf_info {t : TypeId} {i : TypeInfo} (h : P.info? t = some i) : i.bytes = P.bytesOf t := by simp [Program.bytesOf, h]

theorem run_lenOf {h : Heap} {size m : Nat} {x : Value} {news : List Value} (hs : srcK h size x m news) (w : World) : (Builtin.lenOf x).run P w = .ok m w := by
  cases x <;> simp only [srcK] at hs
  case slice a l c => obtain ⟨rfl, _⟩ := hs; simp [Builtin.lenOf]
  case string s => obtain ⟨rfl, _⟩ := hs; simp [Builtin.lenOf]

theorem extract_all (s : ByteArray) : s.extract 0 s.size = s := by
  apply ByteArray.ext; simp [ByteArray.data_extract]
theorem bytesV_eq (s : ByteArray) : (s.data.map fun b => Value.int .u8 b.toNat) = (bytesV s).toArray := by
  apply Array.ext'; simp [bytesV]

theorem run_first {h : Heap} {size m : Nat} {x : Value} {news : List Value} {w : World} (hw : w.heap = h) (hs : srcK h size x m news) : (Builtin.firstCells size m x).run P w = .ok news.toArray w := by
  subst hw
  cases x <;> simp only [srcK] at hs
  case slice a l c =>
    obtain ⟨rfl, hl, hc, hn⟩ := hs
    cases a with
    | none => simp [Builtin.firstCells, hn rfl]
    | some ad =>
      have := run_cells (P := P) (hc ad rfl)
      rw [hl] at this
      simp [Builtin.firstCells, this]
  case string s =>
    obtain ⟨rfl, rfl⟩ := hs
    simp [Builtin.firstCells, extract_all, bytesV_eq]

theorem srcK_len {h : Heap} {size m : Nat} {x : Value} {news : List Value} (hs : srcK h size x m news) (h1 : ∀ s, x = .string s → size = 1) : news.length = m * size := by
  cases x <;> simp only [srcK] at hs
  case slice a l c => obtain ⟨rfl, hl, _⟩ := hs; exact hl
  case string s => obtain ⟨rfl, rfl⟩ := hs; simp [bytesV, h1 s rfl]

theorem run_append {t u ty : TypeId} {el : TypeId} {d de : TypeDesc} {z : Value} {h : Heap} {a : Option Addr} {l c : Nat} {x : Value} {K : Option Addr → Nat → Nat → Heap → Prop} {w : World}
    (ht : P.underlying t = some (.slice el)) (hu : P.underlying u = some d) (hd : isIntD d = false) (he : P.underlying el = some de) (hb : P.bytesOf el ≠ 0)
    (hz : (P.info? el).bind (·.zero) = some z) (hw : w.heap = h) (H : appK P el h a l c x K) :
    ∃ a' l' c' w', (Builtin.append_ #[t, u] ty #[.slice a l c, x]).run P w = .ok (.slice a' l' c') w' ∧ Kin w w' ∧ K a' l' c' w'.heap := by
  obtain ⟨m, news, hs, hin, hout⟩ := H
  obtain ⟨i, hi, hiz⟩ := info_of hz
  have hf := run_first (P := P) hw hs
  have hm := run_lenOf (P := P) hs w
  subst hw
  by_cases hfit : l + m ≤ c
  · obtain ⟨h1, hwr, hk⟩ := hin hfit
    cases a with
    | none =>
      refine ⟨none, l + m, c, w, ?_, Kin.refl w, hk _ (fun _ h => by cases h) (fun _ => rfl)⟩
      unfold Builtin.append_
      simp only [List.getElem?_toArray, List.getElem?_cons_zero, List.getElem?_cons_succ, Sem.run_bind, run_und ht, run_und hu, Result.andThen_ok, run_size he, Sem.run_pure]
      rw [if_neg (by cases d <;> simp_all [isIntD])]
      simp only [Sem.run_bind, hm, Result.andThen_ok]
      rw [if_pos hfit]
      simp only [Sem.run_bind]
      rw [if_pos (by cases d <;> simp_all [isIntD])]
      simp [hf]
    | some ad =>
      have hp := run_put (P := P) (w := w) (a := ad.add (l * P.cellsOf el)) (vs := news) (hwr ad rfl) h1
      refine ⟨some ad, l + m, c, { w with heap := setCs w.heap (ad.add (l * P.cellsOf el)) 0 news }, ?_, ⟨rfl, rfl, rfl⟩, hk _ (fun ad' h => by cases h; rfl) (fun h => by cases h)⟩
      unfold Builtin.append_
      simp only [List.getElem?_toArray, List.getElem?_cons_zero, List.getElem?_cons_succ, Sem.run_bind, run_und ht, run_und hu, Result.andThen_ok, run_size he, Sem.run_pure]
      rw [if_neg (by cases d <;> simp_all [isIntD])]
      simp only [Sem.run_bind, hm, Result.andThen_ok]
      rw [if_pos hfit]
      simp only [Sem.run_bind]
      rw [if_pos (by cases d <;> simp_all [isIntD])]
      simp [hf, hp]
  · obtain ⟨olds, ho, hoc, hon, hcap, hk⟩ := hout (by omega)
    have hso : srcK w.heap (P.cellsOf el) (.slice a l c) l olds := ⟨rfl, ho, hoc, hon⟩
    have hfo := run_first (P := P) (w := { w with drawn := w.drawn + 1 }) (h := w.heap) rfl hso
    have hfn := run_first (P := P) (w := { w with drawn := w.drawn + 1 }) (h := w.heap) rfl hs
    have hzv : (zeroValue el).run P { w with drawn := w.drawn + 1 } = .ok z { w with drawn := w.drawn + 1 } := run_zero hz _
    have hc2 : ¬ (281474976710656 < Builtin.nextslicecap (l + m) c * P.bytesOf el) := by omega
    generalize hcap' : (Question.appendCap (l + m) c el).cut (w.tape w.drawn (.appendCap (l + m) c el)) = cap
    have hcl : l + m ≤ cap := by rw [← hcap']; simp [Question.cut]
    refine ⟨some ⟨w.heap.size, 0, none⟩, l + m, cap, { w with drawn := w.drawn + 1, heap := w.heap.push (.cells (olds.toArray ++ news.toArray ++ Builtin.zeroCells (((P.info? el).bind (·.zero)).getD undef).cells (cap - (l + m))) el) }, ?_, ⟨rfl, rfl, rfl⟩, hk cap _ _ hcl ⟨rfl, rfl⟩⟩
    unfold Builtin.append_
    simp only [List.getElem?_toArray, List.getElem?_cons_zero, List.getElem?_cons_succ, Sem.run_bind, run_und ht, run_und hu, Result.andThen_ok, run_size he, Sem.run_pure]
    rw [if_neg (by cases d <;> simp_all [isIntD])]
    simp only [Sem.run_bind, hm, Result.andThen_ok]
    rw [if_neg hfit]
    simp only [Sem.run_bind, run_info hi, Result.andThen_ok, bytesOf_info hi]
    rw [if_neg (by rintro ⟨_, h | h⟩; (cases d <;> simp_all [isIntD]); exact hb h)]
    simp only [Sem.run_bind, run_info hi, Result.andThen_ok, bytesOf_info hi]
    rw [if_neg (by have e : (2 : Nat) ^ 48 = 281474976710656 := by decide
                   omega)]
    have hch : (choose (Question.appendCap (l + m) c el)).run P w = .ok cap { w with drawn := w.drawn + 1 } := by
      rw [run_choose]; simp [Question.forced, hcap']
    simp only [Sem.run_bind, hch, Result.andThen_ok, run_info hi, run_askRoom, hfo]
    rw [if_pos (by cases d <;> simp_all [isIntD])]
    simp only [hfn, Result.andThen_ok, hzv, run_newRow, Sem.run_pure, hz, Option.getD_some]

theorem srcK_take {h : Heap} {size m n : Nat} {x : Value} {all : List Value} {w : World} (hw : w.heap = h) (hs : srcK h size x m all) (hsz : ∀ s, x = .string s → size = 1) (hn : n ≤ m) :
    (Builtin.firstCells size n x).run P w = .ok (all.take (n * size)).toArray w := by
  subst hw
  cases x <;> simp only [srcK] at hs
  case slice a l c =>
    obtain ⟨rfl, hl, hc, hnn⟩ := hs
    cases a with
    | none => simp [Builtin.firstCells, hnn rfl]
    | some ad =>
      have hle : n * size ≤ all.length := by rw [hl]; exact Nat.mul_le_mul_right _ hn
      have := run_cells (P := P) (w := w) (a := ad) (l := all.take (n * size)) (fun i v hv => hc ad rfl i v (by
        rw [List.getElem?_take] at hv; split at hv
        · exact hv
        · cases hv))
      rw [List.length_take, Nat.min_eq_left hle] at this
      simp [Builtin.firstCells, this]
  case string s =>
    obtain ⟨rfl, rfl⟩ := hs
    obtain rfl := hsz s rfl
    simp only [Builtin.firstCells, Sem.run_pure, Nat.mul_one]
    congr 1
    apply Array.ext'
    simp [bytesV, ByteArray.data_extract, List.map_take]

theorem run_copy {t ty el : TypeId} {ts : List TypeId} {de : TypeDesc} {h : Heap} {a : Option Addr} {l c : Nat} {x : Value} {K : Int → Heap → Prop} {w : World}
    (ht : P.underlying t = some (.slice el)) (he : P.underlying el = some de) (hsz : ∀ s, x = .string s → P.cellsOf el = 1) (hw : w.heap = h) (H : copyK P el h a l x K) :
    ∃ n w', (Builtin.copy_ (t :: ts).toArray ty #[.slice a l c, x]).run P w = .ok (.int .i64 n) w' ∧ Kin w w' ∧ K n w'.heap := by
  obtain ⟨m, news, ⟨all, hs, rfl⟩, h1, hwr, hk⟩ := H
  have hm := run_lenOf (P := P) hs w
  have hf := srcK_take (P := P) (n := min m l) hw hs hsz (Nat.min_le_left _ _)
  subst hw
  cases a with
  | none =>
    refine ⟨((min m l : Nat) : Int), w, ?_, Kin.refl w, hk _ (fun _ h => by cases h) (fun _ => rfl)⟩
    unfold Builtin.copy_
    simp only [List.getElem?_toArray, List.getElem?_cons_zero, List.getElem?_cons_succ, Sem.run_bind, run_und ht, Result.andThen_ok, hm, run_size he, goInt]
    rw [show Nat.min m l = min m l from rfl, hf]
    simp
  | some ad =>
    have hp := run_put (P := P) (w := w) (a := ad) (vs := all.take (min m l * P.cellsOf el)) (hwr ad rfl) h1
    refine ⟨((min m l : Nat) : Int), { w with heap := setCs w.heap ad 0 (all.take (min m l * P.cellsOf el)) }, ?_, ⟨rfl, rfl, rfl⟩, hk _ (fun ad' h => by cases h; rfl) (fun h => by cases h)⟩
    unfold Builtin.copy_
    simp only [List.getElem?_toArray, List.getElem?_cons_zero, List.getElem?_cons_succ, Sem.run_bind, run_und ht, Result.andThen_ok, hm, run_size he, goInt]
    rw [show Nat.min m l = min m l from rfl, hf]
    simp [hp]

theorem modify_push (h : Heap) (x : Obj) (f : Obj → Obj) : (h.push x).modify h.size f = h.push (f x) := by
  apply Array.ext_getElem?
  intro i
  rw [Array.getElem?_modify, Array.getElem?_push, Array.getElem?_push]
  by_cases e : i = h.size
  · subst e; simp
  · rw [if_neg (fun h => e h.symm), if_neg e, if_neg e]

theorem run_stringToBytes (w : World) (el : TypeId) (s : ByteArray) : ∃ c, s.size ≤ c ∧ (Conv.stringToBytes el s).run P w = .ok (.slice (some ⟨w.heap.size, 0, none⟩) s.size c)
    { w with drawn := w.drawn + 1, heap := w.heap.push (.cells ((bytesV s).toArray ++ Array.replicate (c - s.size) (.int .u8 0)) el (c, c + 1)) } := by
  generalize hcap : (Question.appendCap s.size 0 el).cut (w.tape w.drawn (.appendCap s.size 0 el)) = cap
  have hle : s.size ≤ cap := by rw [← hcap]; simp [Question.cut]
  refine ⟨cap, hle, ?_⟩
  have hch : (choose (Question.appendCap s.size 0 el)).run P w = .ok cap { w with drawn := w.drawn + 1 } := by
    rw [run_choose]; simp [Question.forced, hcap]
  unfold Conv.stringToBytes
  simp only [Sem.run_bind, hch, Result.andThen_ok, run_newRow, bytesV_eq, Sem.run_pure, markStringish, run_shape]
  have hsz : ((bytesV s).toArray ++ Array.replicate (cap - s.size) (Value.int .u8 0)).size = cap := by simp [bytesV]; omega
  have hsh : (World.shape? { w with drawn := w.drawn + 1, heap := w.heap.push (.cells ((bytesV s).toArray ++ Array.replicate (cap - s.size) (.int .u8 0)) el) } w.heap.size) = some (el, cap) := by
    simp [World.shape?, hsz]
  rw [hsh]
  simp only [run_freeze, Result.andThen_ok, World.freeze]
  congr 1
  rw [modify_push]; simp

end Go.Vc
