/- Chapter 16: packages in memory of their own: Clone, twin. -/
import Derived.Test.YtelddmkdclhpoaaPartE
namespace Go.Vc
set_option linter.unusedVariables false
theorem flat_set {n : Nat} : ∀ {rows : List (List Value)} {i j : Nat} {r : List Value} {v : Value}, (∀ q ∈ rows, q.length = n) → rows[i]? = some r → j < n → (rows.set i (r.set j v)).flatten = rows.flatten.set (i * n + j) v
  | [], i, j, r, v, _, h, _ => by simp at h
  | q :: rs, i, j, r, v, hq, h, hj => by
    have hq0 := hq q (by simp)
    cases i with
    | zero =>
      simp at h; subst h
      rw [List.set_cons_zero, List.flatten_cons, List.flatten_cons, Nat.zero_mul, Nat.zero_add, List.set_append_left _ _ (by omega)]
    | succ i =>
      rw [List.set_cons_succ, List.flatten_cons, List.flatten_cons, flat_set (fun p hp => hq p (List.mem_cons_of_mem _ hp)) (by simpa using h) hj, List.set_append_right _ _ (by rw [hq0, Nat.succ_mul]; omega), hq0, Nat.succ_mul]
      congr 2; omega
/-- a cell of one's own slice, written -/
theorem OwnR.store {el : TypeId} {n : Nat} {h0 h : Heap} {a : Option Addr} {l c : Nat} {rows : List (List Value)} {i j : Nat} {r : List Value} {v : Value} {K : Heap → Prop} (o : OwnR el n h0 h a l c rows) (hi : rows[i]? = some r) (hj : j < n) (h1 : one v = true)
    (hK : ∀ h', OwnR el n h0 h' a l c (rows.set i (r.set j v)) → (∀ b, a = some ⟨b, 0, none⟩ → Only b h h') → K h') {q : Addr} (hq : a = some q) : storeK 1 h ((q.add (i * n)).add j) v K := by
  have hlt := (List.getElem?_eq_some_iff.1 hi).1
  have hr := o.row r (List.mem_of_getElem? hi)
  have hmul : (i + 1) * n ≤ l * n := Nat.mul_le_mul_right n (by have := o.len; omega)
  rw [Nat.succ_mul] at hmul
  rcases o.own with ⟨e, _⟩ | ⟨b, cs, e, g1, g2, g3, g4⟩
  · rw [e] at hq; cases hq
  · rw [e] at hq; cases hq
    have hcap : l * n ≤ c * n := Nat.mul_le_mul_right n o.cap
    rw [add_mk, add_mk, Nat.zero_add]
    refine storeK_one g2 (by omega) (.inr (Nat.zero_le _)) h1 fun h' hb ho => hK h' ⟨by rw [List.length_set]; exact o.len, o.cap, fun q hq => ?_, .inr ⟨b, _, e, g1, hb, by simpa using g3, ?_⟩, ?_⟩ (fun b' e' => by rw [e] at e'; cases e'; exact ho)
    · rcases List.mem_or_eq_of_mem_set hq with hq | rfl
      · exact o.row q hq
      · rw [List.length_set]; exact hr
    · rw [flat_set o.row hi hj, ← g4]
      simp only [Array.toList_setIfInBounds]
      rw [List.take_set]
    · exact ⟨Nat.le_trans o.ext.size (Nat.le_of_eq ho.size.symm), fun k hk => (ho.block k (by omega)).trans (o.ext.block k hk)⟩
/-- .. of another type lies elsewhere -/
theorem OwnR.type_ne {el el' : TypeId} {n n' : Nat} {h0 h0' h : Heap} {a a' : Option Addr} {l l' c c' : Nat} {rows rows' : List (List Value)} (o : OwnR el n h0 h a l c rows) (o' : OwnR el' n' h0' h a' l' c' rows') (he : el ≠ el') : ∀ k k', a = some ⟨k, 0, none⟩ → a' = some ⟨k', 0, none⟩ → k ≠ k' := by
  intro k k' e e' hk
  subst hk
  rcases o.own with ⟨e2, _⟩ | ⟨b, cs, e2, h1, h2, _⟩
  · rw [e] at e2; cases e2
  · rcases o'.own with ⟨e3, _⟩ | ⟨b', cs', e3, h3, h4, _⟩
    · rw [e'] at e3; cases e3
    · rw [e] at e2; rw [e'] at e3
      cases e2; cases e3
      rw [h2] at h4
      injection h4 with h4; injection h4 with _ h4; exact he h4
end Go.Vc
namespace Go.Proofs.Ytelddmkdclhpoaa
open Go.Vc Go.Sha Go.Trail Go.Packs
set_option linter.unusedVariables false

theorem size42 : Try.prog.cellsOf 42 = 4 := by kernel_rfl
theorem size46 : Try.prog.cellsOf 46 = 33 := by kernel_rfl
theorem size3 : Try.prog.cellsOf 3 = 1 := by kernel_rfl
theorem size37 : Try.prog.cellsOf 37 = 9 := by kernel_rfl
theorem bytes42 : Try.prog.bytesOf 42 = 64 := by kernel_rfl
theorem bytes46 : Try.prog.bytesOf 46 = 40 := by kernel_rfl
theorem bytes3 : Try.prog.bytesOf 3 = 8 := by kernel_rfl
theorem bytes37 : Try.prog.bytesOf 37 = 104 := by kernel_rfl
theorem z42 : (((Try.prog.info? 42).bind (·.zero)).getD undef).cells.size = 4 := by kernel_rfl
theorem z46 : (((Try.prog.info? 46).bind (·.zero)).getD undef).cells.size = 33 := by kernel_rfl
theorem z3 : (((Try.prog.info? 3).bind (·.zero)).getD undef).cells.size = 1 := by kernel_rfl
theorem z37 : (((Try.prog.info? 37).bind (·.zero)).getD undef).cells.size = 9 := by kernel_rfl

theorem pack_one (p : PackV) (d : Hdr) : ∀ u ∈ p.cells d, one u = true := by
  intro u hu
  simp only [PackV.cells, List.mem_cons, List.not_mem_nil, or_false] at hu
  rcases hu with rfl | rfl | rfl | rfl <;> rfl
theorem zip_mem {ps : List PackV} {ds : List Hdr} {r : List Value} (h : r ∈ List.zipWith PackV.cells ps ds) : ∃ (p : PackV) (d : Hdr), r = p.cells d := by
  obtain ⟨i, hi⟩ := List.getElem?_of_mem h
  rw [List.getElem?_zipWith] at hi
  split at hi
  · exact ⟨_, _, (Option.some.inj hi).symm⟩
  · cases hi
theorem tab_nil {n : Nat} {h : Heap} {l c : Nat} {rows : List (List Value)} (t : Tab n h none l c rows) : rows = [] ∧ l = 0 := by
  have := t.nil rfl
  subst this
  exact ⟨rfl, t.len.symm⟩

theorem clonePacks_ok (a : Option Addr) (l c : Nat) (rows : List (List Value)) (h : Heap) (t : Tab 4 h a l c rows) (h1 : ∀ r ∈ rows, ∀ u ∈ r, one u = true) (hl : l ≤ 1099511627776) :
    HEnt Try.prog 45 #[.slice a l c] h fun v h' => ∃ a' c', v = .slice a' l c' ∧ OwnR 42 4 h h' a' l c' rows := by
  refine F45_ent _ _ _ _ _ ?_
  unfold F45
  refine br_of (fun e => ?_) (fun e => ?_)
  · have : a = none := by simpa using e
    subst this
    obtain ⟨rfl, rfl⟩ := tab_nil t
    exact ⟨none, 0, rfl, OwnR.nil _ _ (Ext.refl h)⟩
  · unfold F45_k1
    refine ⟨by omega, newK_intro fun h2 n2 x2 _ => ?_⟩
    refine appK_R (rows := []) (new := rows) size42 (OwnR.new_ n2 x2 (Nat.le_refl _) (by simp) rfl) (t.grow x2).src t.len t.row h1 (by rw [bytes42]; omega) z42 fun a' c' h3 o _ _ => ?_
    rw [Nat.zero_add] at o ⊢
    exact ⟨a', c', rfl, o⟩
theorem cloneRefs_ok (a : Option Addr) (l c : Nat) (rows : List (List Value)) (h : Heap) (t : Tab 33 h a l c rows) (h1 : ∀ r ∈ rows, ∀ u ∈ r, one u = true) (hl : l ≤ 1099511627776) :
    HEnt Try.prog 46 #[.slice a l c] h fun v h' => ∃ a' c', v = .slice a' l c' ∧ OwnR 46 33 h h' a' l c' rows := by
  refine F46_ent _ _ _ _ _ ?_
  unfold F46
  refine br_of (fun e => ?_) (fun e => ?_)
  · have : a = none := by simpa using e
    subst this
    obtain ⟨rfl, rfl⟩ := tab_nil t
    exact ⟨none, 0, rfl, OwnR.nil _ _ (Ext.refl h)⟩
  · unfold F46_k1
    refine ⟨by omega, newK_intro fun h2 n2 x2 _ => ?_⟩
    refine appK_R (rows := []) (new := rows) size46 (OwnR.new_ n2 x2 (Nat.le_refl _) (by simp) rfl) (t.grow x2).src t.len t.row h1 (by rw [bytes46]; omega) z46 fun a' c' h3 o _ _ => ?_
    rw [Nat.zero_add] at o ⊢
    exact ⟨a', c', rfl, o⟩

/-- packages that the call made itself -/
structure TwinAt (h0 h : Heap) (e : Hdr) (ps : List PackV) (es : List Hdr) : Prop where
  len : es.length = ps.length
  rows : OwnR 42 4 h0 h e.a e.l e.c (List.zipWith PackV.cells ps es)
  refs : ∀ (i : Nat) (p : PackV) (d : Hdr), ps[i]? = some p → es[i]? = some d → OwnR 46 33 h0 h d.a d.l d.c (p.refs.map RefV.cells)
theorem TwinAt.grow {h0 h h' : Heap} {e : Hdr} {ps : List PackV} {es : List Hdr} (t : TwinAt h0 h e ps es) (x : Ext h h') : TwinAt h0 h' e ps es :=
  ⟨t.len, t.rows.grow x, fun i p d hp hd => (t.refs i p d hp hd).grow x⟩
theorem TwinAt.packs {h0 h : Heap} {e : Hdr} {ps : List PackV} {es : List Hdr} (t : TwinAt h0 h e ps es) (ok : ∀ p ∈ ps, p.ok ∧ ∀ r ∈ p.refs, r.ok) : PacksAt h e.a e.l e.c ps es :=
  ⟨t.len, t.rows.rows, fun i p d hp hd => ⟨(t.refs i p d hp hd).rows, (ok p (List.mem_of_getElem? hp)).2⟩, fun p hp => (ok p hp).1⟩
theorem PacksAt.oks {h : Heap} {a : Option Addr} {l c : Nat} {ps : List PackV} {ds : List Hdr} (t : PacksAt h a l c ps ds) : ∀ p ∈ ps, p.ok ∧ ∀ r ∈ p.refs, r.ok := by
  intro p hp
  refine ⟨t.ok p hp, ?_⟩
  obtain ⟨i, hi⟩ := List.getElem?_of_mem hp
  have hlt := (List.getElem?_eq_some_iff.1 hi).1
  have : ds[i]? = some (ds[i]'(by have := t.len; omega)) := List.getElem?_eq_getElem _
  exact (t.refs i p _ hi this).ok

theorem twin_ok (d : Hdr) (ps : List PackV) (ds : List Hdr) (h : Heap) (hp : PacksAt h d.a d.l d.c ps ds) (hl : d.l ≤ 1099511627776) (hls : ∀ x ∈ ds, x.l ≤ 1099511627776) :
    HEnt Try.prog 38 #[.slice d.a d.l d.c] h fun v h' => ∃ e es, v = .slice e.a e.l e.c ∧ e.l = d.l ∧ TwinAt h h' e ps es := by
  refine F38_ent _ _ _ _ _ ?_
  have hlen := hp.length
  unfold F38
  refine HEnt.use (clonePacks_ok d.a d.l d.c _ h hp.rows (fun r hr => by obtain ⟨p, q, rfl⟩ := zip_mem hr; exact pack_one p q) hl) ?_
  rintro _ h1 ⟨a6, c6, rfl, o6⟩
  refine ⟨a6, d.l, c6, rfl, fun x h' => ∃ (k : Nat) (es : List Hdr), x = k ∧ k ≤ d.l ∧ es.length = k ∧ OwnR 42 4 h h' a6 d.l c6 (List.zipWith PackV.cells ps (es ++ ds.drop k)) ∧ ∀ (i : Nat) (p : PackV) (e : Hdr), ps[i]? = some p → es[i]? = some e → OwnR 46 33 h h' e.a e.l e.c (p.refs.map RefV.cells),
    fun x _ => (d.l - x).toNat, ⟨0, [], rfl, by omega, rfl, by simpa using o6, by simp⟩, ?_⟩
  rintro h2 _ ⟨k, es, rfl, hk, hes, o, hrefs⟩
  unfold F38_b1
  refine br_of (fun ht => ?_) (fun hf => ?_)
  · have hk' : k < d.l := by
      have : (k : Int) < (d.l : Int) := by simpa using ht
      omega
    obtain ⟨_, p, x, hpk, hdk, _, _, hr, _⟩ := hp.get hk'
    have hz : (List.zipWith PackV.cells ps (es ++ ds.drop k))[k]? = some (p.cells x) := by
      rw [List.getElem?_zipWith, hpk, List.getElem?_append_right (by omega), hes, Nat.sub_self, List.getElem?_drop, Nat.add_zero, hdk]
    obtain ⟨q, eq, _, hc⟩ := o.rows.get hz
    have h3c := hc 3 (.slice x.a x.l x.c) rfl
    unfold F38_k2
    have hxl : x.l ≤ 1099511627776 := hls x (List.mem_of_getElem? hdk)
    have hqa : ∀ b, a6 = some ⟨b, 0, none⟩ → q = ⟨b, 0, none⟩ := fun b e => by rw [e] at eq; exact (Option.some.inj eq).symm
    have hadd : ((q.add ((Int.toNat (k : Int)) * 4)).add 1).add 2 = (q.add (k * 4)).add 3 := by
      rw [Int.toNat_natCast]
      unfold Addr.add; simp [Nat.add_assoc]
    refine ⟨q, eq, by omega, by omega, x.a, x.l, x.c, by rw [hadd]; exact h3c, ?_⟩
    refine HEnt.use (cloneRefs_ok x.a x.l x.c _ h2 ((hr.rows).grow o.ext) (fun r hr => by obtain ⟨y, _, rfl⟩ := List.mem_map.1 hr; exact cells_one y) hxl) ?_
    rintro _ h3 ⟨a20, c20, rfl, o20⟩
    refine ⟨a20, x.l, c20, rfl, q, eq, by omega, by omega, ?_⟩
    rw [hadd]
    have o3 := o.grow o20.ext
    refine o3.store hz (by omega) rfl (fun h4 o4 on => ?_) eq
    rw [wrap_succ k _ hk' (by omega)]
    have keepR : ∀ {a : Option Addr} {l c : Nat} {rows : List (List Value)}, OwnR 46 33 h h3 a l c rows → OwnR 46 33 h h4 a l c rows := by
      intro a l c rows o'
      have ne := o3.type_ne o' (by decide)
      rcases o3.own with ⟨e, e2⟩ | ⟨b, _, e, g1, _⟩
      · rw [e] at eq; cases eq
      · have on := on b e
        refine o'.keep (S := (· = b)) (on.keep rfl) (fun k hk e => by omega) (fun k' e' e2 => ne b k' e e' e2.symm)
    refine ⟨⟨k + 1, es ++ [⟨a20, x.l, c20⟩], rfl, by omega, by simp [hes], ?_, ?_⟩, less_succ _ _ hk'⟩
    · have : (List.zipWith PackV.cells ps (es ++ ds.drop k)).set k ((p.cells x).set 3 (.slice a20 x.l c20)) = List.zipWith PackV.cells ps ((es ++ [⟨a20, x.l, c20⟩]) ++ ds.drop (k + 1)) := by
        apply List.ext_getElem?
        intro i
        rw [List.getElem?_set]
        by_cases hik : k = i
        · subst hik
          rw [if_pos rfl, if_pos (List.getElem?_eq_some_iff.1 hz).1, List.getElem?_zipWith, hpk, List.append_assoc, List.getElem?_append_right (by omega), hes, Nat.sub_self]
          rfl
        · rw [if_neg hik, List.getElem?_zipWith, List.getElem?_zipWith]
          have : (es ++ ds.drop k)[i]? = ((es ++ [⟨a20, x.l, c20⟩]) ++ ds.drop (k + 1))[i]? := by
            by_cases hlt : i < k
            · rw [List.getElem?_append_left (by omega), List.append_assoc, List.getElem?_append_left (by omega)]
            · rw [List.getElem?_append_right (by omega), List.getElem?_append_right (by simp; omega), List.getElem?_drop, List.getElem?_drop]
              simp only [List.length_append, List.length_singleton, hes]
              congr 1; omega
          rw [this]
      rw [this] at o4; exact o4
    · intro i p' e' hp' he'
      by_cases hi : i < k
      · rw [List.getElem?_append_left (by omega)] at he'
        exact keepR ((hrefs i p' e' hp' he').grow o20.ext)
      · have : i = k := by
          have := (List.getElem?_eq_some_iff.1 he').1
          simp [hes] at this; omega
        subst this
        rw [List.getElem?_append_right (by omega), hes, Nat.sub_self] at he'
        obtain rfl := Option.some.inj he'
        rw [hpk] at hp'
        obtain rfl := Option.some.inj hp'
        refine keepR ⟨o20.len, o20.cap, o20.row, o20.own.imp id fun ⟨b, cs, e, g1, g⟩ => ⟨b, cs, e, Nat.le_trans o.ext.size g1, g⟩, o.ext.trans o20.ext⟩
  · have hk' : k = d.l := by
      have : ¬ (k : Int) < (d.l : Int) := by simpa using hf
      omega
    unfold F38_k3
    subst hk'
    rw [List.drop_of_length_le (by rw [hp.len]; omega), List.append_nil] at o
    exact ⟨⟨a6, d.l, c6⟩, es, rfl, rfl, ⟨by omega, o, hrefs⟩⟩
end Go.Proofs.Ytelddmkdclhpoaa
