import Derived.Test.YtfknpbgneeefjaaDoorPlanD
import Derived.Test.YtfknpbgneeefjaaDoorVcV
import Derived.Test.YtfknpbgneeefjaaDoorPackEq
import Derived.Test.YtfknpbgneeefjaaDoorVppA

namespace Go.Proofs.YtfknpbgneeefjaaDoor
open Go.Vc Go.Sha Go.Trail Go.Packs
set_option linter.unusedVariables false
set_option maxRecDepth 20000

theorem size61 : Tryd.prog.cellsOf 61 = 4 := by kernel_rfl
theorem size75 : Tryd.prog.cellsOf 75 = 33 := by kernel_rfl
theorem bytes61 : Tryd.prog.bytesOf 61 = 64 := by kernel_rfl
theorem bytes75 : Tryd.prog.bytesOf 75 = 40 := by kernel_rfl
theorem z61 : (((Tryd.prog.info? 61).bind (·.zero)).getD undef).cells.size = 4 := by kernel_rfl
theorem z75 : (((Tryd.prog.info? 75).bind (·.zero)).getD undef).cells.size = 33 := by kernel_rfl
theorem pack_one (p : PackV) (d : Hdr) : ∀ u ∈ p.cells d, one u = true := by
  intro u hu
  simp only [PackV.cells, List.mem_cons, List.not_mem_nil, or_false] at hu
  rcases hu with rfl | rfl | rfl | rfl <;> rfl
theorem zip_mem {ps : List PackV} {ds : List Hdr} {r : List Value} (h : r ∈ List.zipWith PackV.cells ps ds) : ∃ (p : PackV) (d : Hdr), r = p.cells d := by
  obtain ⟨i, hi⟩ := List.getElem?_of_mem h
  rw [List.getElem?_zipWith] at hi
  split at hi
  · exact ⟨_, _, (Option.some.inj hi).symm⟩
  · cases hi
theorem tab_nil {n : Nat} {h : Heap} {l c : Nat} {rows : List (List Value)} (t : Tab n h none l c rows) : rows = [] ∧ l = 0 := by
  have := t.nil rfl
  subst this
  exact ⟨rfl, t.len.symm⟩

theorem clonePacks_ok (a : Option Addr) (l c : Nat) (rows : List (List Value)) (h : Heap) (t : Tab 4 h a l c rows) (h1 : ∀ r ∈ rows, ∀ u ∈ r, one u = true) (hl : l ≤ 1099511627776) :
    HEnt Tryd.prog 51 #[.slice a l c] h fun v h' => ∃ a' c', v = .slice a' l c' ∧ OwnR 61 4 h h' a' l c' rows := by
  refine F51_ent _ _ _ _ _ ?_
  unfold F51
  refine br_of (fun e => ?_) (fun e => ?_)
  · have : a = none := by simpa using e
    subst this
    obtain ⟨rfl, rfl⟩ := tab_nil t
    exact ⟨none, 0, rfl, OwnR.nil _ _ (Ext.refl h)⟩
  · unfold F51_k1
    refine ⟨by omega, newK_intro fun h2 n2 x2 _ => ?_⟩
    refine appK_R (rows := []) (new := rows) size61 (OwnR.new_ n2 x2 (Nat.le_refl _) (by simp) rfl) (t.grow x2).src t.len t.row h1 (by rw [bytes61]; omega) z61 fun a' c' h3 o _ _ => ?_
    rw [Nat.zero_add] at o ⊢
    exact ⟨a', c', rfl, o⟩
theorem cloneRefs_ok (a : Option Addr) (l c : Nat) (rows : List (List Value)) (h : Heap) (t : Tab 33 h a l c rows) (h1 : ∀ r ∈ rows, ∀ u ∈ r, one u = true) (hl : l ≤ 1099511627776) :
    HEnt Tryd.prog 52 #[.slice a l c] h fun v h' => ∃ a' c', v = .slice a' l c' ∧ OwnR 75 33 h h' a' l c' rows := by
  refine F52_ent _ _ _ _ _ ?_
  unfold F52
  refine br_of (fun e => ?_) (fun e => ?_)
  · have : a = none := by simpa using e
    subst this
    obtain ⟨rfl, rfl⟩ := tab_nil t
    exact ⟨none, 0, rfl, OwnR.nil _ _ (Ext.refl h)⟩
  · unfold F52_k1
    refine ⟨by omega, newK_intro fun h2 n2 x2 _ => ?_⟩
    refine appK_R (rows := []) (new := rows) size75 (OwnR.new_ n2 x2 (Nat.le_refl _) (by simp) rfl) (t.grow x2).src t.len t.row h1 (by rw [bytes75]; omega) z75 fun a' c' h3 o _ _ => ?_
    rw [Nat.zero_add] at o ⊢
    exact ⟨a', c', rfl, o⟩

/-- packages that the call made itself -/
structure TwinAt (h0 h : Heap) (e : Hdr) (ps : List PackV) (es : List Hdr) : Prop where
  len : es.length = ps.length
  rows : OwnR 61 4 h0 h e.a e.l e.c (List.zipWith PackV.cells ps es)
  refs : ∀ (i : Nat) (p : PackV) (d : Hdr), ps[i]? = some p → es[i]? = some d → OwnR 75 33 h0 h d.a d.l d.c (p.refs.map RefV.cells)
theorem TwinAt.grow {h0 h h' : Heap} {e : Hdr} {ps : List PackV} {es : List Hdr} (t : TwinAt h0 h e ps es) (x : Ext h h') : TwinAt h0 h' e ps es :=
  ⟨t.len, t.rows.grow x, fun i p d hp hd => (t.refs i p d hp hd).grow x⟩
theorem TwinAt.packs {h0 h : Heap} {e : Hdr} {ps : List PackV} {es : List Hdr} (t : TwinAt h0 h e ps es) (ok : ∀ p ∈ ps, p.ok ∧ ∀ r ∈ p.refs, r.ok) : PacksAt h e.a e.l e.c ps es :=
  ⟨t.len, t.rows.rows, fun i p d hp hd => ⟨(t.refs i p d hp hd).rows, (ok p (List.mem_of_getElem? hp)).2⟩, fun p hp => (ok p hp).1⟩
theorem PacksAt.oks {h : Heap} {a : Option Addr} {l c : Nat} {ps : List PackV} {ds : List Hdr} (t : PacksAt h a l c ps ds) : ∀ p ∈ ps, p.ok ∧ ∀ r ∈ p.refs, r.ok := by
  intro p hp
  refine ⟨t.ok p hp, ?_⟩
  obtain ⟨i, hi⟩ := List.getElem?_of_mem hp
  have hlt := (List.getElem?_eq_some_iff.1 hi).1
  have : ds[i]? = some (ds[i]'(by have := t.len; omega)) := List.getElem?_eq_getElem _
  exact (t.refs i p _ hi this).ok

theorem twin_ok (d : Hdr) (ps : List PackV) (ds : List Hdr) (h : Heap) (hp : PacksAt h d.a d.l d.c ps ds) (hl : d.l ≤ 1099511627776) (hls : ∀ x ∈ ds, x.l ≤ 1099511627776) :
    HEnt Tryd.prog 30 #[.slice d.a d.l d.c] h fun v h' => ∃ e es, v = .slice e.a e.l e.c ∧ e.l = d.l ∧ TwinAt h h' e ps es := by
  refine F30_ent _ _ _ _ _ ?_
  have hlen := hp.length
  unfold F30
  refine HEnt.use (clonePacks_ok d.a d.l d.c _ h hp.rows (fun r hr => by obtain ⟨p, q, rfl⟩ := zip_mem hr; exact pack_one p q) hl) ?_
  rintro _ h1 ⟨a6, c6, rfl, o6⟩
  refine ⟨a6, d.l, c6, rfl, fun x h' => ∃ (k : Nat) (es : List Hdr), x = k ∧ k ≤ d.l ∧ es.length = k ∧ OwnR 61 4 h h' a6 d.l c6 (List.zipWith PackV.cells ps (es ++ ds.drop k)) ∧ ∀ (i : Nat) (p : PackV) (e : Hdr), ps[i]? = some p → es[i]? = some e → OwnR 75 33 h h' e.a e.l e.c (p.refs.map RefV.cells),
    fun x _ => (d.l - x).toNat, ⟨0, [], rfl, by omega, rfl, by simpa using o6, by simp⟩, ?_⟩
  rintro h2 _ ⟨k, es, rfl, hk, hes, o, hrefs⟩
  unfold F30_b1
  refine br_of (fun ht => ?_) (fun hf => ?_)
  · have hk' : k < d.l := by
      have : (k : Int) < (d.l : Int) := by simpa using ht
      omega
    obtain ⟨_, p, x, hpk, hdk, _, _, hr, _⟩ := hp.get hk'
    have hz : (List.zipWith PackV.cells ps (es ++ ds.drop k))[k]? = some (p.cells x) := by
      rw [List.getElem?_zipWith, hpk, List.getElem?_append_right (by omega), hes, Nat.sub_self, List.getElem?_drop, Nat.add_zero, hdk]
    obtain ⟨q, eq, _, hc⟩ := o.rows.get hz
    have h3c := hc 3 (.slice x.a x.l x.c) rfl
    unfold F30_k2
    have hxl : x.l ≤ 1099511627776 := hls x (List.mem_of_getElem? hdk)
    have hqa : ∀ b, a6 = some ⟨b, 0, none⟩ → q = ⟨b, 0, none⟩ := fun b e => by rw [e] at eq; exact (Option.some.inj eq).symm
    have hadd : ((q.add ((Int.toNat (k : Int)) * 4)).add 1).add 2 = (q.add (k * 4)).add 3 := by
      rw [Int.toNat_natCast]
      unfold Addr.add; simp [Nat.add_assoc]
    refine ⟨q, eq, by omega, by omega, x.a, x.l, x.c, by rw [hadd]; exact h3c, ?_⟩
    refine HEnt.use (cloneRefs_ok x.a x.l x.c _ h2 ((hr.rows).grow o.ext) (fun r hr => by obtain ⟨y, _, rfl⟩ := List.mem_map.1 hr; exact cells_one y) hxl) ?_
    rintro _ h3 ⟨a20, c20, rfl, o20⟩
    refine ⟨a20, x.l, c20, rfl, q, eq, by omega, by omega, ?_⟩
    rw [hadd]
    have o3 := o.grow o20.ext
    refine o3.store hz (by omega) rfl (fun h4 o4 on => ?_) eq
    rw [wrap_succ k _ hk' (by omega)]
    have keepR : ∀ {a : Option Addr} {l c : Nat} {rows : List (List Value)}, OwnR 75 33 h h3 a l c rows → OwnR 75 33 h h4 a l c rows := by
      intro a l c rows o'
      have ne := o3.type_ne o' (by decide)
      rcases o3.own with ⟨e, e2⟩ | ⟨b, _, e, g1, _⟩
      · rw [e] at eq; cases eq
      · have on := on b e
        refine o'.keep (S := (· = b)) (on.keep rfl) (fun k hk e => by omega) (fun k' e' e2 => ne b k' e e' e2.symm)
    refine ⟨⟨k + 1, es ++ [⟨a20, x.l, c20⟩], rfl, by omega, by simp [hes], ?_, ?_⟩, less_succ _ _ hk'⟩
    · have : (List.zipWith PackV.cells ps (es ++ ds.drop k)).set k ((p.cells x).set 3 (.slice a20 x.l c20)) = List.zipWith PackV.cells ps ((es ++ [⟨a20, x.l, c20⟩]) ++ ds.drop (k + 1)) := by
        apply List.ext_getElem?
        intro i
        rw [List.getElem?_set]
        by_cases hik : k = i
        · subst hik
          rw [if_pos rfl, if_pos (List.getElem?_eq_some_iff.1 hz).1, List.getElem?_zipWith, hpk, List.append_assoc, List.getElem?_append_right (by omega), hes, Nat.sub_self]
          rfl
        · rw [if_neg hik, List.getElem?_zipWith, List.getElem?_zipWith]
          have : (es ++ ds.drop k)[i]? = ((es ++ [⟨a20, x.l, c20⟩]) ++ ds.drop (k + 1))[i]? := by
            by_cases hlt : i < k
            · rw [List.getElem?_append_left (by omega), List.append_assoc, List.getElem?_append_left (by omega)]
            · rw [List.getElem?_append_right (by omega), List.getElem?_append_right (by simp; omega), List.getElem?_drop, List.getElem?_drop]
              simp only [List.length_append, List.length_singleton, hes]
              congr 1; omega
          rw [this]
      rw [this] at o4; exact o4
    · intro i p' e' hp' he'
      by_cases hi : i < k
      · rw [List.getElem?_append_left (by omega)] at he'
        exact keepR ((hrefs i p' e' hp' he').grow o20.ext)
      · have : i = k := by
          have := (List.getElem?_eq_some_iff.1 he').1
          simp [hes] at this; omega
        subst this
        rw [List.getElem?_append_right (by omega), hes, Nat.sub_self] at he'
        obtain rfl := Option.some.inj he'
        rw [hpk] at hp'
        obtain rfl := Option.some.inj hp'
        refine keepR ⟨o20.len, o20.cap, o20.row, o20.own.imp id fun ⟨b, cs, e, g1, g⟩ => ⟨b, cs, e, Nat.le_trans o.ext.size g1, g⟩, o.ext.trans o20.ext⟩
  · have hk' : k = d.l := by
      have : ¬ (k : Int) < (d.l : Int) := by simpa using hf
      omega
    unfold F30_k3
    subst hk'
    rw [List.drop_of_length_le (by rw [hp.len]; omega), List.append_nil] at o
    exact ⟨⟨a6, d.l, c6⟩, es, rfl, rfl, ⟨by omega, o, hrefs⟩⟩
end Go.Proofs.YtfknpbgneeefjaaDoor

namespace Go.Proofs.YtfknpbgneeefjaaDoor
open Go.Vc Go.Sha Go.Trail Go.Packs
set_option linter.unusedVariables false
set_option maxRecDepth 20000

theorem hadd2 (q : Addr) (i j k : Nat) : ((q.add i).add j).add k = (q.add i).add (j + k) := by unfold Addr.add; by_cases hj : j = 0 <;> by_cases hk : k = 0 <;> simp [hj, hk, Nat.add_assoc]
theorem seq_self (s : ByteArray) : seq s s = true := by unfold seq; simp
theorem size5 : Tryd.prog.cellsOf 5 = 1 := by kernel_rfl
theorem size73 : Tryd.prog.cellsOf 73 = 32 := by kernel_rfl
theorem held75 : Tryd.prog.stoodInHeld 75 = false := by kernel_rfl
theorem eqg75 : Tryd.prog.eqGuardType Tryd.prog.depth 75 = false := by kernel_rfl

theorem man_same (nm vr : ByteArray) (a : Option Addr) (l c : Nat) (a' : Option Addr) (l' c' : Nat) (rs : List RefV) (h : Heap) (hr : RefsAt h a l c rs) (hr' : RefsAt h a' l' c' rs) (hl : l < 9223372036854775808) :
    HEnt Tryd.prog 36 #[.agg #[.string nm, .string vr, .slice a l c], .agg #[.string nm, .string vr, .slice a' l' c']] h fun v h' => v = .bool true ∧ Ext h h' := by
  refine F36_ent _ _ _ _ _ _ _ _ _ _ _ _ ?_
  have e1 := hr.len
  have e2 := hr'.len
  unfold F36
  refine (St.start h).new fun b2 h1 s1 _ _ => s1.new fun b3 h2 s2 _ _ => ?_
  have c0 := s2.cell 1 rfl (k := 2) (v := .slice a l c) rfl
  have c1 := s2.cell 0 rfl (k := 2) (v := .slice a' l' c') rfl
  refine ⟨nm, s2.cell 1 rfl rfl, nm, s2.cell 0 rfl rfl, br_of (fun g => by simp [seq_self] at g) (fun _ => ⟨vr, s2.cell 1 rfl rfl, vr, s2.cell 0 rfl rfl, br_of (fun g => by simp [seq_self] at g) (fun _ => ⟨a, l, c, c0, a', l', c', c1, ?_⟩)⟩)⟩
  unfold F36_k1
  refine br_of (fun g => by simp at g; omega) (fun _ => ?_)
  unfold F36_k2
  rintro _ rfl
  have r2 := hr.grow s2.ext
  have r2' := hr'.grow s2.ext
  refine ⟨fun x h' => ∃ k : Nat, x = k ∧ k ≤ l ∧ h' = h2, fun x _ => (l - x).toNat, ⟨0, rfl, by omega, rfl⟩, ?_⟩
  rintro h3 _ ⟨k, rfl, hk, rfl⟩
  unfold F36_b3
  refine ⟨a, l, c, c0, br_of (fun ht => ?_) (fun hf => ?_)⟩
  · have hk' : k < l := by
      have : (k : Int) < (l : Int) := by simpa using ht
      omega
    obtain ⟨q, x, hx, e, hok, hc, _, _⟩ := r2.get hk'
    obtain ⟨q', x', hx', e', _, hc', _, _⟩ := r2'.get (i := k) (by omega)
    rw [hx] at hx'
    obtain rfl := Option.some.inj hx'
    have hcl := cells_len x hok
    unfold F36_k4
    refine ⟨a, l, c, c0, q, e, by omega, by omega, x.cells.toArray, by simp [hcl], by rw [Int.toNat_natCast]; exact hc, a', l', c', c1, q', e', by omega, by omega, x.cells.toArray, by simp [hcl], by rw [Int.toNat_natCast]; exact hc', true, fun w => ?_, eqg75, ?_⟩
    · have := run_equal_ref (P := Tryd.prog) Tryd.underlying75 held75 rfl rfl rfl rfl rfl rfl Tryd.underlying73 Tryd.underlying5 size5 size73 Tryd.underlying3 (x.sum.map Int.ofNat) (x.sum.map Int.ofNat) (by simp [hok.1]) (by simp [hok.1]) x.size x.size w
      simp only [List.map_map, and_self, decide_true] at this
      exact this
    · rintro _ rfl
      refine br_of (fun g => by cases g) (fun _ => ?_)
      unfold F36_k5
      rintro _ rfl
      rw [wrap_succ k _ hk' hl]
      exact ⟨⟨k + 1, rfl, by omega, rfl⟩, less_succ _ _ hk'⟩
  · unfold F36_k6
    exact ⟨rfl, s2.ext⟩

theorem packs_same (a : Option Addr) (l c : Nat) (a' : Option Addr) (l' c' : Nat) (ps : List PackV) (ds ds' : List Hdr) (h : Heap) (hp : PacksAt h a l c ps ds) (hp' : PacksAt h a' l' c' ps ds') (hl : l < 9223372036854775808) (hls : ∀ d ∈ ds, d.l < 9223372036854775808) :
    HEnt Tryd.prog 13 #[.slice a l c, .slice a' l' c'] h fun v h' => v = .bool true ∧ Ext h h' := by
  refine F13_ent _ _ _ _ _ _ _ _ ?_
  have e1 := hp.length
  have e2 := hp'.length
  unfold F13
  refine br_of (fun g => by simp at g; omega) (fun _ => ?_)
  unfold F13_k1
  rintro _ rfl
  refine ⟨fun x h' => ∃ k : Nat, x = k ∧ k ≤ l ∧ Ext h h', fun x _ => (l - x).toNat, ⟨0, rfl, by omega, Ext.refl h⟩, ?_⟩
  rintro h1 _ ⟨k, rfl, hk, x1⟩
  unfold F13_b2
  refine br_of (fun ht => ?_) (fun hf => ?_)
  · have hk' : k < l := by
      have : (k : Int) < (l : Int) := by simpa using ht
      omega
    obtain ⟨q, x, d, hx, hd, e, _, hr, g0, g1, g2, g3⟩ := (hp.grow x1).get hk'
    obtain ⟨q', x', d', hx', hd', e', _, hr', g0', g1', g2', g3'⟩ := (hp'.grow x1).get (i := k) (by omega)
    rw [hx] at hx'
    obtain rfl := Option.some.inj hx'
    unfold F13_k3
    simp only [hadd2, Int.toNat_natCast]
    refine ⟨q, e, by omega, by omega, x.owner, g0, q', e', by omega, by omega, x.owner, g0', br_of (fun g => by simp at g) (fun _ => ?_)⟩
    refine ⟨q, e, by omega, by omega, x.name, x.ver, d.a, d.l, d.c, g1, g2, g3, trivial, q', e', by omega, by omega, x.name, x.ver, d'.a, d'.l, d'.c, g1', g2', g3', trivial, true, ?_, ?_⟩
    · intro h2 x2
      exact man_same x.name x.ver d.a d.l d.c d'.a d'.l d'.c x.refs h2 (hr.grow x2) (hr'.grow x2) (hls d (List.mem_of_getElem? hd))
    · intro h2 x2
      unfold F13_k4
      refine br_of (fun g => by cases g) (fun _ => ?_)
      unfold F13_k5
      rintro _ rfl
      rw [wrap_succ k _ hk' hl]
      exact ⟨⟨k + 1, rfl, by omega, x1.trans x2⟩, less_succ _ _ hk'⟩
  · unfold F13_k6
    exact ⟨rfl, x1⟩

end Go.Proofs.YtfknpbgneeefjaaDoor
