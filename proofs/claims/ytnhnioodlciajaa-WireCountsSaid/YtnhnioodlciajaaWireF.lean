import Derived.Test.YtnhnioodlciajaaWireE
import Derived.Test.YtnhnioodlciajaaVcV


namespace Go.Proofs.Ytnhnioodlciajaa
open Go.Vc Go.Sha Go.Trail Go.Packs
set_option linter.unusedVariables false

theorem size68 : Try.prog.cellsOf 68 = 4 := by kernel_rfl
theorem size86 : Try.prog.cellsOf 86 = 33 := by kernel_rfl
theorem size3 : Try.prog.cellsOf 3 = 1 := by kernel_rfl
theorem bytes68 : Try.prog.bytesOf 68 = 64 := by kernel_rfl
theorem bytes86 : Try.prog.bytesOf 86 = 40 := by kernel_rfl
theorem bytes3 : Try.prog.bytesOf 3 = 8 := by kernel_rfl
theorem z68 : (((Try.prog.info? 68).bind (·.zero)).getD undef).cells.size = 4 := by kernel_rfl
theorem z86 : (((Try.prog.info? 86).bind (·.zero)).getD undef).cells.size = 33 := by kernel_rfl
theorem z3 : (((Try.prog.info? 3).bind (·.zero)).getD undef).cells.size = 1 := by kernel_rfl

theorem pack_one (p : PackV) (d : Hdr) : ∀ u ∈ p.cells d, one u = true := by
  intro u hu
  simp only [PackV.cells, List.mem_cons, List.not_mem_nil, or_false] at hu
  rcases hu with rfl | rfl | rfl | rfl <;> rfl
theorem zip_mem {ps : List PackV} {ds : List Hdr} {r : List Value} (h : r ∈ List.zipWith PackV.cells ps ds) : ∃ (p : PackV) (d : Hdr), r = p.cells d := by
  obtain ⟨i, hi⟩ := List.getElem?_of_mem h
  rw [List.getElem?_zipWith] at hi
  split at hi
  · exact ⟨_, _, (Option.some.inj hi).symm⟩
  · cases hi
theorem tab_nil {n : Nat} {h : Heap} {l c : Nat} {rows : List (List Value)} (t : Tab n h none l c rows) : rows = [] ∧ l = 0 := by
  have := t.nil rfl
  subst this
  exact ⟨rfl, t.len.symm⟩

theorem clonePacks_ok (a : Option Addr) (l c : Nat) (rows : List (List Value)) (h : Heap) (t : Tab 4 h a l c rows) (h1 : ∀ r ∈ rows, ∀ u ∈ r, one u = true) (hl : l ≤ 1099511627776) :
    HEnt Try.prog 59 #[.slice a l c] h fun v h' => ∃ a' c', v = .slice a' l c' ∧ OwnR 68 4 h h' a' l c' rows := by
  refine F59_ent _ _ _ _ _ ?_
  unfold F59
  refine br_of (fun e => ?_) (fun e => ?_)
  · have : a = none := by simpa using e
    subst this
    obtain ⟨rfl, rfl⟩ := tab_nil t
    exact ⟨none, 0, rfl, OwnR.nil _ _ (Ext.refl h)⟩
  · unfold F59_k1
    refine ⟨by omega, newK_intro fun h2 n2 x2 _ => ?_⟩
    refine appK_R (rows := []) (new := rows) size68 (OwnR.new_ n2 x2 (Nat.le_refl _) (by simp) rfl) (t.grow x2).src t.len t.row h1 (by rw [bytes68]; omega) z68 fun a' c' h3 o _ _ => ?_
    rw [Nat.zero_add] at o ⊢
    exact ⟨a', c', rfl, o⟩
theorem cloneRefs_ok (a : Option Addr) (l c : Nat) (rows : List (List Value)) (h : Heap) (t : Tab 33 h a l c rows) (h1 : ∀ r ∈ rows, ∀ u ∈ r, one u = true) (hl : l ≤ 1099511627776) :
    HEnt Try.prog 60 #[.slice a l c] h fun v h' => ∃ a' c', v = .slice a' l c' ∧ OwnR 86 33 h h' a' l c' rows := by
  refine F60_ent _ _ _ _ _ ?_
  unfold F60
  refine br_of (fun e => ?_) (fun e => ?_)
  · have : a = none := by simpa using e
    subst this
    obtain ⟨rfl, rfl⟩ := tab_nil t
    exact ⟨none, 0, rfl, OwnR.nil _ _ (Ext.refl h)⟩
  · unfold F60_k1
    refine ⟨by omega, newK_intro fun h2 n2 x2 _ => ?_⟩
    refine appK_R (rows := []) (new := rows) size86 (OwnR.new_ n2 x2 (Nat.le_refl _) (by simp) rfl) (t.grow x2).src t.len t.row h1 (by rw [bytes86]; omega) z86 fun a' c' h3 o _ _ => ?_
    rw [Nat.zero_add] at o ⊢
    exact ⟨a', c', rfl, o⟩

/-- packages that the call made itself -/
structure TwinAt (h0 h : Heap) (e : Hdr) (ps : List PackV) (es : List Hdr) : Prop where
  len : es.length = ps.length
  rows : OwnR 68 4 h0 h e.a e.l e.c (List.zipWith PackV.cells ps es)
  refs : ∀ (i : Nat) (p : PackV) (d : Hdr), ps[i]? = some p → es[i]? = some d → OwnR 86 33 h0 h d.a d.l d.c (p.refs.map RefV.cells)
theorem TwinAt.grow {h0 h h' : Heap} {e : Hdr} {ps : List PackV} {es : List Hdr} (t : TwinAt h0 h e ps es) (x : Ext h h') : TwinAt h0 h' e ps es :=
  ⟨t.len, t.rows.grow x, fun i p d hp hd => (t.refs i p d hp hd).grow x⟩
theorem TwinAt.packs {h0 h : Heap} {e : Hdr} {ps : List PackV} {es : List Hdr} (t : TwinAt h0 h e ps es) (ok : ∀ p ∈ ps, p.ok ∧ ∀ r ∈ p.refs, r.ok) : PacksAt h e.a e.l e.c ps es :=
  ⟨t.len, t.rows.rows, fun i p d hp hd => ⟨(t.refs i p d hp hd).rows, (ok p (List.mem_of_getElem? hp)).2⟩, fun p hp => (ok p hp).1⟩
theorem PacksAt.oks {h : Heap} {a : Option Addr} {l c : Nat} {ps : List PackV} {ds : List Hdr} (t : PacksAt h a l c ps ds) : ∀ p ∈ ps, p.ok ∧ ∀ r ∈ p.refs, r.ok := by
  intro p hp
  refine ⟨t.ok p hp, ?_⟩
  obtain ⟨i, hi⟩ := List.getElem?_of_mem hp
  have hlt := (List.getElem?_eq_some_iff.1 hi).1
  have : ds[i]? = some (ds[i]'(by have := t.len; omega)) := List.getElem?_eq_getElem _
  exact (t.refs i p _ hi this).ok

end Go.Proofs.Ytnhnioodlciajaa
