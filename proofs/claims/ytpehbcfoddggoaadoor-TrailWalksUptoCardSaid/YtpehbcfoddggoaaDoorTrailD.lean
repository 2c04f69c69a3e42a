import Derived.Test.YtpehbcfoddggoaaDoorTrailC

namespace Go.Proofs.YtpehbcfoddggoaaDoor
open Go.Vc Go.Sha Go.Trail Go.RowKit
set_option linter.unusedVariables false

/-- the cell that Split's searcher reads -/
def MaxAt (h : Heap) : Prop := ∃ m, Vc.cell h ⟨0, 0, none⟩ = some (.int .i64 m)
theorem MaxAt.ext {h h' : Heap} (k : MaxAt h) (x : Ext h h') : MaxAt h' := by obtain ⟨m, e⟩ := k; exact ⟨m, x.some e⟩

theorem split_vals (s : ByteArray) : (Lib.splitB ⟨#[47]⟩ 0 (Lib.countB s ⟨#[47]⟩) s).map Value.string = vals (pieces (lst s)) := by
  have h := split_pieces s.data.toList
  have h2 := Lib.splitB_data ⟨#[47]⟩ 0 (Lib.countB s ⟨#[47]⟩) s
  have h3 : (Lib.splitB ⟨#[47]⟩ 0 (Lib.countB s ⟨#[47]⟩) s).map lst = pieces (lst s) := by
    have : (Lib.splitB ⟨#[47]⟩ 0 (Lib.countB s ⟨#[47]⟩) s).map lst = ((Lib.splitB ⟨#[47]⟩ 0 (Lib.countB s ⟨#[47]⟩) s).map (·.data.toList)).map (List.map UInt8.toNat) := by
      rw [List.map_map]; rfl
    rw [this, h2]; exact h
  rw [← h3, vals, List.map_map]
  apply List.map_congr_left
  intro x _
  show Value.string x = Value.string (str (lst x))
  rw [str_lst]

theorem split_ok (s : ByteArray) (hs : s.size < 2 ^ 31) (h : Heap) (hm : MaxAt h) : HEnt Tryd.prog 27 #[.string s, .string ⟨#[47]⟩] h fun v h' => ∃ l, v = .slice (some ⟨h.size, 0, none⟩) l l ∧ OwnAt 9 h h' (some ⟨h.size, 0, none⟩) l l (vals (pieces (lst s))) := by
  refine HEnt.of_body Tryd.func27 (by kernel_rfl) (by kernel_rfl) fun w hw => ?_
  obtain ⟨m, hm⟩ := hm
  refine (Tryd.strings_Split s ⟨#[47]⟩ m w (by omega) (by show Vc.cell w.heap _ = _; rw [hw]; exact hm) (by decide)).mono fun e w' ⟨he, hw'⟩ => ?_
  subst hw'
  refine ⟨_, he, ⟨rfl, rfl, rfl⟩, _, by rw [hw], ?_⟩
  rw [split_vals]
  have hl : (vals (pieces (lst s))).length = Lib.countB s ⟨#[47]⟩ + 1 := by
    rw [← split_vals, List.length_map, Lib.splitB_all ⟨#[47]⟩ (by decide) 0 _ s rfl]
  have hb : (w.alloc (.cells (vals (pieces (lst s))).toArray 9)).heap[h.size]? = some (.cells (vals (pieces (lst s))).toArray 9 (0, 0)) := by
    show (w.heap.push _)[h.size]? = _
    rw [hw]; simp
  have := OwnAt.new_ hb (show Ext h (w.alloc (.cells (vals (pieces (lst s))).toArray 9)).heap from by show Ext h (w.heap.push _); rw [hw]; exact Ext.push _ _) (Nat.le_refl _)
  simpa [hl] using this

theorem join_ok {h0 : Heap} (a : Option Addr) (l c : Nat) (ps : List (List Nat)) (h : Heap) (o : OwnAt 9 h0 h a l c (vals ps)) (hp : ∀ p ∈ ps, ∀ x ∈ p, x < 256) (hlen : (joinT ps).length < 2 ^ 40) (hl : l < 2 ^ 40) :
    HEnt Tryd.prog 29 #[.slice a l c, .string ⟨#[47]⟩] h fun v h' => v = .string (str (joinT ps)) ∧ Ext h h' := by
  refine HEnt.of_body Tryd.func29 (by kernel_rfl) (by kernel_rfl) fun w hw => ?_
  have hol := o.len
  rw [vals_len] at hol
  by_cases h0 : ps = []
  · subst h0
    have hl0 : l = 0 := hol.symm
    subst hl0
    refine (Tryd.strings_Join_none a c ⟨#[47]⟩ w).mono fun e w' ⟨he, hw'⟩ => ?_
    subst hw'
    exact ⟨_, he, Kin.refl _, rfl, by rw [hw]; exact Ext.refl _⟩
  · have hpos : 0 < ps.length := List.length_pos_iff.2 h0
    obtain ⟨b, rfl, hb0, hc0⟩ := o.cell (vals_get hpos)
    have hcap : l ≤ c := by
      rcases o.own with ⟨e, _⟩ | o
      · cases e
      · exact o.cap
    have hblt : b < h.size := lt_of_cell hc0
    have hN : (ps.map str).length = l := by simp [hol]
    have e1 : ((ps.map str).map (·.data.toList)).map (List.map UInt8.toNat) = ps := by
      rw [List.map_map, List.map_map]
      conv => rhs; rw [← List.map_id ps]
      apply List.map_congr_left
      intro p hpp
      exact lst_str p (hp p hpp)
    have e2 := lib_join ((ps.map str).map (·.data.toList))
    rw [e1] at e2
    have hjl : (Lib.join ((ps.map str).map (·.data.toList)) [47]).length = (joinT ps).length := by rw [← e2]; simp
    refine ((hN ▸ Tryd.strings_Join b 0 c (ps.map str) ⟨#[47]⟩ w (fun j x hx => ?_) (by rw [hw]; exact hblt) (by rw [hN]; omega) (by rw [hN]; exact hcap) (by show (Lib.join _ [47]).length ≤ _; rw [hjl]; omega)) : Calls _ _ _ _ _).mono fun e w' ⟨he, bel⟩ => ?_
    · have hj : j < ps.length := by
        have := (List.getElem?_eq_some_iff.1 hx).1
        simpa using this
      obtain ⟨b', e', _, hc⟩ := o.cell (vals_get hj)
      cases e'
      show Vc.cell w.heap _ = _
      rw [hw, Nat.zero_add, hc]
      rw [List.getElem?_map, List.getElem?_eq_getElem hj] at hx
      rw [List.getD_eq_getElem?_getD, List.getElem?_eq_getElem hj]
      simpa using hx
    · refine ⟨_, he, ⟨bel.os, bel.tape, bel.output⟩, ?_, by rw [← hw]; exact bel.size, fun k hk => by rw [← hw]; exact bel.block k (by rw [hw]; exact hk)⟩
      congr 1
      apply lst_inj
      have : lst (⟨(Lib.join ((ps.map str).map (·.data.toList)) [47]).toArray⟩ : ByteArray) = joinT ps := by rw [← e2]; rfl
      rw [lst_str _ ?_]
      · exact this
      · intro x hx
        rw [← this] at hx
        exact lst_lt _ x hx
end Go.Proofs.YtpehbcfoddggoaaDoor
