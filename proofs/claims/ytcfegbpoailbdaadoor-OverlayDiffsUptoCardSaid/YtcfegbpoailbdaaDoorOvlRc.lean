import Derived.Test.YtcfegbpoailbdaaDoorOvlRb
import Derived.Test.YtcfegbpoailbdaaDoorOvlQ

namespace Go.Proofs.YtcfegbpoailbdaaDoor
open Go.Vc Go.Sha Go.Trail Go.Lay
set_option linter.unusedVariables false
set_option linter.unusedSimpArgs false
set_option maxRecDepth 20000
theorem ins_same (p : List Nat) : ∀ (ps : List (List Nat)) (i : Nat), (∀ q ∈ ps.take i, q ≠ p ∧ lexK p q = false) → ps[i]? = some p → insP p ps = ps
  | [], i, _, h => by simp at h
  | q :: t, 0, _, h => by
    simp at h
    unfold insP
    rw [if_pos h]
  | q :: t, i + 1, hn, h => by
    have h0 := hn q (by simp)
    have := ins_same p t i (fun x hx => hn x (by rw [List.take_succ_cons]; exact List.mem_cons_of_mem _ hx)) (by simpa using h)
    unfold insP
    rw [if_neg h0.1, if_neg (by rw [h0.2]; simp), this]
theorem ins_mid (p : List Nat) : ∀ (ps : List (List Nat)) (i : Nat) (x : List Nat), (∀ q ∈ ps.take i, q ≠ p ∧ lexK p q = false) → ps[i]? = some x → x ≠ p → lexK p x = true → insP p ps = ps.take i ++ [p] ++ ps.drop i
  | [], i, x, _, h, _, _ => by simp at h
  | q :: t, 0, x, _, h, h1, h2 => by
    simp at h
    subst h
    unfold insP
    rw [if_neg h1, if_pos h2]; rfl
  | q :: t, i + 1, x, hn, h, h1, h2 => by
    have h0 := hn q (by simp)
    have := ins_mid p t i x (fun x hx => hn x (by rw [List.take_succ_cons]; exact List.mem_cons_of_mem _ hx)) (by simpa using h) h1 h2
    unfold insP
    rw [if_neg h0.1, if_neg (by rw [h0.2]; simp), this]; rfl
theorem ins_end (p : List Nat) : ∀ (ps : List (List Nat)), (∀ q ∈ ps, q ≠ p ∧ lexK p q = false) → insP p ps = ps ++ [p]
  | [], _ => rfl
  | q :: t, hn => by
    have h0 := hn q (by simp)
    have := ins_end p t fun x hx => hn x (List.mem_cons_of_mem _ hx)
    unfold insP
    rw [if_neg h0.1, if_neg (by rw [h0.2]; simp), this]; rfl
/-- texts in memory -/
def rowsT (ps : List (List Nat)) : List (List Value) := ps.map fun p => [.string (str p)]
theorem rowsT_len (ps : List (List Nat)) : (rowsT ps).length = ps.length := by simp [rowsT]
theorem rowsT_row (ps : List (List Nat)) : ∀ r ∈ rowsT ps, r.length = 1 := by
  intro r hr
  obtain ⟨p, _, rfl⟩ := List.mem_map.1 hr
  rfl
theorem rowsT_one (ps : List (List Nat)) : ∀ r ∈ rowsT ps, ∀ u ∈ r, Vc.one u = true := by
  intro r hr u hu
  obtain ⟨p, _, rfl⟩ := List.mem_map.1 hr
  simp at hu; subst hu; rfl
theorem rowsT_get {h : Heap} {a : Option Addr} {l c : Nat} {ps : List (List Nat)} (w : Tab 1 h a l c (rowsT ps)) {i : Nat} {p : List Nat} (hi : ps[i]? = some p) : ∃ q, a = some q ∧ i < l ∧ Vc.cell h (q.add (i * 1)) = some (.string (str p)) := by
  obtain ⟨q, e1, h1, h2⟩ := w.get (i := i) (r := [.string (str p)]) (by simp [rowsT, hi])
  have := h2 0 _ rfl
  refine ⟨q, e1, h1, ?_⟩
  unfold Addr.add at this ⊢
  simpa using this
def Txt (ps : List (List Nat)) : Prop := ∀ q ∈ ps, (∀ x ∈ q, x < 256) ∧ q.length < 2 ^ 30
theorem appT {h0 h : Heap} {a : Option Addr} {l c m : Nat} {x : Value} {ps qs : List (List Nat)} {K : Option Addr → Nat → Nat → Heap → Prop} (o : OwnR 9 1 h0 h a l c (rowsT ps)) (src : srcK h 1 x m (rowsT qs).flatten) (hm : qs.length = m) (room : l + m < 1099511627776)
    (hK : ∀ a' c' h', OwnR 9 1 h0 h' a' (l + m) c' (rowsT (ps ++ qs)) → Keep (fun k => a = some ⟨k, 0, none⟩ ∨ h.size ≤ k) h h' → (∀ k, a' = some ⟨k, 0, none⟩ → a = some ⟨k, 0, none⟩ ∨ h.size ≤ k) → K a' (l + m) c' h') : appK Tryd.prog 9 h a l c x K := by
  refine appK_R (new := rowsT qs) (m := m) cells9 o src (by rw [rowsT_len, hm]) (rowsT_row qs) (rowsT_one qs) (by rw [bytes9]; omega) zero9 fun a' c' h' o' k' d' => hK a' c' h' ?_ k' d'
  unfold rowsT at o' ⊢
  rw [List.map_append]; exact o'
theorem refPut_ok (a : Option Addr) (l c : Nat) (ps : List (List Nat)) (p : List Nat) (h : Heap) (w : Tab 1 h a l c (rowsT ps)) (ht : Txt ps) (hp : (∀ x ∈ p, x < 256) ∧ p.length < 2 ^ 30) (hl : l < 2 ^ 38) :
    HEnt Tryd.prog 31 #[.slice a l c, .string (str p)] h fun v h' => ∃ a' l' c', v = .slice a' l' c' ∧ Tab 1 h' a' l' c' (rowsT (insP p ps)) ∧ Ext h h' := by
  have hlen := w.len
  rw [rowsT_len] at hlen
  have lp := lst_str p hp.1
  have sp : (str p).size < 2 ^ 30 := by rw [str_size]; exact hp.2
  refine F31_ent _ _ _ _ _ _ ?_
  unfold F31
  rintro _ rfl
  refine ⟨fun x hh => ∃ i : Nat, x = i ∧ i ≤ l ∧ Ext h hh ∧ ∀ q ∈ ps.take i, q ≠ p ∧ lexK p q = false, fun x _ => ((l : Int) - x).toNat, ⟨0, rfl, by omega, Ext.refl h, by simp⟩, ?_⟩
  rintro h1 _ ⟨i, rfl, hi, x1, hn⟩
  unfold F31_b1
  refine br_of (fun gi => ?_) (fun gi => ?_)
  · have hil : i < l := by
      have : (i : Int) < (l : Int) := by simpa using gi
      omega
    have e1 : ps[i]? = some (ps[i]'(by omega)) := List.getElem?_eq_getElem (by omega)
    generalize ps[i]'(by omega) = q at e1
    obtain ⟨ad, eq, _, hc⟩ := rowsT_get (w.grow x1) e1
    have hq := ht q (List.mem_of_getElem? e1)
    have lq := lst_str q hq.1
    unfold F31_k2
    refine ⟨ad, eq, by omega, by omega, str q, by rw [Int.toNat_natCast]; exact hc, ?_⟩
    rw [seq_lst, lq, lp]
    refine br_of (fun g => ?_) (fun g => ?_)
    · have g : q = p := by simpa using g
      subst g
      refine ⟨a, l, c, rfl, ?_, x1⟩
      rw [ins_same q ps i hn e1]
      exact w.grow x1
    have g : q ≠ p := by simpa using g
    unfold F31_k3
    refine ⟨ad, eq, by omega, by omega, str q, by rw [Int.toNat_natCast]; exact hc, HEnt.use (refLess_ok (str p) (str q) (by omega) (by rw [str_size]; omega) h1) ?_⟩
    rintro _ h2 ⟨rfl, x2⟩
    rw [lp, lq]
    have x02 := x1.trans x2
    refine ⟨_, rfl, br_of (fun g2 => ?_) (fun g2 => ?_)⟩
    · have hins := ins_mid p ps i q hn e1 g g2
      have hcap := w.cap
      -- behind the two blocks
      have part1 : ∀ hh, Ext h hh → srcK hh 1 (.slice (cutAt c 0 1 a) (i - 0) (c - 0)) i (rowsT (ps.take i)).flatten := fun hh xx => by
        have := ((w.grow xx).take i (by omega)).src
        rw [cutAt0, Nat.sub_zero, Nat.sub_zero]
        unfold rowsT at this ⊢
        rw [List.map_take]
        exact this
      have part3 : ∀ hh, Ext h hh → srcK hh 1 (.slice (cutAt c i 1 a) (l - i) (c - i)) (l - i) (rowsT (ps.drop i)).flatten := fun hh xx => by
        have := (tab_drop (w.grow xx) i (by omega)).src
        unfold rowsT at this ⊢
        rw [List.map_drop]
        exact this
      have tail : ∀ (h4 : Heap) (b31 : Nat) (a29 : Option Addr) (c29 : Nat), OwnR 9 1 h h4 a29 i c29 (rowsT (ps.take i)) → h4[b31]? = some (.cells #[.string (str p)] 9 (0, 0)) →
          appK Tryd.prog 9 h4 a29 i c29 (.slice (some (at0 b31)) 1 1) fun a32 l32 c32 h5 => True ∧ appK Tryd.prog 9 h5 a32 l32 c32 (.slice (cutAt c i 1 a) (l - i) (c - i)) fun a36 l36 c36 h6 => True ∧ ∃ a' l' c', Value.slice a36 l36 c36 = .slice a' l' c' ∧ Tab 1 h6 a' l' c' (rowsT (insP p ps)) ∧ Ext h h6 := by
        intro h4 b31 a29 c29 o4 hb
        refine appT (qs := [p]) (m := 1) o4 (srcK_slice rfl (fun ad e => by cases e; exact cells_blk0 hb) (by rintro ⟨⟩)) rfl (by omega) fun a5 c5 h5 o5 k5 d5 => ⟨trivial, ?_⟩
        refine appT (qs := ps.drop i) (m := l - i) o5 (part3 h5 o5.ext) (by rw [List.length_drop]; omega) (by omega) fun a6 c6 h6 o6 k6 d6 => ⟨trivial, a6, _, c6, rfl, ?_, o6.ext⟩
        rw [hins]; exact o6.rows
      rw [Int.toNat_natCast]
      refine ⟨fun _ _ => True, fun _ => trivial, fun _ _ _ _ _ => trivial, by omega, by omega, by omega, by omega, by omega, ⟨by decide, newK_intro fun h3 hb3 x3 z3 => ⟨trivial, ?_, by decide, newK_intro fun h4 hb4 x4 z4 => ⟨trivial, ?_⟩⟩⟩, by decide, newK_intro fun h3 hb3 x3 z3 => ⟨trivial, by decide, newK_intro fun h4 hb4 x4 z4 => ⟨trivial, ?_⟩⟩⟩
      · have o3 : OwnR 9 1 h h3 (some (at0 h2.size)) 0 0 (rowsT []) := OwnR.new_ (rows := []) hb3 (x02.trans x3) x02.size (by simp) rfl
        refine appT (qs := ps.take i) (m := i) o3 (part1 h3 (x02.trans x3)) (by rw [List.length_take]; omega) (by omega) fun a4 c4 h4 o4 k4 d4 => ⟨trivial, by decide, newK_intro fun h5 hb5 x5 z5 => ⟨trivial, ?_⟩⟩
        rw [Nat.zero_add] at o4 ⊢
        exact tail h5 h4.size a4 c4 (o4.grow x5) hb5
      · have o3 : OwnR 9 1 h h4 (some (at0 h2.size)) 0 0 (rowsT []) := OwnR.new_ (rows := []) (x4.blk hb3) ((x02.trans x3).trans x4) x02.size (by simp) rfl
        refine appT (qs := ps.take i) (m := i) o3 (part1 h4 ((x02.trans x3).trans x4)) (by rw [List.length_take]; omega) (by omega) fun a5 c5 h5 o5 k5 d5 => ⟨trivial, ?_⟩
        rw [Nat.zero_add] at o5 ⊢
        refine tail h5 h3.size a5 c5 o5 (k5.blk hb4 ?_)
        rintro (e | e)
        · injection e with e
          have : h2.size = h3.size := congrArg Addr.block e
          omega
        · omega
      · have o3 : OwnR 9 1 h h4 (some (at0 h3.size)) 0 0 (rowsT []) := OwnR.new_ (rows := []) hb4 ((x02.trans x3).trans x4) (x02.trans x3).size (by simp) rfl
        refine appT (qs := ps.take i) (m := i) o3 (part1 h4 ((x02.trans x3).trans x4)) (by rw [List.length_take]; omega) (by omega) fun a5 c5 h5 o5 k5 d5 => ⟨trivial, ?_⟩
        rw [Nat.zero_add] at o5 ⊢
        refine tail h5 h2.size a5 c5 o5 (k5.blk (x4.blk hb3) ?_)
        rintro (e | e)
        · injection e with e
          have : h3.size = h2.size := congrArg Addr.block e
          omega
        · omega
    · unfold F31_k4
      rintro _ rfl
      rw [wrapS i l hil (by omega)]
      refine ⟨⟨i + 1, rfl, by omega, x02, fun x hx => ?_⟩, lessS i l hil⟩
      rw [take_snoc e1, List.mem_append, List.mem_singleton] at hx
      rcases hx with hx | rfl
      · exact hn x hx
      · exact ⟨g, g2⟩
  · have hil : i = l := by
      have : ¬ (i : Int) < (l : Int) := by simpa using gi
      omega
    rw [List.take_of_length_le (by omega)] at hn
    have hins := ins_end p ps hn
    unfold F31_k5
    refine ⟨by decide, newK_intro fun h2 hb2 x2 z2 => ?_⟩
    have x02 := x1.trans x2
    have o2 : OwnR 9 1 h h2 (some (at0 h1.size)) 0 0 (rowsT []) := OwnR.new_ (rows := []) hb2 x02 x1.size (by simp) rfl
    refine appT (qs := ps) (m := l) o2 (w.grow x02).src hlen (by omega) fun a3 c3 h3 o3 k3 d3 => ⟨by decide, newK_intro fun h4 hb4 x4 z4 => ?_⟩
    rw [Nat.zero_add] at o3 ⊢
    refine appT (qs := [p]) (m := 1) (o3.grow x4) (srcK_slice rfl (fun ad e => by cases e; exact cells_blk0 hb4) (by rintro ⟨⟩)) rfl (by omega) fun a5 c5 h5 o5 k5 d5 => ⟨a5, _, c5, rfl, ?_, o5.ext⟩
    rw [hins]; exact o5.rows
end Go.Proofs.YtcfegbpoailbdaaDoor
