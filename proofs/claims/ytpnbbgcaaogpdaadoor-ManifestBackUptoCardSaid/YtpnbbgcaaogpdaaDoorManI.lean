import Derived.Test.YtpnbbgcaaogpdaaDoorManH
import Derived.Test.YtpnbbgcaaogpdaaDoorVmpG

namespace Go.Proofs.YtpnbbgcaaogpdaaDoor
open Go.Vc Go.Sha Go.Trail Go.RowKit Go.Man
set_option linter.unusedVariables false
set_option linter.unusedSimpArgs false
set_option maxRecDepth 8000
def dummy : List Value := List.replicate 32 (.int .u8 0) ++ [.int .i64 (-7)]
def OwnFin (b1 b2 : Nat) (l11 : Nat) (h6 : Heap) (a9 : Option Addr) (l9 c9 : Nat) (R : Value → Heap → Prop) : Prop :=
  (0 : Int) ≤ 0 ∧ (0 : Int) ≤ (l11 : Int) ∧ (l11 : Int) ≤ (c9 : Int) ∧ storeK 1 h6 ((at0 b1).add 2) (Value.slice (cutAt c9 0 33 a9) (((l11 : Int).toNat) - 0) (c9 - 0)) fun h7 => True ∧ ∃ s15_0 : ByteArray, ∃ s15_1 : ByteArray, ∃ a15_2 : Option Addr, ∃ l15_2 : Nat, ∃ c15_2 : Nat, Vc.cell h7 ((at0 b1).add 0) = some (Value.string s15_0) ∧ Vc.cell h7 ((at0 b1).add 1) = some (Value.string s15_1) ∧ Vc.cell h7 ((at0 b1).add 2) = some (Value.slice a15_2 l15_2 c15_2) ∧ 3 = 3 ∧ storeK 3 h7 (at0 b2) (Value.agg #[Value.string s15_0, Value.string s15_1, Value.slice a15_2 l15_2 c15_2]) fun h8 => ∃ sr0_0 : ByteArray, ∃ sr0_1 : ByteArray, ∃ ar0_2 : Option Addr, ∃ lr0_2 : Nat, ∃ cr0_2 : Nat, Vc.cell h8 ((at0 b2).add 0) = some (Value.string sr0_0) ∧ Vc.cell h8 ((at0 b2).add 1) = some (Value.string sr0_1) ∧ Vc.cell h8 ((at0 b2).add 2) = some (Value.slice ar0_2 lr0_2 cr0_2) ∧ 3 = 3 ∧ R (Value.agg #[Value.string sr0_0, Value.string sr0_1, Value.slice ar0_2 lr0_2 cr0_2]) h8
theorem rowsR_row {rs : List RefV} (h : ∀ r ∈ rs, r.1.length = 32) : ∀ r ∈ rowsR rs, r.length = 33 := by
  intro r hr
  obtain ⟨e, he, rfl⟩ := List.mem_map.1 hr
  rw [refC_len, h e he]
theorem rowsR_one (rs : List RefV) : ∀ r ∈ rowsR rs, ∀ u ∈ r, one u = true := by
  intro r hr
  obtain ⟨e, he, rfl⟩ := List.mem_map.1 hr
  exact refC_one e
theorem dummy_one : ∀ r ∈ [dummy], ∀ u ∈ r, one u = true := by
  intro r hr u hu
  simp only [List.mem_cons, List.not_mem_nil, or_false] at hr
  subst hr
  unfold dummy at hu
  rcases List.mem_append.1 hu with hu | hu
  · rw [(List.mem_replicate.1 hu).2]; rfl
  · simp at hu; subst hu; rfl
theorem load22 {w : World} {b : Nat} {m : ManV} {a : Option Addr} {l c : Nat} (hb : w.heap[b]? = some (.cells (manA m a l c) 24 (0, 0))) : (loadVar 22 ((at0 b).add 2)).run Tryd.prog w = .ok (.slice a l c) w :=
  run_loadCell (by rw [at_cell hb]; rfl) Tryd.underlying22 rfl
theorem own_fin {h h2 h6 : Heap} {b1 b2 l c : Nat} {a a9 : Option Addr} {c9 : Nat} (m : ManV) (x2 : Ext h h2) (hlen : m.refs.length = l) (hB1 : h.size ≤ b1) (hB2 : h.size ≤ b2) (lt1 : b1 < h2.size) (lt2 : b2 < h2.size) (hne : b1 ≠ b2)
    (o : OwnR 54 33 h2 h6 a9 (l + 1) c9 (rowsR m.refs ++ [dummy])) (hb1 : h6[b1]? = some (.cells (manA m a l c) 24 (0, 0))) (hb2 : h6[b2]? = some (.cells (zeroC Tryd.prog 24) 24 (0, 0))) :
    OwnFin b1 b2 l h6 a9 (l + 1) c9 fun v h' => ∃ a' c', v = .agg (manA m a' l c') ∧ Tab 33 h' a' l c' (rowsR m.refs) ∧ Ext h h' := by
  have hc9 := o.cap
  unfold OwnFin
  refine ⟨by omega, by omega, by omega, ?_⟩
  rw [cutAt0, Int.toNat_natCast, Nat.sub_zero, Nat.sub_zero, add_at0]
  refine storeK_one hb1 (by simp [manA]) (.inr (Nat.zero_le _)) rfl fun h7 hb7 o7 => ?_
  have e7 : (manA m a l c).setIfInBounds 2 (.slice a9 l c9) = manA m a9 l c9 := rfl
  rw [e7] at hb7
  have hb72 := o7.blk hb2 (Ne.symm hne)
  refine ⟨trivial, m.name, m.ver, a9, l, c9, by rw [at_cell hb7]; rfl, by rw [at_cell hb7]; rfl, by rw [cell_blk hb7]; rfl, rfl, ?_⟩
  refine storeK_whole hb72 rfl zsize24 (by
    intro u hu
    simp only [List.mem_cons, List.not_mem_nil, or_false] at hu
    rcases hu with rfl | rfl | rfl <;> rfl) fun h8 hb8 o8 => ?_
  refine ⟨m.name, m.ver, a9, l, c9, by rw [at_cell hb8]; rfl, by rw [at_cell hb8]; rfl, by rw [at_cell hb8]; rfl, rfl, a9, c9, rfl, ?_, ?_⟩
  · have ok : OwnR 54 33 h h8 a9 (l + 1) c9 (rowsR m.refs ++ [dummy]) :=
      ((OwnR.since o x2).keep (o7.keep rfl : Keep (fun j => j = b1) h6 h7) (fun k hk e => by omega) (fun k e hh => by have := (o.lt k e).1; omega)).keep (o8.keep rfl : Keep (fun j => j = b2) h7 h8) (fun k hk e => by omega) (fun k e hh => by have := (o.lt k e).1; omega)
    have := ok.rows.take l (by omega)
    rwa [List.take_append_of_le_length (by rw [rowsR_len]; omega), List.take_of_length_le (by rw [rowsR_len]; omega)] at this
  · have k67 : Keep (fun j => j = b1) h6 h7 := o7.keep rfl
    have k78 : Keep (fun j => j = b2) h7 h8 := o8.keep rfl
    exact Keep.since (Keep.since (x2.trans o.ext) k67 fun j hj e => by omega) k78 fun j hj e => by omega
theorem own_ok (m : ManV) (a : Option Addr) (l c : Nat) (h : Heap) (w : Tab 33 h a l c (rowsR m.refs)) (hr32 : ∀ r ∈ m.refs, r.1.length = 32) (hl : l < 2 ^ 30) :
    HEnt Tryd.prog 10 #[.agg (manA m a l c)] h fun v h' => ∃ a' c', v = .agg (manA m a' l c') ∧ Tab 33 h' a' l c' (rowsR m.refs) ∧ Ext h h' := by
  have hlen : m.refs.length = l := by have := w.len; rwa [rowsR_len] at this
  refine F10_ent _ _ _ _ _ _ _ ?_
  unfold F10
  refine newK_intro fun h1 hb1 x1 _ => newK_intro fun h2 hb2 x2 _ => ?_
  have hb1 := x2.blk hb1
  have z1 := blk_lt hb1
  have z2 := blk_lt hb2
  have x12 := x1.trans x2
  have zz := x1.size
  have lt1 : h.size < h1.size := by have := x1.size; have := blk_lt (show h1[h.size]? = _ from by assumption); omega
  have src : ∀ {h' : Heap}, Ext h h' → srcK h' 33 (.slice a l c) l (rowsR m.refs).flatten := fun x => (w.grow x).src
  have fin := fun {h6 : Heap} {a9 : Option Addr} {c9 : Nat} o b1 b2 => own_fin (h := h) (h2 := h2) (h6 := h6) (b1 := h.size) (b2 := h1.size) (l := l) (c := c) (a := a) (a9 := a9) (c9 := c9) m x12 hlen (Nat.le_refl _) (by omega) z1 z2 (by omega) o b1 b2
  have onew : ∀ {h' h'' : Heap}, Ext h2 h' → h''[h'.size]? = some (.cells #[] 54 (0, 0)) → Ext h' h'' → OwnR 54 33 h2 h'' (some (at0 h'.size)) 0 0 [] := fun y hb x => OwnR.new_ (rows := []) hb (y.trans x) y.size (by simp) rfl
  have dsrc : ∀ {h' h'' : Heap} {b : Nat}, h'[b]? = some (.cells dummy.toArray 54 (0, 0)) → Ext h' h'' → srcK h'' 33 (.slice (some (at0 b)) 1 1) 1 [dummy].flatten := fun hb x =>
    srcK_slice rfl (fun ad e => by cases e; exact (cells_blk0 (x.blk hb))) (by rintro ⟨⟩)
  refine ⟨fun A B => B[h.size]? = A[h.size]?, fun _ => rfl, fun A B C p q => q.trans p, a, l, c, fun W e => load22 (e.trans hb1), a, l, c, fun W e => load22 (e.trans hb1), ?_⟩
  have kk : ∀ {h' h'' : Heap} {a' : Option Addr}, Keep (fun k => a' = some ⟨k, 0, none⟩ ∨ h'.size ≤ k) h' h'' → h2.size ≤ h'.size → (∀ k, a' = some ⟨k, 0, none⟩ → h2.size ≤ k) → h''[h.size]? = h'[h.size]? ∧ h''[h1.size]? = h'[h1.size]? := fun k hs hn =>
    ⟨k.block _ (by omega) (by rintro (e | e); · have := hn _ e; omega
                              · omega), k.block _ (by omega) (by rintro (e | e); · have := hn _ e; omega
                                                                 · omega)⟩
  refine ⟨⟨by decide, newK_intro fun h3 hb3 x3 _ => ⟨x3.block _ z1, ?_, ?_⟩⟩, ?_⟩
  · refine appK_R cells54 (onew (Ext.refl _) hb3 x3) (src (x12.trans x3)) (by rw [rowsR_len, hlen]) (rowsR_row hr32) (rowsR_one _) (by rw [bytes54]; omega) zeroR54 fun a6 c6 h4 o4 k4 d4 => ?_
    rw [Nat.zero_add, List.nil_append] at o4
    obtain ⟨e1, e2⟩ := kk k4 x3.size (fun k e => by cases e; exact Nat.le_refl _)
    refine ⟨e1, rfl, by decide, newK_intro fun h5 hb5 x5 _ => ⟨x5.block _ (by have := o4.ext.size; omega), ?_⟩⟩
    rw [Nat.zero_add]
    refine appK_R cells54 (o4.grow x5) (new := [dummy]) (dsrc hb5 (Ext.refl _)) rfl (by intro r hr; simp at hr; subst hr; rfl) dummy_one (by rw [bytes54]; omega) zeroR54 fun a9 c9 h6 o6 k6 d6 => ?_
    obtain ⟨f1, f2⟩ := kk k6 (o4.ext.trans x5).size (fun k e => (o4.lt k e).1)
    refine ⟨f1, fin o6 ?_ ?_⟩
    · rw [f1, x5.block _ (by have := o4.ext.size; omega), e1, x3.block _ z1]; exact hb1
    · rw [f2, x5.block _ (by have := o4.ext.size; omega), e2, x3.block _ z2]; exact hb2
  · refine ⟨rfl, by decide, newK_intro fun h4 hb4 x4 _ => ⟨x4.block _ (by have := x3.size; omega), ?_⟩⟩
    refine appK_R cells54 ((onew (Ext.refl _) hb3 x3).grow x4) (src ((x12.trans x3).trans x4)) (by rw [rowsR_len, hlen]) (rowsR_row hr32) (rowsR_one _) (by rw [bytes54]; omega) zeroR54 fun a6 c6 h5 o5 k5 d5 => ?_
    rw [Nat.zero_add, List.nil_append] at o5
    obtain ⟨e1, e2⟩ := kk k5 (x3.trans x4).size (fun k e => by cases e; exact Nat.le_refl _)
    refine ⟨e1, ?_⟩
    rw [Nat.zero_add]
    have hb4' : h5[h3.size]? = some (.cells dummy.toArray 54 (0, 0)) := k5.blk hb4 (by
      rintro (e | e)
      · have e := congrArg Addr.block (Option.some.inj e); simp only [at0] at e; have := x3.size; have := blk_lt hb3; omega
      · have := blk_lt hb4; omega)
    refine appK_R cells54 o5 (new := [dummy]) (dsrc hb4' (Ext.refl _)) rfl (by intro r hr; simp at hr; subst hr; rfl) dummy_one (by rw [bytes54]; omega) zeroR54 fun a9 c9 h6 o6 k6 d6 => ?_
    obtain ⟨f1, f2⟩ := kk k6 o5.ext.size (fun k e => (o5.lt k e).1)
    refine ⟨f1, fin o6 ?_ ?_⟩
    · rw [f1, e1, (x3.trans x4).block _ z1]; exact hb1
    · rw [f2, e2, (x3.trans x4).block _ z2]; exact hb2
  · refine ⟨rfl, by decide, newK_intro fun h3 hb3 x3 _ => ⟨x3.block _ z1, by decide, newK_intro fun h4 hb4 x4 _ => ⟨x4.block _ (by have := x3.size; omega), ?_⟩⟩⟩
    refine appK_R cells54 (onew x3 hb4 x4) (src ((x12.trans x3).trans x4)) (by rw [rowsR_len, hlen]) (rowsR_row hr32) (rowsR_one _) (by rw [bytes54]; omega) zeroR54 fun a6 c6 h5 o5 k5 d5 => ?_
    rw [Nat.zero_add, List.nil_append] at o5
    obtain ⟨e1, e2⟩ := kk k5 (x3.trans x4).size (fun k e => by cases e; exact x3.size)
    refine ⟨e1, ?_⟩
    rw [Nat.zero_add]
    have hb3' : h5[h2.size]? = some (.cells dummy.toArray 54 (0, 0)) := k5.blk (x4.blk hb3) (by
      rintro (e | e)
      · have e := congrArg Addr.block (Option.some.inj e); simp only [at0] at e; have := blk_lt hb3; omega
      · have := blk_lt hb3; have := x4.size; omega)
    refine appK_R cells54 o5 (new := [dummy]) (dsrc hb3' (Ext.refl _)) rfl (by intro r hr; simp at hr; subst hr; rfl) dummy_one (by rw [bytes54]; omega) zeroR54 fun a9 c9 h6 o6 k6 d6 => ?_
    obtain ⟨f1, f2⟩ := kk k6 o5.ext.size (fun k e => (o5.lt k e).1)
    refine ⟨f1, fin o6 ?_ ?_⟩
    · rw [f1, e1, (x3.trans x4).block _ z1]; exact hb1
    · rw [f2, e2, (x3.trans x4).block _ z2]; exact hb2
end Go.Proofs.YtpnbbgcaaogpdaaDoor
