import Derived.Test.YtnahhdkekchmfaaDoorLayV
import Derived.Test.YtnahhdkekchmfaaDoorLayP
import Derived.Test.YtnahhdkekchmfaaDoorLayShaK

namespace Go.Proofs.YtnahhdkekchmfaaDoor
open Go.Vc Go.Sha Go.Trail Go.Lay
set_option linter.unusedVariables false
set_option maxRecDepth 20000
/-- what Decode and the document's tell is alike -/
theorem dec_two {bs : List Nat} {h0 h1 h2 h3 : Heap} {v1 v2 : Value} (d1 : decR bs h0 v1 h1) (d2 : decR bs h2 v2 h3) :
    ∃ a l c a' l' c', ∃ e : Int, ∃ fs, v1 = .tuple #[.slice a l c, .int .i64 e] ∧ v2 = .tuple #[.slice a' l' c', .int .i64 e] ∧ Tab 4 h1 a l c (ents fs) ∧ Tab 4 h3 a' l' c' (ents fs) ∧ l < 2 ^ 40 := by
  rcases d1.2 with ⟨fs, a, l, c, hd, rfl, o, _⟩ | ⟨hno, rfl⟩
  · rcases d2.2 with ⟨gs, a', l', c', hd', rfl, o', _⟩ | ⟨hno', rfl⟩
    · obtain rfl := dec_same hd hd'
      have h64 := ((good_check fs).1 hd.2).1
      have hl := o.len
      rw [ents_len] at hl
      exact ⟨a, l, c, a', l', c', 0, fs, rfl, rfl, o.rows, o'.rows, by omega⟩
    · exact absurd hd (hno' _)
  · rcases d2.2 with ⟨gs, a', l', c', hd', rfl, o', _⟩ | ⟨hno', rfl⟩
    · exact absurd hd' (hno _)
    · exact ⟨none, 0, 0, none, 0, 0, 5, [], rfl, rfl, Tab.empty _ _ _ _, Tab.empty _ _ _ _, by omega⟩
theorem codes_ok (a : Option Addr) (l c : Nat) (es : List EntV) (a1 : Option Addr) (l1 c1 : Nat) (bs : List Nat) (h : Heap) (w : Tab 4 h a l c (ents es)) (hs : Small es) (w1 : Tab 1 h a1 l1 c1 (rows8 bs)) (hb : ∀ x ∈ bs, x < 256) (hl1 : l1 < 2 ^ 26) (hm : MaxAt h) (hK : Sh.KAt h) :
    HEnt Tryd.prog 8 #[.slice a l c, .slice a1 l1 c1] h fun v h' => v = .bool true ∧ Ext h h' := by
  have hlb : bs.length = l1 := by have := w1.len; rwa [rows8_len] at this
  have main : ∀ (l c : Nat) (es : List EntV), Tab 4 h a l c (ents es) → Small es → l ≤ 200 → F8_k1 a l c a1 l1 c1 h fun v h' => v = .bool true ∧ Ext h h' := by
    intro l c es w hs hl
    unfold F8_k1
    refine HEnt.use (own_ok a l c es h w (by omega)) ?_
    rintro _ h1 ⟨a2, c2, rfl, w2, x1⟩
    refine ⟨_, _, _, rfl, HEnt.use (encode_ok a2 l c2 es h1 w2 hs (by omega) (hm.ext x1)) ?_⟩
    rintro _ h2 ⟨a3, l3, c3, rfl, x2, hown, hnil⟩
    have x02 := x1.trans x2
    refine ⟨_, _, _, _, rfl, HEnt.use (refEncode_ok a l c es h2 (w.grow x02) hs (by omega)) ?_⟩
    rintro _ h3 ⟨rfl, x3⟩
    have x03 := x02.trans x3
    refine ⟨_, _, rfl, by decide, newK_intro fun h4 n4 x4 _ => ?_⟩
    have o4 : OwnAt 5 h3 h4 (some (at0 h3.size)) 0 0 (([] : List Nat).map u8) := OwnAt.new_ (cs := #[]) n4 x4 (Nat.le_refl _)
    have hsrc : srcK h4 1 (.slice a1 l1 c1) l1 (bs.map u8) := by
      have := (w1.grow (x03.trans x4)).src
      rw [rows8_flat] at this; exact this
    refine app5 (m := l1) (new := bs) o4 hsrc hlb (by omega) fun a5 c5 h5 o5 _ _ => ?_
    rw [Nat.zero_add, List.nil_append] at o5
    rw [Nat.zero_add]
    have x05 := x03.trans o5.ext
    refine HEnt.use (decode_ok a5 l1 c5 bs h5 (own_tab8 o5) hb (by omega) (hm.ext x05)) ?_
    rintro v6 h6 d6
    have x06 := x05.trans d6.1
    have w16 := w1.grow x06
    have hlst : lst (str bs) = bs := lst_str bs hb
    have step : HEnt Tryd.prog 23 #[.string (str bs)] h6 fun v h' => decR bs h6 v h' := by
      have := refDecode_ok (str bs) (by rw [str_size]; omega) h6
      rwa [hlst] at this
    -- both read alike
    have main2 : ∀ {v7 h7}, decR bs h6 v7 h7 → ∃ a l c a' l' c', ∃ e : Int, ∃ fs, v6 = .tuple #[.slice a l c, .int .i64 e] ∧ v7 = .tuple #[.slice a' l' c', .int .i64 e] ∧ Tab 4 h6 a l c (ents fs) ∧ Tab 4 h7 a' l' c' (ents fs) ∧ l < 2 ^ 40 := fun d7 => dec_two d6 d7
    have shape6 : ∃ a l c, ∃ e : Int, v6 = .tuple #[.slice a l c, .int .i64 e] := by
      rcases d6.2 with ⟨fs, a, l, c, hd, rfl, o, _⟩ | ⟨hno, rfl⟩
      · exact ⟨_, _, _, _, rfl⟩
      · exact ⟨_, _, _, _, rfl⟩
    obtain ⟨a6, l6, c6, e6, rfl⟩ := shape6
    refine ⟨_, _, _, _, rfl, str bs, by rw [str_size, hlb], fun ad e => tab8_cells w16 hb ad e, fun e => ?_, HEnt.use step ?_⟩
    · have := w16.nil e
      have h0 : (rows8 bs).length = 0 := by rw [this]; rfl
      rw [rows8_len] at h0; omega
    rintro v7 h7 d7
    obtain ⟨a6', l6', c6', a7, l7, c7, e7, fs, e61, rfl, t6, t7, hl6⟩ := main2 d7
    simp only [Value.tuple.injEq, Array.mk.injEq, List.cons.injEq, Value.slice.injEq, Value.int.injEq, and_true, true_and] at e61
    obtain ⟨⟨rfl, rfl, rfl⟩, rfl⟩ := e61
    have x07 := x06.trans d7.1
    refine ⟨_, _, _, _, rfl, HEnt.use (id_ok a l c es h7 (w.grow x07) hs (by omega) (hm.ext x07) (hK.ext x07)) ?_⟩
    rintro _ h8 ⟨rfl, x8⟩
    have x08 := x07.trans x8
    refine ⟨((idC es).map u8).toArray, by simp [idC_len], _, rfl, ?_⟩
    refine ((St.start h).grow x08).new fun b13 h9 s9 x9 hb13 => ?_
    refine fill (vs := ((idC es).map u8).toArray) s9 zsize52 (by simp [idC_len]) (map_one _) fun h10 s10 o10 => ?_
    refine s10.new fun b15 h11 s11 x11 hb15 => ?_
    have hz : zeroC Tryd.prog 52 = ((List.replicate 32 0).map u8).toArray := zero52
    refine fill (vs := zeroC Tryd.prog 52) s11 zsize52 zsize52 (by rw [hz]; exact map_one _) fun h12 s12 o12 => ?_
    have x8_10 : Ext h8 h10 := s9.only (i := 0) rfl o10 x9 hb13
    have x10_12 : Ext h10 h12 := s11.only (i := 0) rfl o12 x11 hb15
    have x8_12 := x8_10.trans x10_12
    have k2 : ∀ {h'}, Ext h8 h' → St h h' [⟨b15, ((idC es).map u8).toArray, 52⟩, ⟨b13, ((idC es).map u8).toArray, 52⟩] → F8_k2 a3 l3 c3 (checkC es).2 (encS es) (checkC es).2 a6 l6 c6 e6 a7 l7 c7 e6 (at0 b13) (checkC es).2 (at0 b15) h' fun v h' => v = .bool true ∧ Ext h h' := by
      intro h' x8' s'
      have x07' := x8.trans x8'
      unfold F8_k2
      have sx : ∃ s57 : ByteArray, s57.size = l3 ∧ (∀ ad, a3 = some ad → CellsAt h' ad (bytesV s57)) ∧ (a3 = none → l3 = 0) ∧ seq s57 (encS es) = true := by
        by_cases hg : (checkC es).2 = 0
        · have o := (hown hg).grow (((x3.trans o5.ext).trans d6.1).trans (d7.1.trans x07'))
          have hbb := encode_bytes (good_fits hg hs) ((good_check es).1 hg).1
          obtain ⟨g1, g2, g3⟩ := own_str o hbb
          refine ⟨_, g1, g2, g3, ?_⟩
          rw [encS, if_pos hg, seq_lst]; simp
        · obtain ⟨rfl, rfl, rfl⟩ := hnil hg
          refine ⟨⟨#[]⟩, rfl, by rintro ad ⟨⟩, fun _ => rfl, ?_⟩
          rw [encS, if_neg hg, seq_lst]; simp
      obtain ⟨s57, g1, g2, g3, g4⟩ := sx
      refine ⟨s57, g1, g2, g3, ?_⟩
      rw [g4]
      refine br_of (fun _ => br_of (fun _ => ?_) (fun hf => by simp at hf)) (fun hf => by cases hf)
      refine HEnt.use (same_ok a6 l6 c6 fs a7 l7 c7 fs h' (t6.grow (d7.1.trans x07')) (t7.grow x07') hl6) ?_
      rintro _ h14 ⟨⟨bb, rfl, hbb⟩, e14⟩
      replace e14 := e14.symm
      subst e14
      refine ⟨_, rfl, ?_⟩
      rw [hbb.2 rfl]
      refine br_of (fun _ => br_of (fun _ => ?_) (fun hf => by simp at hf)) (fun hf => by cases hf)
      refine ⟨((idC es).map u8).toArray, by simp [idC_len], cells_blk0 (s'.at_ 1 _ rfl).2, ((idC es).map u8).toArray, by simp [idC_len], cells_blk0 (s'.at_ 0 _ rfl).2, decide (idC es = idC es), fun w => eq_dig _ _ (idC_len _) (idC_len _) w, guard52, br_of (fun _ => br_of (fun _ => ?_) (fun hf => by simp at hf)) (fun hf => by simp at hf)⟩
      refine HEnt.use (works_ok _ (hm.ext s'.ext)) ?_
      rintro _ h7 ⟨rfl, x7⟩
      exact ⟨_, rfl, rfl, s'.ext.trans x7⟩
    refine br_of (fun g => ?_) (fun g => ?_)
    · have g' : (checkC es).2 = 0 := by simp at g; omega
      have hes : encS es = str (encodeC es) := if_pos g'
      have hid : idC es = Sha.sum (encodeC es) := if_pos g'
      have hbb := encode_bytes (good_fits g' hs) ((good_check es).1 g').1
      have hsh := encode_short g'
      intro cc bb h13 hcc n13
      have x13 : Ext h12 h13 := by obtain ⟨rfl, rfl⟩ := n13; exact Ext.push _ _
      have wt := str_tab n13 hcc
      have hle : lst (encS es) = encodeC es := by rw [hes, lst_str _ hbb]
      rw [hle] at wt
      have hin : Sh.In h13 (some (at0 bb)) (encS es).size cc (encodeC es) := by
        refine ⟨by rw [hes, str_size], hcc, hbb, fun ad e hne => ?_, by rintro ⟨⟩⟩
        cases e
        have hc := wt.cells _ rfl
        rw [rows8_flat] at hc
        obtain ⟨b', o', e', hlt', _⟩ := wt.at_ (fun e => hne (by
          have : (rows8 (encodeC es)).length = 0 := by rw [e]; rfl
          rw [rows8_len] at this; exact List.eq_nil_of_length_eq_zero this))
        cases e'
        exact ⟨bb, 0, rfl, hlt', hc⟩
      refine HEnt.use (Sh.refSum_ok _ _ _ (encodeC es) h13 h13 hin (Ext.refl _) (by omega)) ?_
      rintro _ h14 ⟨rfl, x14⟩
      have s14 := (s12.grow x13).grow x14
      refine ⟨((idC es).map u8).toArray, by simp [idC_len], by rw [hid]; rfl, ?_⟩
      refine fill (vs := ((idC es).map u8).toArray) s14 zsize52 (by simp [idC_len]) (map_one _) fun h15 s15 o15 => ?_
      have x12_15 : Ext h10 h15 := s14.only (i := 0) rfl o15 ((x10_12.trans x13).trans x14) hb15
      exact k2 (x8_10.trans x12_15) s15
    · have g' : (checkC es).2 ≠ 0 := by simp at g; omega
      have hid : idC es = List.replicate 32 0 := if_neg g'
      rw [hz, ← hid] at s12
      exact k2 x8_12 s12
  refine F8_ent _ _ _ _ _ _ _ _ ?_
  unfold F8
  refine br_of (fun g => ?_) (fun g => ?_)
  · have g' : l > 200 := by simp at g; omega
    have := w.cap
    rw [cutAt0]
    exact ⟨by omega, by omega, by omega, main _ _ _ (cut200 w g') (small_take hs _) (by omega)⟩
  · exact main _ _ _ w hs (by simp at g; omega)
end Go.Proofs.YtnahhdkekchmfaaDoor
