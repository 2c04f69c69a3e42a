import Derived.Test.YtnahhdkekchmfaaDoorLayO
import Derived.Test.YtnahhdkekchmfaaDoorLayShaK
import Derived.Test.YtnahhdkekchmfaaDoorVlpE

namespace Go.Proofs.YtnahhdkekchmfaaDoor
open Go.Vc Go.Sha Go.Trail Go.Lay
set_option linter.unusedVariables false
set_option maxRecDepth 20000
theorem zero52 : zeroC Tryd.prog 52 = ((List.replicate 32 0).map u8).toArray := by kernel_rfl
theorem zsize52 : (zeroC Tryd.prog 52).size = 32 := by kernel_rfl
theorem sum_len (bs : List Nat) : (Sha.sum bs).length = 32 := by simp [Sha.sum, digest]
theorem sum_lt (bs : List Nat) : ∀ x ∈ Sha.sum bs, x < 256 := by
  intro x hx
  simp only [Sha.sum, digest, List.mem_map] at hx
  obtain ⟨i, _, rfl⟩ := hx
  exact Nat.mod_lt _ (by decide)
/-- the sum of a layer's bytes, or nothing -/
noncomputable def idC (es : List EntV) : List Nat := if (checkC es).2 = 0 then Sha.sum (encodeC es) else List.replicate 32 0
theorem idC_len (es : List EntV) : (idC es).length = 32 := by
  unfold idC; split
  · exact sum_len _
  · simp
theorem idC_lt (es : List EntV) : ∀ x ∈ idC es, x < 256 := by
  unfold idC; split
  · exact sum_lt _
  · intro x hx; rw [List.eq_of_mem_replicate hx]; decide
theorem map_one (bs : List Nat) : ∀ u ∈ ((bs.map u8).toArray).toList, one u = true := by
  intro u hu
  simp only [List.mem_map] at hu
  obtain ⟨n, _, rfl⟩ := hu
  rfl
theorem own_bytes {h0 h : Heap} {a : Option Addr} {l c p : Nat} {bs : List Nat} (o : OwnAt 5 h0 h a l c (bs.map u8)) (hb : ∀ x ∈ bs, x < 256) (hp : h.size ≤ p) : Sh.Bytes h p a l c bs := by
  have w := own_tab8 o
  refine ⟨own_len o, w.cap, hb, fun ad e hne => ?_, fun e => ?_⟩
  · have hc := w.cells ad e
    rw [rows8_flat] at hc
    obtain ⟨b, off, e2, hlt, _⟩ := w.at_ (fun e => hne (by
      have : (rows8 bs).length = 0 := by rw [e]; rfl
      rw [rows8_len] at this; exact List.eq_nil_of_length_eq_zero this))
    rw [e] at e2; cases e2
    exact ⟨b, off, rfl, by omega, hc⟩
  · have := w.nil e
    have h0 : (rows8 bs).length = 0 := by rw [this]; rfl
    rw [rows8_len] at h0
    exact List.eq_nil_of_length_eq_zero h0
theorem id_ok (a : Option Addr) (l c : Nat) (es : List EntV) (h : Heap) (w : Tab 4 h a l c (ents es)) (hs : Small es) (hl : l < 2 ^ 40) (hm : MaxAt h) (hK : Sh.KAt h) :
    HEnt Tryd.prog 24 #[.slice a l c] h fun v h' => v = .tuple #[.agg ((idC es).map u8).toArray, .int .i64 (checkC es).2] ∧ Ext h h' := by
  refine F24_ent _ _ _ _ _ ?_
  unfold F24
  refine (St.start h).new fun b2 h1 s1 x1 _ => ?_
  refine HEnt.use (encode_ok a l c es h1 (w.grow x1) hs hl (hm.ext x1)) ?_
  rintro _ h2 ⟨a2, l2, c2, rfl, x2, hown, _⟩
  have s2 := s1.grow x2
  have fin : ∀ {h'}, St h h' [⟨b2, ((idC es).map u8).toArray, 52⟩] → (((idC es).map u8).toArray).size = 32 ∧ CellsAt h' (at0 b2) (((idC es).map u8).toArray).toList ∧ (Value.tuple #[.agg ((idC es).map u8).toArray, .int .i64 (checkC es).2] = .tuple #[.agg ((idC es).map u8).toArray, .int .i64 (checkC es).2] ∧ Ext h h') := by
    intro h' s
    refine ⟨by simp [idC_len], ?_, rfl, s.ext⟩
    exact cells_blk0 (s.at_ 0 _ rfl).2
  refine ⟨_, _, _, _, rfl, br_of (fun g => ?_) (fun g => ?_)⟩
  · have g' : (checkC es).2 ≠ 0 := by simp at g; omega
    have hz : idC es = List.replicate 32 0 := if_neg g'
    have hv : zeroC Tryd.prog 52 = ((idC es).map u8).toArray := by rw [hz, zero52]
    refine fill (vs := zeroC Tryd.prog 52) s2 zsize52 zsize52 (by rw [hv]; exact map_one _) fun h3 s3 o3 => ?_
    rw [hv] at s3
    exact ⟨_, fin s3⟩
  · have g' : (checkC es).2 = 0 := by simp at g; omega
    have o := hown g'
    have hsh := encode_short g'
    have hb := encode_bytes (good_fits g' hs) ((good_check es).1 g').1
    have hz : idC es = Sha.sum (encodeC es) := if_pos g'
    unfold F24_k1
    refine HEnt.use (Sh.sum_ok a2 l2 c2 (encodeC es) h2 (hK.ext s2.ext) (fun p hp => own_bytes o hb hp) (by omega)) ?_
    rintro _ h3 ⟨rfl, x3⟩
    have s3 := s2.grow x3
    refine ⟨((idC es).map u8).toArray, by simp [idC_len], by rw [hz]; rfl, ?_⟩
    refine fill (vs := ((idC es).map u8).toArray) s3 zsize52 (by simp [idC_len]) (map_one _) fun h4 s4 o4 => ?_
    rw [show (Value.int .i64 (0 : Int)) = Value.int .i64 ((checkC es).2 : Nat) by rw [g']; rfl]
    exact ⟨_, fin s4⟩
theorem guard52 : Tryd.prog.eqGuardType Tryd.prog.depth 52 = false := by kernel_rfl
theorem eq_dig (D E : List Nat) (hD : D.length = 32) (hE : E.length = 32) (w : World) : (Op.equal 52 (.agg (D.map u8).toArray) (.agg (E.map u8).toArray)).run Tryd.prog w = .ok (decide (D = E)) w := by
  have e : ∀ L : List Nat, L.map u8 = (L.map Int.ofNat).map fun z => Value.int .u8 z := fun L => by rw [List.map_map]; rfl
  rw [e D, e E, run_equal_ints Tryd.underlying52 Tryd.underlying5 (by kernel_rfl) _ _ (by simp [hD]) (by simp [hE])]
  congr 1
  have : D.map Int.ofNat = E.map Int.ofNat ↔ D = E := ⟨fun h => by
    have := congrArg (List.map Int.toNat) h
    rw [List.map_map, List.map_map, show (Int.toNat ∘ Int.ofNat) = id from rfl, List.map_id, List.map_id] at this
    exact this, fun h => by rw [h]⟩
  exact decide_eq_decide.2 this
theorem dec_same {bs : List Nat} {es fs : List EntV} (h : DecIs bs es) (h2 : DecIs bs fs) : es = fs := by
  have := h.1
  rw [h2.1] at this
  exact ((Prod.mk.inj (Option.some.inj this)).1).symm
theorem back_ok (a : Option Addr) (l c : Nat) (es : List EntV) (h : Heap) (w : Tab 4 h a l c (ents es)) (hs : Small es) (hm : MaxAt h) (hK : Sh.KAt h) : HEnt Tryd.prog 9 #[.slice a l c] h fun v h' => v = .bool true ∧ Ext h h' := by
  have main : ∀ (l c : Nat) (es : List EntV), Tab 4 h a l c (ents es) → Small es → l ≤ 200 → F9_k1 a l c h fun v h' => v = .bool true ∧ Ext h h' := by
    intro l c es w hs hl
    unfold F9_k1
    refine HEnt.use (check_ok a l c es h w hs (by omega) hm) ?_
    rintro _ h1 ⟨rfl, x1⟩
    refine ⟨_, _, rfl, HEnt.use (encode_ok a l c es h1 (w.grow x1) hs (by omega) (hm.ext x1)) ?_⟩
    rintro _ h2 ⟨a2, l2, c2, rfl, x2, hown, hnil⟩
    have x12 := x1.trans x2
    refine ⟨_, _, _, _, rfl, HEnt.use (id_ok a l c es h2 (w.grow x12) hs (by omega) (hm.ext x12) (hK.ext x12)) ?_⟩
    rintro _ h3 ⟨rfl, x3⟩
    refine ⟨((idC es).map u8).toArray, by simp [idC_len], _, rfl, ?_⟩
    refine ((St.start h).grow (x12.trans x3)).new fun b7 h4 s4 x4 _ => ?_
    refine fill (vs := ((idC es).map u8).toArray) s4 zsize52 (by simp [idC_len]) (map_one _) fun h5 s5 o5 => ?_
    have x5 : Ext h3 h5 := s4.only (i := 0) rfl o5 x4 ‹_›
    have x05 := s5.ext
    refine br_of (fun hf => by simp at hf) (fun _ => ?_)
    unfold F9_k2
    refine br_of (fun hf => by simp at hf) (fun _ => ?_)
    unfold F9_k3
    refine br_of (fun g => ?_) (fun g => ?_)
    · have g' : (checkC es).2 ≠ 0 := by simp at g; omega
      obtain ⟨rfl, rfl, rfl⟩ := hnil g'
      refine br_of (fun _ => ?_) (fun hf => by simp at hf)
      refine ⟨((idC es).map u8).toArray, by simp [idC_len], cells_blk0 (s5.at_ 0 _ rfl).2, decide (idC es = List.replicate 32 0), fun w => ?_, guard52, br_of (fun _ => ?_) (fun hf => ?_)⟩
      · rw [zero52]; exact eq_dig _ _ (idC_len _) (by simp) w
      · refine HEnt.use (works_ok _ (hm.ext x05)) ?_
        rintro _ h7 ⟨rfl, x7⟩
        exact ⟨_, rfl, rfl, x05.trans x7⟩
      · have : idC es = List.replicate 32 0 := if_neg g'
        rw [decide_eq_true this] at hf; cases hf
    · have g' : (checkC es).2 = 0 := by simp at g; omega
      have o := (hown g').grow (x3.trans x5)
      have hsh := encode_short g'
      have hol := own_len o
      have hb := encode_bytes (good_fits g' hs) ((good_check es).1 g').1
      unfold F9_k4
      refine HEnt.use (decode_ok a2 l2 c2 (encodeC es) h5 (own_tab8 o) hb (by omega) (hm.ext x05)) ?_
      rintro v h6 ⟨x6, hv⟩
      rcases hv with ⟨fs, a', l', c', hd, rfl, o6, hsf⟩ | ⟨hno, rfl⟩
      · have hsame := dec_same hd (dec_back g' hs)
        have hl64 := ((good_check fs).1 hd.2).1
        have hol6 := o6.len
        rw [ents_len] at hol6
        have x06 := x05.trans x6
        refine ⟨_, _, _, _, rfl, br_of (fun _ => ?_) (fun hf => by simp at hf)⟩
        refine HEnt.use (same_ok a' l' c' fs a l c es h6 o6.rows (w.grow x06) (by omega)) ?_
        rintro _ h7 ⟨⟨b, rfl, hb2⟩, e7⟩
        replace e7 := e7.symm
        subst e7
        refine ⟨_, rfl, br_of (fun _ => ?_) (fun hf => by rw [hb2.2 hsame] at hf; cases hf)⟩
        refine HEnt.use (works_ok _ (hm.ext x06)) ?_
        rintro _ h7 ⟨rfl, x7⟩
        exact ⟨_, rfl, rfl, x06.trans x7⟩
      · exact absurd (dec_back g' hs) (hno es)
  refine F9_ent _ _ _ _ _ ?_
  unfold F9
  refine br_of (fun g => ?_) (fun g => ?_)
  · have g' : l > 200 := by simp at g; omega
    have := w.cap
    rw [cutAt0]
    exact ⟨by omega, by omega, by omega, main _ _ _ (cut200 w g') (small_take hs _) (by omega)⟩
  · exact main _ _ _ w hs (by simp at g; omega)
end Go.Proofs.YtnahhdkekchmfaaDoor
