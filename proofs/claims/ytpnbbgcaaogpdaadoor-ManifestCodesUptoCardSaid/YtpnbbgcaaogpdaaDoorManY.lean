import Derived.Test.YtpnbbgcaaogpdaaDoorManQ
import Derived.Test.YtpnbbgcaaogpdaaDoorManShaD
import Derived.Test.YtpnbbgcaaogpdaaDoorVmpG
import Derived.Test.YtpnbbgcaaogpdaaDoorManP
import Derived.Test.YtpnbbgcaaogpdaaDoorManI
import Derived.Test.YtpnbbgcaaogpdaaDoorManShaK

namespace Go.Proofs.YtpnbbgcaaogpdaaDoor
open Go.Vc Go.Sha Go.Trail Go.RowKit Go.Man
set_option linter.unusedVariables false
set_option linter.unusedSimpArgs false
set_option maxRecDepth 20000
theorem zero48 : zeroC Tryd.prog 48 = ((List.replicate 32 0).map u8).toArray := by kernel_rfl
theorem zsize48 : (zeroC Tryd.prog 48).size = 32 := by kernel_rfl
theorem guard48 : Tryd.prog.eqGuardType Tryd.prog.depth 48 = false := by kernel_rfl
theorem sum_len (bs : List Nat) : (Sha.sum bs).length = 32 := by simp [Sha.sum, digest]
theorem sum_lt (bs : List Nat) : ∀ x ∈ Sha.sum bs, x < 256 := by
  intro x hx
  simp only [Sha.sum, digest, List.mem_map] at hx
  obtain ⟨i, _, rfl⟩ := hx
  exact Nat.mod_lt _ (by decide)
/-- the sum of a manifest's bytes, or nothing -/
noncomputable def idC (m : ManV) : List Nat := if checkM m = 0 then Sha.sum (encodeM m) else List.replicate 32 0
theorem idC_len (m : ManV) : (idC m).length = 32 := by
  unfold idC; split
  · exact sum_len _
  · simp
theorem dig_one' (bs : List Nat) : ∀ u ∈ ((bs.map u8).toArray).toList, one u = true := by
  intro u hu
  simp only [List.mem_map] at hu
  obtain ⟨n, _, rfl⟩ := hu
  rfl
theorem dig_put {h : Heap} {K : Nat → Heap → Prop} (D : List Nat) (hD : D.length = 32) (hK : ∀ h', h'[h.size]? = some (.cells (D.map u8).toArray 48 (0, 0)) → Ext h h' → K h.size h') :
    newK h (.cells (zeroC Tryd.prog 48) 48) fun b h1 => storeK 32 h1 (at0 b) (.agg (D.map u8).toArray) fun h2 => K b h2 := by
  refine newK_intro fun h1 hb1 x1 _ => ?_
  refine storeK_whole (vs := (D.map u8).toArray) hb1 (by simp [hD]) zsize48 (dig_one' D) fun h2 hb2 o2 => ?_
  exact hK h2 hb2 (Keep.since x1 (o2.keep rfl : Keep (fun j => j = h.size) h1 h2) fun j hj e => by omega)
theorem own_bytes {h0 h : Heap} {a : Option Addr} {l c p : Nat} {bs : List Nat} (o : OwnAt 5 h0 h a l c (bs.map u8)) (hb : ∀ x ∈ bs, x < 256) (hp : h.size ≤ p) : Sh.Bytes h p a l c bs := by
  have w := own_tab8 o
  refine ⟨own_len o, w.cap, hb, fun ad e hne => ?_, fun e => ?_⟩
  · have hc := w.cells ad e
    rw [rows8_flat] at hc
    obtain ⟨b, off, e2, hlt, _⟩ := w.at_ (fun e => hne (by
      have : (rows8 bs).length = 0 := by rw [e]; rfl
      rw [rows8_len] at this; exact List.eq_nil_of_length_eq_zero this))
    rw [e] at e2; cases e2
    exact ⟨b, off, rfl, by omega, hc⟩
  · have := w.nil e
    have h0 : (rows8 bs).length = 0 := by rw [this]; rfl
    rw [rows8_len] at h0
    exact List.eq_nil_of_length_eq_zero h0
theorem encode_short {m : ManV} (h : checkM m = 0) (hb : Big m) : (encodeM m).length ≤ 500 := by
  obtain ⟨n1, n2, l0, l8, hr, _⟩ := check_zero h
  have := nameB_len n1
  have := nameB_len n2
  have := refsB_len m.refs fun r hr => (hb.2.2 r hr).1
  unfold encodeM nt
  simp only [List.length_append, List.length_cons, List.length_nil, lst_len]
  omega
theorem id_ok (m : ManV) (a : Option Addr) (l c : Nat) (h : Heap) (w : Tab 33 h a l c (rowsR m.refs)) (hb : Big m) (hl : l < 2 ^ 40) (hK : Sh.KAt h) :
    HEnt Tryd.prog 24 #[.agg (manA m a l c)] h fun v h' => v = .tuple #[.agg ((idC m).map u8).toArray, .int .i64 (checkM m)] ∧ Ext h h' := by
  refine F24_ent _ _ _ _ _ _ _ ?_
  unfold F24
  refine newK_intro fun h1 hb1 x1 _ => newK_intro fun h2 hb2 x2 _ => ?_
  have hb1 := x2.blk hb1
  have x12 := x1.trans x2
  refine ⟨m.name, m.ver, a, l, c, by rw [at_cell hb1]; rfl, by rw [at_cell hb1]; rfl, by rw [at_cell hb1]; rfl, rfl, HEnt.use (encode_ok m a l c h2 (w.grow x12) hb hl) ?_⟩
  rintro _ h3 ⟨ae, le, ce, rfl, x3, hown, _⟩
  have x13 := x12.trans x3
  have hb2 := x3.blk hb2
  have z1 := x1.size
  refine ⟨_, _, _, _, rfl, br_of (fun g => ?_) (fun g => ?_)⟩
  · have g' : checkM m ≠ 0 := by simp at g; omega
    have hz : idC m = List.replicate 32 0 := if_neg g'
    refine storeK_whole (vs := zeroC Tryd.prog 48) hb2 zsize48 zsize48 (by rw [zero48]; exact dig_one' _) fun h4 hb4 o4 => ?_
    refine ⟨zeroC Tryd.prog 48, zsize48, cells_blk0 hb4, by rw [hz, zero48], Keep.since x13 (o4.keep rfl : Keep (fun j => j = h1.size) h3 h4) fun j hj e => by omega⟩
  · have g' : checkM m = 0 := by simp at g; omega
    have o := hown g'
    have hz : idC m = Sha.sum (encodeM m) := if_pos g'
    have hsh := encode_short g' hb
    unfold F24_k1
    refine HEnt.use (Sh.sum_ok ae le ce (encodeM m) h3 (hK.ext x13) (fun p hp => own_bytes o (encodeM_lt (okM_check g' hb)) hp) (by omega)) ?_
    rintro _ h4 ⟨rfl, x4⟩
    have hb4 := x4.blk hb2
    refine ⟨((idC m).map u8).toArray, by simp [idC_len], by rw [hz]; rfl, ?_⟩
    refine storeK_whole (vs := ((idC m).map u8).toArray) hb4 (by simp [idC_len]) zsize48 (dig_one' _) fun h5 hb5 o5 => ?_
    refine ⟨((idC m).map u8).toArray, by simp [idC_len], cells_blk0 hb5, by rw [g']; rfl, Keep.since (x13.trans x4) (o5.keep rfl : Keep (fun j => j = h1.size) h4 h5) fun j hj e => by omega⟩
theorem back_ok (m : ManV) (a : Option Addr) (l c : Nat) (h : Heap) (w : Tab 33 h a l c (rowsR m.refs)) (hb : Big m) (hl : l < 2 ^ 40) (hm : MaxAt h) (hK : Sh.KAt h) : HEnt Tryd.prog 9 #[.agg (manA m a l c)] h (yes h) := by
  refine F9_ent _ _ _ _ _ _ _ ?_
  unfold F9
  refine newK_intro fun h1 hb1 x1 _ => ⟨m.name, m.ver, a, l, c, by rw [at_cell hb1]; rfl, by rw [at_cell hb1]; rfl, by rw [at_cell hb1]; rfl, rfl, HEnt.use (check_ok m a l c h1 (w.grow x1) hb hl) ?_⟩
  rintro _ h2 ⟨rfl, x2⟩
  have x12 := x1.trans x2
  have hb2 := x2.blk hb1
  refine ⟨_, rfl, m.name, m.ver, a, l, c, by rw [at_cell hb2]; rfl, by rw [at_cell hb2]; rfl, by rw [at_cell hb2]; rfl, rfl, HEnt.use (encode_ok m a l c h2 (w.grow x12) hb hl) ?_⟩
  rintro _ h3 ⟨ae, le, ce, rfl, x3, hown, hnil⟩
  have x13 := x12.trans x3
  have hb3 := x3.blk hb2
  refine ⟨_, _, _, _, rfl, m.name, m.ver, a, l, c, by rw [at_cell hb3]; rfl, by rw [at_cell hb3]; rfl, by rw [at_cell hb3]; rfl, rfl, HEnt.use (id_ok m a l c h3 (w.grow x13) hb hl (hK.ext x13)) ?_⟩
  rintro _ h4 ⟨rfl, x4⟩
  have x14 := x13.trans x4
  refine ⟨((idC m).map u8).toArray, by simp [idC_len], _, rfl, dig_put (idC m) (idC_len m) fun h5 hb5 x5 => ?_⟩
  have x15 := x14.trans x5
  have hbm := (x4.trans x5).blk hb3
  refine br_of (fun e => by simp at e) (fun _ => ?_)
  unfold F9_k1
  refine br_of (fun e => by simp at e) (fun _ => ?_)
  unfold F9_k2
  refine br_of (fun g => ?_) (fun g => ?_)
  · have g' : checkM m ≠ 0 := by simp at g; omega
    have hz : idC m = List.replicate 32 0 := if_neg g'
    obtain ⟨rfl, rfl, rfl⟩ := hnil g'
    refine br_of (fun _ => ?_) (fun e => by simp at e)
    refine ⟨((idC m).map u8).toArray, by simp [idC_len], cells_blk0 hb5, decide (idC m = List.replicate 32 0), fun w => ?_, guard48, br_of (fun _ => ?_) (fun e => by rw [hz] at e; simp at e)⟩
    · rw [zero48]; exact row_eq _ _ (idC_len _) (by simp) w
    · refine ⟨m.name, m.ver, a, l, c, by rw [at_cell hbm]; rfl, by rw [at_cell hbm]; rfl, by rw [at_cell hbm]; rfl, rfl, HEnt.use (size_ok m a l c h5 (w.grow x15) hb hl) ?_⟩
      rintro _ h6 ⟨rfl, x6⟩
      have hs : sizeM m = 0 := if_neg g'
      exact ⟨_, rfl, br_of (fun _ => works_yes (x15.trans x6) hm) (fun e => by rw [hs] at e; simp at e)⟩
  · have g' : checkM m = 0 := by simp at g; omega
    have o := (hown g').grow (x4.trans x5)
    have hsh := encode_short g' hb
    have hle := own_len o
    unfold F9_k3
    refine HEnt.use (decode_ok ae le ce (encodeM m) h5 (own_tab8 o) (encodeM_lt (okM_check g' hb)) (by omega)) ?_
    rintro v h6 ⟨x6, hv⟩
    rw [decC_back g' hb] at hv
    simp only at hv
    obtain ⟨a', l', c', rfl, t'⟩ := hv
    have l40 : l' < 2 ^ 40 := by
      have := t'.len; rw [rowsR_len] at this; have := (okM_check g' hb).2.2.1; omega
    refine ⟨m.name, m.ver, a', l', c', _, rfl, man_put m a' l' c' fun h7 hb7 x7 => br_of (fun _ => ?_) (fun e => by simp at e)⟩
    have x16 := (x15.trans x6).trans x7
    have hbm7 := (x6.trans x7).blk hbm
    refine ⟨m.name, m.ver, a', l', c', by rw [at_cell hb7]; rfl, by rw [at_cell hb7]; rfl, by rw [at_cell hb7]; rfl, rfl, m.name, m.ver, a, l, c, by rw [at_cell hbm7]; rfl, by rw [at_cell hbm7]; rfl, by rw [at_cell hbm7]; rfl, rfl,
      HEnt.use (same_ok m m a' l' c' a l c h7 (t'.grow x7) (w.grow x16) (fun r hr => (hb.2.2 r hr).1) (fun r hr => (hb.2.2 r hr).1) l40) ?_⟩
    rintro _ h8 ⟨rfl, x8⟩
    rw [same_self]
    exact ⟨_, rfl, br_of (fun _ => works_yes (x16.trans x8) hm) (fun e => by cases e)⟩
end Go.Proofs.YtpnbbgcaaogpdaaDoor

namespace Go.Proofs.YtpnbbgcaaogpdaaDoor
open Go.Vc Go.Sha Go.Trail Go.RowKit Go.Man
set_option linter.unusedVariables false
set_option linter.unusedSimpArgs false
set_option maxRecDepth 20000
theorem conv_one {w : World} {b x : Nat} (hx : x < 256) (hc : Vc.cell w.heap (at0 b) = some (.int .u8 x)) : (convert 37 9 (.slice (some (at0 b)) 1 1)).run Tryd.prog w = .ok (.string (str [x])) w := by
  have hb : ∀ y ∈ [x], y < 256 := fun y hy => by simp at hy; omega
  have hbv : bytesV (str [x]) = [u8 x] := by rw [bytesV_lst, lst_str [x] hb]; rfl
  have := Vc.run_bytesToString (P := Tryd.prog) (w := w) (a := some (at0 b)) (l := 1) (c := 1) (str [x]) (by rw [str_size]; rfl) (fun ad e => by
    cases e; rw [hbv]; intro i v hv
    match i, hv with
    | 0, hv => cases hv; exact hc) (by rintro ⟨⟩)
  simp [convert, run_und Tryd.underlying37, run_und Tryd.underlying9, run_und Tryd.underlying5, this]
def encS (m : ManV) : ByteArray := if checkM m = 0 then str (encodeM m) else ⟨#[]⟩
theorem varB_small (n : Nat) (h : n < 128) : varB n = [n] := by
  unfold varB varF; rw [if_pos h]
theorem textB_nt (s : ByteArray) (h : s.size < 128) : textB s = nt s := by
  unfold textB nt; rw [varB_small _ h]; rfl
theorem refEncode_ok (m : ManV) (a : Option Addr) (l c : Nat) (h : Heap) (w : Tab 33 h a l c (rowsR m.refs)) (hb : Big m) (hl : l < 2 ^ 40) :
    HEnt Tryd.prog 22 #[.agg (manA m a l c)] h fun v h' => v = .tuple #[.string (encS m), .int .i64 (checkM m)] ∧ Ext h h' := by
  have hlen : m.refs.length = l := by have := w.len; rwa [rowsR_len] at this
  refine F22_ent _ _ _ _ _ _ _ ?_
  unfold F22
  refine newK_intro fun h1 hb1 x1 _ => ⟨m.name, m.ver, a, l, c, by rw [at_cell hb1]; rfl, by rw [at_cell hb1]; rfl, by rw [at_cell hb1]; rfl, rfl, HEnt.use (refCheck_ok m a l c h1 (w.grow x1) hb hl) ?_⟩
  rintro _ h2 ⟨rfl, x2⟩
  have x12 := x1.trans x2
  refine ⟨_, rfl, br_of (fun g => ?_) (fun g => ?_)⟩
  · have g' : checkM m ≠ 0 := by simp at g; omega
    exact ⟨by rw [encS, if_neg g'], x12⟩
  have h0 : checkM m = 0 := by simp at g; omega
  obtain ⟨nb1, nb2, hl0, h8, hrng, _⟩ := check_zero h0
  have ln1 := nameB_len nb1
  have ln2 := nameB_len nb2
  have hb2 := x2.blk hb1
  have t1 := textB_nt m.name (by omega)
  have t2 := textB_nt m.ver (by omega)
  have lt1 : (textB m.name).length ≤ 17 := by rw [t1]; simp [nt, lst_len]; omega
  have lt2 : (textB m.ver).length ≤ 17 := by rw [t2]; simp [nt, lst_len]; omega
  have r32 : ∀ r ∈ m.refs, r.1.length = 32 := fun r hr => (hb.2.2 r hr).1
  unfold F22_k1
  have vm : (⟨#[86, 77, 1]⟩ : ByteArray) = str [86, 77, 1] := rfl
  have vm3 : (⟨#[86, 77, 1]⟩ : ByteArray).size = 3 := rfl
  refine ⟨fun s hh => s = str ([86, 77, 1] ++ textB m.name ++ textB m.ver ++ [l]) ∧ Ext h2 hh, ?_, ?_⟩
  · have cl : ∀ {w : World} (i : Nat) (v : Value), (manA m a l c)[i]? = some v → Ext h2 w.heap → Vc.cell w.heap ((at0 h.size).add i) = some v := fun i v hv x => by
      rw [at_cell (x.blk hb2)]; exact hv
    have tx : ∀ (s : ByteArray) (hh : Heap) (K : Value → Heap → Prop), s.size < 128 → (∀ h', Ext hh h' → K (.string (str (textB s))) h') → HCalls Tryd.prog 37 #[.string s] hh K := fun s hh K hs hK => by
      refine HEnt.use (refText_ok s (by omega) hh) ?_
      rintro _ h' ⟨rfl, x⟩
      exact hK h' x
    have one' : ∀ {hh h' : Heap} {w : World}, h'[hh.size]? = some (.cells #[.int .u8 (IntKind.u8.wrap (l : Int))] 5 (0, 0)) → Ext h' w.heap → (convert 37 9 (.slice (some (at0 hh.size)) 1 1)).run Tryd.prog w = .ok (.string (str [l])) w := fun hb x => conv_one (by omega) (by
      have := x.blk hb
      rw [u8_small l (by omega)] at this
      rw [show at0 _ = (at0 _).add 0 from rfl, at_cell this]; rfl)
    have z1 : (str (textB m.name)).size ≤ 17 := by rw [str_size]; exact lt1
    have z2 : (str (textB m.ver)).size ≤ 17 := by rw [str_size]; exact lt2
    have z3 : (str [l]).size = 1 := by rw [str_size]; rfl
    have fin : ∀ s5 : ByteArray, s5 = (((⟨#[86, 77, 1]⟩ : ByteArray) ++ str (textB m.name)) ++ str (textB m.ver)) ++ str [l] → s5 = str ([86, 77, 1] ++ textB m.name ++ textB m.ver ++ [l]) := by
      rintro _ rfl
      rw [vm, str_app, str_app, str_app]
    refine ⟨Ext, Ext.refl, fun _ _ _ => Ext.trans, m.name, fun w x => run_loadCell (cl 0 _ rfl x) Tryd.underlying9 rfl, m.ver, fun w x => run_loadCell (cl 1 _ rfl x) Tryd.underlying9 rfl, a, l, c, fun w x => run_loadCell (cl 2 _ rfl x) Tryd.underlying22 rfl, ?_, ?_⟩
    · refine tx _ _ _ (by omega) fun h3 x3 => ⟨_, rfl, x3, by omega, ?_, ?_⟩
      · refine tx _ _ _ (by omega) fun h4 x4 => ⟨_, rfl, x4, by simp only [ByteArray.size_append]; omega, by decide, newK_intro fun h5 n5 x5 _ => ⟨x5, _, fun w x => one' n5 x, by simp only [ByteArray.size_append]; omega, fun s5 e => ⟨fin s5 e, (x3.trans x4).trans x5⟩⟩⟩
      · refine ⟨by decide, newK_intro fun h4 n4 x4 _ => ⟨x4, _, fun w x => one' n4 x, tx _ _ _ (by omega) fun h5 x5 => ⟨_, rfl, x5, by simp only [ByteArray.size_append]; omega, by simp only [ByteArray.size_append]; omega, fun s5 e => ⟨fin s5 e, (x3.trans x4).trans x5⟩⟩⟩⟩
    · refine ⟨by decide, newK_intro fun h3 n3 x3 _ => ⟨x3, _, fun w x => one' n3 x, tx _ _ _ (by omega) fun h4 x4 => ⟨_, rfl, x4, by omega, tx _ _ _ (by omega) fun h5 x5 => ⟨_, rfl, x5, by simp only [ByteArray.size_append]; omega, by simp only [ByteArray.size_append]; omega, fun s5 e => ⟨fin s5 e, (x3.trans x4).trans x5⟩⟩⟩⟩⟩
  rintro h3 _ ⟨rfl, x3⟩
  have x13 := x12.trans x3
  generalize hpre : [86, 77, 1] ++ textB m.name ++ textB m.ver ++ [l] = pre
  have hpl : pre.length ≤ 38 := by rw [← hpre]; simp only [List.length_append, List.length_cons, List.length_nil]; omega
  unfold F22_k3
  rintro _ rfl
  refine ⟨fun s x hh => ∃ k : Nat, x = k ∧ k ≤ l ∧ s = str (pre ++ refsB (m.refs.take k)) ∧ Ext h3 hh, fun _ x _ => ((l : Int) - x).toNat, ⟨0, rfl, by omega, by simp [refsB], Ext.refl _⟩, ?_⟩
  rintro h4 _ _ ⟨k, rfl, hk, rfl, x4⟩
  have x14 := x13.trans x4
  have hb4 := x4.blk (x3.blk hb2)
  have hrl := refsB_len (m.refs.take k) fun r hr => r32 r (List.mem_of_mem_take hr)
  rw [List.length_take] at hrl
  unfold F22_b4
  refine ⟨a, l, c, by rw [at_cell hb4]; rfl, br_of (fun gk => ?_) (fun gk => ?_)⟩
  case refine_2 =>
    have hk' : k = l := by
      have : ¬ (k : Int) < (l : Int) := by simpa using gk
      omega
    unfold F22_k10
    refine ⟨?_, x14⟩
    rw [encS, if_pos h0, h0, hk', List.take_of_length_le (by omega), ← hpre, t1, t2]
    unfold encodeM; rw [hlen]; rfl
  have hk' : k < l := by simpa using gk
  obtain ⟨r, hr⟩ : ∃ r, m.refs[k]? = some r := ⟨m.refs[k]'(by omega), List.getElem?_eq_getElem (by omega)⟩
  obtain ⟨hr32, hr256, _, _⟩ := hb.2.2 r (List.mem_of_getElem? hr)
  have hrr := hrng r (List.mem_of_getElem? hr)
  have ek : IntKind.i64.wrap ((k : Int) + 1) = ((k + 1 : Nat) : Int) := by rw [i64_lt _ (by omega) (by omega)]; omega
  unfold F22_k5
  rintro _ rfl
  refine ⟨fun s y hh => ∃ j : Nat, y = j ∧ j ≤ 32 ∧ s = str (pre ++ refsB (m.refs.take k) ++ r.1.take j) ∧ Ext h4 hh, fun _ y _ => ((32 : Int) - y).toNat, ⟨0, rfl, by omega, by simp, Ext.refl _⟩, ?_⟩
  rintro h5 _ _ ⟨j, rfl, hj, rfl, x5⟩
  have hb5 := x5.blk hb4
  obtain ⟨q, eq, _, hcell⟩ := (w.grow (x14.trans x5)).get (i := k) (r := refC r) (by simp [rowsR, hr])
  unfold F22_b6
  refine br_of (fun gj => ?_) (fun gj => ?_)
  · have hj' : j < 32 := by
      have : (j : Int) < 32 := by simpa using gj
      omega
    have hx : r.1[j]? = some (r.1.getD j 0) := by
      rw [List.getD_eq_getElem?_getD, List.getElem?_eq_getElem (by omega)]; rfl
    have hlt := getD_lt hr256 j
    generalize r.1.getD j 0 = x at hx hlt
    have hc : Vc.cell h5 ((q.add (k * 33)).add j) = some (.int .u8 (x : Nat)) := hcell j _ (by
      unfold refC
      rw [List.getElem?_append_left (by simp; omega), List.getElem?_map, hx]; rfl)
    have ej : IntKind.i64.wrap ((j : Int) + 1) = ((j + 1 : Nat) : Int) := by rw [i64_lt _ (by omega) (by omega)]; omega
    unfold F22_k7
    refine ⟨a, l, c, by rw [at_cell hb5]; rfl, q, eq, by omega, by omega, by omega, by omega, x, by rw [Int.toNat_natCast, Int.toNat_natCast, Nat.mul_one]; exact hc, by decide, newK_intro fun h6 n6 x6 _ => ?_⟩
    refine ⟨str [x], by rw [str_size]; rfl, fun ad e => ?_, fun e => (by cases e), ?_, ?_⟩
    · cases e
      rw [bytesV_lst, lst_str [x] (fun y hy => by simp at hy; omega)]
      exact cells_blk0 n6
    · rw [str_size, str_size]
      simp only [List.length_append, List.length_take, List.length_cons, List.length_nil]
      omega
    · rintro _ rfl _ rfl
      rw [ej]
      refine ⟨⟨j + 1, rfl, by omega, ?_, x5.trans x6⟩, by show ((32 : Int) - ((j + 1 : Nat) : Int)).toNat < ((32 : Int) - (j : Int)).toNat; omega⟩
      rw [str_app, List.take_add_one, hx]
      simp only [List.append_assoc, Option.toList]
  · have hj' : j = 32 := by
      have : ¬ (j : Int) < 32 := by simpa using gj
      omega
    subst hj'
    have hc : Vc.cell h5 ((q.add (k * 33)).add 32) = some (.int .i64 r.2) := hcell 32 _ (refC_get_last r hr32)
    unfold F22_k8
    refine ⟨a, l, c, by rw [at_cell hb5]; rfl, q, eq, by omega, by omega, r.2, by rw [Int.toNat_natCast]; exact hc, ?_⟩
    obtain ⟨n, hn⟩ : ∃ n : Nat, r.2 = n := ⟨r.2.toNat, by omega⟩
    have hv := varF_len 10 n
    rw [hn, u64_lt _ (by omega) (by omega)]
    refine HEnt.use (refVar_ok n (by omega) h5) ?_
    rintro _ h6 ⟨a6, c6, rfl, o6⟩
    obtain ⟨q1, q2, q3⟩ := own_str o6 (varB_lt n (by omega))
    refine ⟨_, _, _, rfl, str (varB n), q1, q2, q3, ?_, ?_⟩
    · rw [str_size, str_size]
      simp only [List.length_append, List.length_take]
      unfold varB
      omega
    · rintro _ rfl
      unfold F22_k9
      rintro _ rfl
      rw [ek]
      refine ⟨⟨k + 1, rfl, by omega, ?_, (x4.trans x5).trans o6.ext⟩, by show ((l : Int) - ((k + 1 : Nat) : Int)).toNat < ((l : Int) - (k : Int)).toNat; omega⟩
      rw [str_app, List.take_of_length_le (l := r.1) (by omega), List.take_add_one, hr]
      simp only [Option.toList]
      rw [refsB_snoc]
      unfold refB
      rw [hn, Int.toNat_natCast]
      simp only [List.append_assoc]
end Go.Proofs.YtpnbbgcaaogpdaaDoor

namespace Go.Proofs.YtpnbbgcaaogpdaaDoor
open Go.Vc Go.Sha Go.Trail Go.RowKit Go.Man
set_option linter.unusedVariables false
set_option linter.unusedSimpArgs false
set_option maxRecDepth 20000
theorem decP_none {bs : List Nat} (h : parseM bs = none) : decP bs = none := by unfold decP; rw [h]
theorem decC_none {bs : List Nat} (h : decP bs = none) : decC bs = none := by unfold decC; rw [h]
theorem readVar_nil : (readVar []).2.2 ≠ 0 := by decide
theorem strP_drop {bs : List Nat} {at_ : Nat} (h : at_ < bs.length) : strP (bs.drop at_) = if bs.getD at_ 0 ≤ bs.length - at_ - 1 then some ((bs.drop (at_ + 1)).take (bs.getD at_ 0), bs.drop (at_ + 1 + bs.getD at_ 0)) else none := by
  rw [List.drop_eq_getElem_cons h, strP, List.length_drop, List.drop_drop]
  have : bs.getD at_ 0 = bs[at_] := by rw [List.getD_eq_getElem?_getD, List.getElem?_eq_getElem h]; rfl
  rw [this, Nat.sub_sub]
/-- the way a run over the names stands -/
def NameSt (bs : List Nat) (k at_ : Nat) (m : ManV) : Prop :=
  (k = 0 ∧ at_ = 3 ∧ m = e0) ∨ (∃ s, k = 1 ∧ strP (bs.drop 3) = some (s, bs.drop at_) ∧ m = ⟨str s, ByteArray.empty, []⟩) ∨ (∃ s r1 t, k = 2 ∧ strP (bs.drop 3) = some (s, r1) ∧ strP r1 = some (t, bs.drop at_) ∧ m = ⟨str s, str t, []⟩)
theorem name_none {bs : List Nat} {k at_ : Nat} {m : ManV} (h : NameSt bs k at_ m) (hk : k < 2) (hn : strP (bs.drop at_) = none) : decC bs = none := by
  refine decC_none (decP_none ?_)
  unfold parseM
  split
  · rcases h with ⟨_, rfl, _⟩ | ⟨s, _, hs, _⟩ | ⟨s, r1, t, hk', _⟩
    · rw [hn]; rfl
    · rw [hs]; simp [hn]
    · omega
  · rfl
/-- of the pieces that are left over, the same ones -/
def RefSt (bs : List Nat) (p0 pos : Nat) (rs : List RefV) : Prop :=
  ∀ n rs', refsP n (bs.drop p0) = some (rs', []) → ∃ n' rs2, refsP n' (bs.drop pos) = some (rs2, []) ∧ rs' = rs ++ rs2
theorem ref_step {bs : List Nat} {p0 pos : Nat} {rs : List RefV} (h : RefSt bs p0 pos rs) (hp : pos < bs.length) :
    RefSt bs p0 (pos + 32 + (readVar (bs.drop (pos + 32))).2.1) (rs ++ [((bs.drop pos).take 32, ((readVar (bs.drop (pos + 32))).1 : Int))]) := by
  intro n rs' hr
  obtain ⟨n', rs2, h1, h2⟩ := h n rs' hr
  cases n' with
  | zero =>
    simp only [refsP, Option.some.injEq, Prod.mk.injEq] at h1
    have := congrArg List.length h1.2
    rw [List.length_drop, List.length_nil] at this; omega
  | succ n' =>
    unfold refsP at h1
    split at h1
    · obtain ⟨⟨rs3, r3⟩, h3, e3⟩ := Option.map_eq_some_iff.1 h1
      simp only [Prod.mk.injEq] at e3
      obtain ⟨rfl, rfl⟩ := e3
      simp only [List.drop_drop, ← Nat.add_assoc] at h3
      refine ⟨n', rs3, h3, ?_⟩
      rw [h2, List.drop_drop]; simp
    · cases h1
theorem ref_fail {bs : List Nat} {p0 pos : Nat} {rs : List RefV} (h : RefSt bs p0 pos rs) (hp : pos < bs.length)
    (hn : ¬ (32 ≤ bs.length - pos ∧ (readVar (bs.drop (pos + 32))).2.2 = 0 ∧ (readVar (bs.drop (pos + 32))).1 ≤ 2147483647)) (n : Nat) (rs' : List RefV) : refsP n (bs.drop p0) ≠ some (rs', []) := by
  intro hr
  obtain ⟨n', rs2, h1, h2⟩ := h n rs' hr
  cases n' with
  | zero =>
    simp only [refsP, Option.some.injEq, Prod.mk.injEq] at h1
    have := congrArg List.length h1.2
    rw [List.length_drop, List.length_nil] at this; omega
  | succ n' =>
    unfold refsP at h1
    split at h1
    · rename_i hc
      rw [List.drop_drop, List.length_drop] at hc
      exact hn hc
    · cases h1
theorem ref_end {bs : List Nat} {p0 pos : Nat} {rs : List RefV} (h : RefSt bs p0 pos rs) (hp : bs.length ≤ pos) {n : Nat} {rs' : List RefV} (hr : refsP n (bs.drop p0) = some (rs', [])) : rs' = rs := by
  obtain ⟨n', rs2, h1, h2⟩ := h n rs' hr
  rw [List.drop_of_length_le hp] at h1
  cases n' with
  | zero => simp only [refsP, Option.some.injEq, Prod.mk.injEq] at h1; rw [h2, ← h1.1, List.append_nil]
  | succ n' => simp [refsP] at h1
/-- what an answer would be made of -/
theorem dec_parts {bs : List Nat} {m : ManV} (h : decC bs = some m) {s t r1 r : List Nat} (h1 : strP (bs.drop 3) = some (s, r1)) (h2 : strP r1 = some (t, r)) : m.name = str s ∧ m.ver = str t ∧ ∃ n q, r = n :: q ∧ refsP n q = some (m.refs, []) := by
  have hp : decP bs = some m := by
    unfold decC at h
    split at h
    · split at h
      · cases h; assumption
      · cases h
    · cases h
  unfold decP at hp
  split at hp
  · rename_i m' hm
    cases hp
    unfold parseM at hm
    split at hm
    · rw [h1] at hm
      simp only [Option.bind_some, h2] at hm
      cases r with
      | nil => cases hm
      | cons n q =>
        unfold tailP at hm
        obtain ⟨⟨rs, x⟩, hr, e⟩ := Option.map_eq_some_iff.1 hm
        simp only [Prod.mk.injEq] at e
        obtain ⟨rfl, rfl⟩ := e
        exact ⟨rfl, rfl, n, q, rfl, hr⟩
    · cases hm
  · cases hp
def rowJ (r : List Nat) (j : Nat) : List Nat := r.take j ++ List.replicate (32 - j) 0
theorem rowJ_len {r : List Nat} {j : Nat} (hj : j ≤ 32) (hr : j ≤ r.length) : (rowJ r j).length = 32 := by
  unfold rowJ; rw [List.length_append, List.length_take, List.length_replicate]; omega
theorem rowJ_set {r : List Nat} {j x : Nat} (hj : j < 32) (hx : r[j]? = some x) : (refC (rowJ r j, 0)).set j (.int .u8 x) = refC (rowJ r (j + 1), 0) := by
  have hr := (List.getElem?_eq_some_iff.1 hx).1
  unfold refC rowJ
  simp only
  rw [List.set_append_left _ _ (by simp; omega)]
  congr 1
  rw [show 32 - j = (32 - (j + 1)) + 1 by omega, List.replicate_succ, List.map_append, List.set_append_right _ _ (by simp; omega)]
  rw [List.length_map, List.length_take, show j - min j r.length = 0 by omega, List.map_cons, List.set_cons_zero, List.take_add_one, hx]
  simp
theorem rowJ_32 (r : List Nat) : rowJ r 32 = r.take 32 := by unfold rowJ; simp
theorem zero54 : zeroC Tryd.prog 54 = (refC (rowJ [] 0, 0)).toArray := by kernel_rfl
theorem row_last (d : List Nat) (hd : d.length = 32) (x y : Int) : (refC (d, x)).set 32 (.int .i64 y) = refC (d, y) := by
  unfold refC
  simp only
  rw [List.set_append_right _ _ (by simp [hd])]
  simp [hd]
def FailD (q2 : Addr) (h : Heap) (R : Value → Heap → Prop) : Prop :=
  storeK 3 h q2 (Value.agg #[Value.string ByteArray.empty, Value.string ByteArray.empty, Value.slice none 0 0]) fun h1 => ∃ sr0_0 : ByteArray, ∃ sr0_1 : ByteArray, ∃ ar0_2 : Option Addr, ∃ lr0_2 : Nat, ∃ cr0_2 : Nat, Vc.cell h1 (q2.add 0) = some (Value.string sr0_0) ∧ Vc.cell h1 (q2.add 1) = some (Value.string sr0_1) ∧ Vc.cell h1 (q2.add 2) = some (Value.slice ar0_2 lr0_2 cr0_2) ∧ 3 = 3 ∧ R (Value.tuple #[Value.agg #[Value.string sr0_0, Value.string sr0_1, Value.slice ar0_2 lr0_2 cr0_2], Value.int .i64 5]) h1
theorem failD {h0 h : Heap} {bs : List Nat} (x : Ext h0 h) (hb : h[h0.size]? = some (.cells (manA e0 none 0 0) 24 (0, 0))) (hd : decC bs = none) : FailD (at0 h0.size) h (DecS h0 bs) := by
  refine storeK_whole (vs := manA e0 none 0 0) hb rfl rfl (man_one e0 none 0 0) fun h2 hb2 o2 => ?_
  refine ⟨_, _, _, _, _, by rw [at_cell hb2]; rfl, by rw [at_cell hb2]; rfl, by rw [at_cell hb2]; rfl, rfl, Keep.since x (o2.keep rfl : Keep (fun j => j = h0.size) h h2) fun j hj e => by omega, ?_⟩
  rw [hd]; rfl
theorem okR_big {m : ManV} (h1 : m.name.size < 256) (h2 : m.ver.size < 256) (h3 : ∀ r ∈ m.refs, okR r) : Big m :=
  ⟨by omega, by omega, fun q hq => by obtain ⟨a, b, c, d⟩ := h3 q hq; exact ⟨a, b, by omega, by omega⟩⟩
theorem refDecode_ok (s : ByteArray) (hs : s.size < 2 ^ 39) (h : Heap) : HEnt Tryd.prog 23 #[.string s] h (DecS h (lst s)) := by
  have hL : (lst s).length = s.size := lst_len s
  have hB := lst_lt s
  have hbt : ∀ i : Nat, bt s i = ((lst s).getD i 0 : Nat) := bt_lst s
  have hcut : ∀ i j : Nat, s.extract i j = str (((lst s).drop i).take (j - i)) := fun i j => by rw [← lst_cut, str_lst]
  have hseq : ∀ t : ByteArray, seq t s = decide (lst t = lst s) := fun t => seq_lst t s
  generalize lst s = bs at *
  refine F23_ent _ _ _ ?_
  unfold F23
  rw [zero24]
  refine newK_intro fun h1 hb1 x1 z1 => newK_intro fun h2 hb2 x2 z2 => ?_
  have hb1 : h1[h.size]? = some (.cells (manA e0 none 0 0) 24 (0, 0)) := hb1
  refine storeK_whole (vs := manA e0 none 0 0) hb2 rfl rfl (man_one e0 none 0 0) fun h3 hb3 o3 => ?_
  have x3 : Ext h h3 := Keep.since (x1.trans x2) (o3.keep rfl : Keep (fun j => j = h1.size) h2 h3) fun j hj e => by omega
  have hc3 : h3[h.size]? = some (.cells (manA e0 none 0 0) 24 (0, 0)) := o3.blk (x2.blk hb1) (by omega)
  refine ⟨fun x5 x6 hh => ∃ (k p : Nat) (m : ManV), x5 = p ∧ x6 = k ∧ k ≤ 2 ∧ (p = 3 ∨ p ≤ bs.length) ∧ (k ≠ 0 → p ≤ bs.length) ∧ m.name.size < 256 ∧ m.ver.size < 256 ∧ NameSt bs k p m ∧ Ext h hh ∧ hh[h.size]? = some (.cells (manA e0 none 0 0) 24 (0, 0)) ∧ hh[h1.size]? = some (.cells (manA m none 0 0) 24 (0, 0)),
    fun _ x6 _ => (2 - x6).toNat, ⟨0, 3, e0, rfl, rfl, by omega, .inl rfl, fun e => absurd rfl e, by decide, by decide, .inl ⟨rfl, rfl, rfl⟩, x3, hc3, hb3⟩, ?_⟩
  rintro h4 _ _ ⟨k, p, m, rfl, rfl, hk, hp, hp2, n1, n2, hst, x4, hc4, hb4⟩
  have e1 : IntKind.i64.wrap ((p : Int) + 1) = ((p + 1 : Nat) : Int) := by rw [i64_lt _ (by omega) (by omega)]; omega
  unfold F23_b1
  refine br_of (fun gk => ?_) (fun gk => ?_)
  · have hk2 : k < 2 := by
      have : (k : Int) < 2 := by simpa using gk
      omega
    unfold F23_k2
    refine br_of (fun gp => ?_) (fun gp => ?_)
    · have gp' : bs.length ≤ p := by simp at gp; omega
      unfold F23_k3
      refine br_of (fun _ => failD x4 hc4 (name_none hst hk2 (by rw [List.drop_of_length_le gp']; rfl))) (fun e => by cases e)
    have gp' : p < bs.length := by simp at gp; omega
    have hlt : bs.getD p 0 < 256 := getD_lt hB p
    have hsp := strP_drop gp'
    have e2 : IntKind.i64.wrap (bt s p) = ((bs.getD p 0 : Nat) : Int) := by rw [hbt, i64_lt _ (by omega) (by omega)]
    generalize bs.getD p 0 = n at *
    refine ⟨by omega, by omega, ?_⟩
    rw [e2]
    unfold F23_k3
    refine br_of (fun gn => ?_) (fun gn => ?_)
    · have gn' : ¬ n ≤ bs.length - p - 1 := by
        rw [i64_lt ((s.size : Int) - p) (by omega) (by omega), i64_lt _ (by omega) (by omega)] at gn
        have : (n : Int) > (s.size : Int) - p - 1 := by simpa using gn
        omega
      exact failD x4 hc4 (name_none hst hk2 (by rw [hsp, if_neg gn']))
    have gn' : n ≤ bs.length - p - 1 := by
      rw [i64_lt ((s.size : Int) - p) (by omega) (by omega), i64_lt _ (by omega) (by omega)] at gn
      have : ¬ (n : Int) > (s.size : Int) - p - 1 := by simpa using gn
      omega
    rw [if_pos gn'] at hsp
    have e3 : IntKind.i64.wrap (((p + 1 : Nat) : Int) + (n : Int)) = ((p + 1 + n : Nat) : Int) := by rw [i64_lt _ (by omega) (by omega)]; omega
    have ek : IntKind.i64.wrap ((k : Int) + 1) = ((k + 1 : Nat) : Int) := by rw [i64_lt _ (by omega) (by omega)]; omega
    unfold F23_k4 F23_k5 F23_k6
    rw [e1, e2, e3, ek, Int.toNat_natCast, Int.toNat_natCast, hcut, show p + 1 + n - (p + 1) = n by omega]
    have hsz : (str ((bs.drop (p + 1)).take n)).size < 256 := by rw [str_size, List.length_take]; omega
    have dec : ((2 : Int) - ((k + 1 : Nat) : Int)).toNat < ((2 : Int) - (k : Int)).toNat := by omega
    have ext : ∀ {h5 : Heap}, Only h1.size h4 h5 → Ext h h5 ∧ h5[h.size]? = some (.cells (manA e0 none 0 0) 24 (0, 0)) := fun o5 => ⟨Keep.since x4 (o5.keep rfl : Keep (fun j => j = h1.size) h4 _) fun j hj e => by omega, o5.blk hc4 (by omega)⟩
    refine ⟨by omega, by omega, by omega, by omega, by omega, br_of (fun g0 => ?_) (fun g0 => ?_)⟩
    · have g0' : k = 0 := by simp at g0; omega
      subst g0'
      rw [add_at0]
      refine storeK_one hb4 (by simp [manA]) (.inr (Nat.zero_le _)) rfl fun h5 hb5 o5 => ⟨?_, dec⟩
      obtain ⟨x5, hc5⟩ := ext o5
      rcases hst with ⟨_, rfl, rfl⟩ | ⟨s1, hk', _⟩ | ⟨s1, r1, t, hk', _⟩
      · exact ⟨1, _, ⟨str ((bs.drop (3 + 1)).take n), ByteArray.empty, []⟩, rfl, rfl, by omega, .inr (by omega), fun _ => by omega, hsz, n2, .inr (.inl ⟨_, rfl, hsp, rfl⟩), x5, hc5, hb5⟩
      · omega
      · omega
    · have g0' : k = 1 := by simp at g0; omega
      subst g0'
      rw [add_at0]
      refine storeK_one hb4 (by simp [manA]) (.inr (Nat.zero_le _)) rfl fun h5 hb5 o5 => ⟨?_, dec⟩
      obtain ⟨x5, hc5⟩ := ext o5
      rcases hst with ⟨hk', _⟩ | ⟨s1, _, hs1, rfl⟩ | ⟨s1, r1, t, hk', _⟩
      · omega
      · exact ⟨2, _, ⟨str s1, str ((bs.drop (p + 1)).take n), []⟩, rfl, rfl, by omega, .inr (by omega), fun _ => by omega, n1, hsz, .inr (.inr ⟨_, _, _, rfl, hs1, hsp, rfl⟩), x5, hc5, hb5⟩
      · omega
  obtain rfl : k = 2 := by
    have : ¬ (k : Int) < 2 := by simpa using gk
    omega
  have hpL : p ≤ bs.length := hp2 (by omega)
  obtain ⟨s1, r1, t, hs1, hs2, rfl⟩ : ∃ s1 r1 t, strP (bs.drop 3) = some (s1, r1) ∧ strP r1 = some (t, bs.drop p) ∧ m = ⟨str s1, str t, []⟩ := by
    rcases hst with ⟨hk', _⟩ | ⟨s1, hk', _⟩ | ⟨s1, r1, t, _, q1, q2, q3⟩
    · omega
    · omega
    · exact ⟨s1, r1, t, q1, q2, q3⟩
  have parts : ∀ {mm : ManV}, decC bs = some mm → mm.name = str s1 ∧ mm.ver = str t ∧ ∃ n, refsP n (bs.drop (p + 1)) = some (mm.refs, []) := fun hd => by
    obtain ⟨g1, g2, n, q, g3, g4⟩ := dec_parts hd hs1 hs2
    refine ⟨g1, g2, n, ?_⟩
    rw [← List.drop_drop, g3]; exact g4
  have noD : (∀ n rs', refsP n (bs.drop (p + 1)) ≠ some (rs', [])) → decC bs = none := fun hn => by
    cases hd : decC bs with
    | none => rfl
    | some mm =>
      obtain ⟨_, _, n, g⟩ := parts hd
      exact absurd g (hn n _)
  unfold F23_k7
  rw [e1]
  refine ⟨fun x hh => ∃ (pos k : Nat) (rs : List RefV) (ar : Option Addr) (cr : Nat), x = pos ∧ pos ≤ bs.length + 1 ∧ k ≤ pos ∧ (∀ r ∈ rs, okR r) ∧ RefSt bs (p + 1) pos rs ∧ hh[h.size]? = some (.cells (manA e0 none 0 0) 24 (0, 0)) ∧ hh[h1.size]? = some (.cells (manA ⟨str s1, str t, rs⟩ ar k cr) 24 (0, 0)) ∧ OwnR 54 33 h hh ar k cr (rowsR rs),
    fun x _ => ((bs.length + 1 : Nat) - x : Int).toNat, ⟨p + 1, 0, [], none, 0, rfl, by omega, by omega, (by intro r hr; cases hr), fun n rs' e => ⟨n, rs', e, rfl⟩, hc4, hb4, OwnR.nil 54 33 x4⟩, ?_⟩
  rintro h5 _ ⟨pos, k, rs, ar, cr, rfl, hpos, hkp, hok, hrs, hc5, hb5, o5⟩
  have x5 := o5.ext
  have bne : ∀ {b' : Nat} {m' : ManV} {a' : Option Addr} {l' c' : Nat} {hh : Heap} {ar : Option Addr} {k cr : Nat} {rs : List RefV}, hh[b']? = some (.cells (manA m' a' l' c') 24 (0, 0)) → OwnR 54 33 h hh ar k cr (rowsR rs) → ∀ k', ar = some ⟨k', 0, none⟩ → k' ≠ b' := fun hb o k' e hh => by
    rcases o.own with ⟨e2, _⟩ | ⟨b, cs, e2, _, g2, _⟩
    · rw [e] at e2; cases e2
    · rw [e] at e2; cases e2
      rw [hh, hb] at g2; cases g2
  unfold F23_b8
  refine br_of (fun gp => ?_) (fun gp => ?_)
  · have gp' : pos < bs.length := by
      have : (pos : Int) < (s.size : Int) := by simpa using gp
      omega
    unfold F23_k9
    refine newK_intro fun h6 hb6 x6 z6 => ?_
    refine storeK_whole (vs := zeroC Tryd.prog 54) hb6 zsize54 zsize54 (by rw [zero54]; exact refC_one _) fun h7 hb7 o7 => ?_
    have x57 : Ext h5 h7 := Keep.since x6 (o7.keep rfl : Keep (fun j => j = h5.size) h6 h7) fun j hj e => by omega
    rw [i64_lt ((s.size : Int) - pos) (by omega) (by omega)]
    refine br_of (fun gl => ?_) (fun gl => ?_)
    · have gl' : bs.length - pos < 33 := by
        have : (s.size : Int) - pos < 33 := by simpa using gl
        omega
      refine failD (x5.trans x57) (x57.blk hc5) (noD (ref_fail hrs gp' fun hh => ?_))
      have : bs.drop (pos + 32) = [] := List.drop_of_length_le (by omega)
      rw [this] at hh
      exact readVar_nil hh.2.1
    have gl' : 33 ≤ bs.length - pos := by
      have : ¬ (s.size : Int) - pos < 33 := by simpa using gl
      omega
    unfold F23_k10
    refine ⟨fun x hh => ∃ j : Nat, x = j ∧ j ≤ 32 ∧ hh[h5.size]? = some (.cells (refC (rowJ (bs.drop pos) j, 0)).toArray 54 (0, 0)) ∧ Ext h5 hh, fun x _ => ((32 : Int) - x).toNat, ⟨0, rfl, by omega, by rw [hb7, zero54]; simp [rowJ], x57⟩, ?_⟩
    rintro h8 _ ⟨j, rfl, hj, hb8, x8⟩
    have rl := rowJ_len (r := bs.drop pos) hj (by rw [List.length_drop]; omega)
    unfold F23_b11
    refine br_of (fun gj => ?_) (fun gj => ?_)
    · have hj' : j < 32 := by
        have : (j : Int) < 32 := by simpa using gj
        omega
      have ej : IntKind.i64.wrap ((j : Int) + 1) = ((j + 1 : Nat) : Int) := by rw [i64_lt _ (by omega) (by omega)]; omega
      have epj : IntKind.i64.wrap ((pos : Int) + (j : Int)) = ((pos + j : Nat) : Int) := by rw [i64_lt _ (by omega) (by omega)]; omega
      unfold F23_k12
      rw [ej, epj, hbt, Int.toNat_natCast, Nat.mul_one, add_at0, add_mk, Nat.zero_add]
      refine ⟨by omega, by omega, by omega, by omega, ?_⟩
      refine storeK_one hb8 (by rw [List.size_toArray, refC_len, rl]; omega) (.inr (Nat.zero_le _)) rfl fun h9 hb9 o9 => ?_
      have hx : (bs.drop pos)[j]? = some (bs.getD (pos + j) 0) := by
        rw [List.getElem?_drop, List.getD_eq_getElem?_getD, List.getElem?_eq_getElem (by omega)]; rfl
      refine ⟨⟨j + 1, rfl, by omega, ?_, Keep.since x8 (o9.keep rfl : Keep (fun j => j = h5.size) h8 h9) fun j hj e => by omega⟩, by show ((32 : Int) - ((j + 1 : Nat) : Int)).toNat < ((32 : Int) - (j : Int)).toNat; omega⟩
      rw [hb9, ← rowJ_set hj' hx]; simp
    obtain rfl : j = 32 := by
      have : ¬ (j : Int) < 32 := by simpa using gj
      omega
    rw [rowJ_32] at hb8 rl
    have e32 : IntKind.i64.wrap ((pos : Int) + 32) = ((pos + 32 : Nat) : Int) := by rw [i64_lt _ (by omega) (by omega)]; omega
    unfold F23_k13
    rw [e32, Int.toNat_natCast, Int.toNat_natCast, hcut, List.take_of_length_le (by rw [List.length_drop]; omega)]
    refine ⟨by omega, by omega, by omega, fun c90 b90 h9 hc9 n9 => ?_⟩
    have bd : ∀ y ∈ bs.drop (pos + 32), y < 256 := fun y hy => hB y (List.mem_of_mem_drop hy)
    have t9 := str_tab n9 hc9
    rw [lst_str _ bd] at t9
    have x9 : Ext h8 h9 := by obtain ⟨rfl, rfl⟩ := n9; exact Ext.push _ _
    refine HEnt.use (refReadVar_ok _ _ _ (bs.drop (pos + 32)) h9 t9 bd (by rw [str_size, List.length_drop]; omega)) ?_
    rintro _ h10 ⟨rfl, e10⟩
    subst e10
    have x59 : Ext h5 h10 := x8.trans x9
    have fail : ∀ {I : Int → Heap → Prop} {M : Int → Heap → Nat} {mm : Nat} (bb : Bool), bb = true → ¬ ((readVar (bs.drop (pos + 32))).2.2 = 0 ∧ (readVar (bs.drop (pos + 32))).1 ≤ 2147483647) → F23_k14 I M mm s (at0 h.size) (at0 h1.size) pos (at0 h5.size) ((readVar (bs.drop (pos + 32))).1 : Int) ((readVar (bs.drop (pos + 32))).2.1 : Int) bb h10 (DecS h bs) := fun {I M mm} bb hbb hn => by
      unfold F23_k14
      refine br_of (fun _ => failD (x5.trans x59) (x59.blk hc5) (noD (ref_fail hrs gp' fun hh => hn hh.2))) (fun e => by rw [hbb] at e; cases e)
    refine ⟨_, _, _, rfl, br_of (fun g => fail _ rfl ?_) (fun g => ?_)⟩
    · have : ((readVar (bs.drop (pos + 32))).2.2 : Int) ≠ 0 := by simpa using g
      intro hh; omega
    have g0 : (readVar (bs.drop (pos + 32))).2.2 = 0 := by
      have : ((readVar (bs.drop (pos + 32))).2.2 : Int) = 0 := by simpa using g
      omega
    by_cases hv : (readVar (bs.drop (pos + 32))).1 ≤ 2147483647
    rotate_left
    · exact fail _ (by simp; omega) (fun hh => hv hh.2)
    unfold F23_k14
    refine br_of (fun e => ?_) (fun _ => ?_)
    · have : ((readVar (bs.drop (pos + 32))).1 : Int) > 2147483647 := by simpa using e
      omega
    obtain ⟨d1, d2, d3⟩ := readVar_only bd g0
    rw [List.length_drop] at d3
    have hstep := ref_step hrs gp'
    generalize (readVar (bs.drop (pos + 32))).1 = v at *
    generalize (readVar (bs.drop (pos + 32))).2.1 = nn at *
    unfold F23_k15
    have hb10 := x9.blk hb8
    rw [add_at0]
    refine storeK_one hb10 (by rw [List.size_toArray, refC_len, rl]; omega) (.inr (Nat.zero_le _)) rfl fun h11 hb11 o11 => ?_
    rw [i64_lt (v : Int) (by omega) (by omega)] at hb11
    have hb11 : h11[h5.size]? = some (.cells (refC ((bs.drop pos).take 32, (v : Int))).toArray 54 (0, 0)) := by
      rw [hb11, ← row_last _ rl 0 (v : Int)]; simp
    have x511 : Ext h5 h11 := Keep.since x59 (o11.keep rfl : Keep (fun j => j = h5.size) h10 h11) fun j hj e => by omega
    have hb4' := x511.blk hb5
    have rcl : (refC ((bs.drop pos).take 32, (v : Int))).length = 33 := by rw [refC_len, rl]
    refine ⟨ar, k, cr, by rw [at_cell hb4']; rfl, (refC ((bs.drop pos).take 32, (v : Int))).toArray, by simpa using rcl, cells_blk0 hb11, by simpa using rcl, by decide, newK_intro fun h12 hb12 x12 z12 => ?_⟩
    have o12 : OwnR 54 33 h11 h12 (some ⟨h11.size, 0, none⟩) 1 1 [refC ((bs.drop pos).take 32, (v : Int))] := OwnR.new_ (rows := [refC ((bs.drop pos).take 32, (v : Int))]) (by simpa using hb12) x12 (Nat.le_refl _) (by intro q hq; simp at hq; subst hq; exact rcl) rfl
    refine appK_R cells54 (o5.grow (x511.trans x12)) o12.rows.src rfl (by intro q hq; simp at hq; subst hq; exact rcl) (by intro q hq; simp at hq; subst hq; exact refC_one _) (by rw [bytes54]; omega) zeroR54 fun a13 c13 h13 o13 k13 d13 => ?_
    have z5 := blk_lt hb5
    have zc5 := blk_lt hc5
    have z12' := (x511.trans x12).size
    have hb13 : h13[h1.size]? = some (.cells (manA ⟨str s1, str t, rs⟩ ar k cr) 24 (0, 0)) := k13.blk ((x511.trans x12).blk hb5) (by
      rintro (e | e)
      · exact bne hb5 o5 _ e rfl
      · omega)
    have hc13 : h13[h.size]? = some (.cells (manA e0 none 0 0) 24 (0, 0)) := k13.blk ((x511.trans x12).blk hc5) (by
      rintro (e | e)
      · exact bne hc5 o5 _ e rfl
      · omega)
    rw [add_at0]
    refine storeK_one hb13 (by simp [manA]) (.inr (Nat.zero_le _)) rfl fun h14 hb14 o14 => ?_
    have k14 : Keep (fun j => j = h1.size) h13 h14 := o14.keep rfl
    have er : rowsR (rs ++ [((bs.drop pos).take 32, (v : Int))]) = rowsR rs ++ [refC ((bs.drop pos).take 32, (v : Int))] := by simp [rowsR]
    rw [← er] at o13
    have epn : IntKind.i64.wrap (((pos + 32 : Nat) : Int) + (nn : Int)) = ((pos + 32 + nn : Nat) : Int) := by rw [i64_lt _ (by omega) (by omega)]; omega
    rw [e32, epn]
    refine ⟨⟨pos + 32 + nn, k + 1, rs ++ [((bs.drop pos).take 32, (v : Int))], a13, c13, rfl, by omega, by omega, ?_, hstep, o14.blk hc13 (by omega), hb14, o13.keep k14 (fun j hj e => by omega) (fun j e => bne hb13 o13 j e)⟩, by show (((bs.length + 1 : Nat) : Int) - ((pos + 32 + nn : Nat) : Int)).toNat < (((bs.length + 1 : Nat) : Int) - (pos : Int)).toNat; omega⟩
    intro r hr
    rcases List.mem_append.1 hr with hr | hr
    · exact hok r hr
    · simp only [List.mem_cons, List.not_mem_nil, or_false] at hr
      subst hr
      exact ⟨rl, fun y hy => hB y (List.mem_of_mem_drop (List.mem_of_mem_take hy)), by show (0 : Int) ≤ (v : Int); omega, by show (v : Int) ≤ _; omega⟩
  -- the guess is told over
  have gp' : bs.length ≤ pos := by
    have : ¬ (pos : Int) < (s.size : Int) := by simpa using gp
    omega
  have hbig : Big ⟨str s1, str t, rs⟩ := okR_big n1 n2 hok
  unfold F23_k16
  refine ⟨str s1, str t, ar, k, cr, by rw [at_cell hb5]; rfl, by rw [at_cell hb5]; rfl, by rw [at_cell hb5]; rfl, rfl, HEnt.use (refEncode_ok ⟨str s1, str t, rs⟩ ar k cr h5 o5.rows hbig (by omega)) ?_⟩
  rintro _ h6 ⟨rfl, x6⟩
  have only : ∀ {mm : ManV}, decC bs = some mm → mm = ⟨str s1, str t, rs⟩ := fun {mm} hd => by
    obtain ⟨g1, g2, n, g3⟩ := parts hd
    have g4 := ref_end hrs gp' g3
    obtain ⟨a, b, c⟩ := mm
    simp only at g1 g2 g4
    rw [g1, g2, g4]
  have hc6 := x6.blk hc5
  have hb6 := x6.blk hb5
  have fin : ∀ bb : Bool, (bb = true → decC bs = none) → (bb = false → decC bs = some ⟨str s1, str t, rs⟩) → F23_k17 (at0 h.size) (at0 h1.size) bb h6 (DecS h bs) := fun bb hbad hgood => by
    unfold F23_k17
    refine br_of (fun e => failD (x5.trans x6) hc6 (hbad e)) (fun e => ?_)
    unfold F23_k18
    refine ⟨str s1, str t, ar, k, cr, by rw [at_cell hb6]; rfl, by rw [at_cell hb6]; rfl, by rw [at_cell hb6]; rfl, rfl, ?_⟩
    refine storeK_whole (vs := manA ⟨str s1, str t, rs⟩ ar k cr) hc6 rfl rfl (man_one _ ar k cr) fun h7 hb7 o7 => ?_
    have k7 : Keep (fun j => j = h.size) h6 h7 := o7.keep rfl
    refine ⟨_, _, _, _, _, by rw [at_cell hb7]; rfl, by rw [at_cell hb7]; rfl, by rw [at_cell hb7]; rfl, rfl, Keep.since (x5.trans x6) k7 fun j hj e => by omega, ?_⟩
    rw [hgood e]
    exact ⟨ar, k, cr, rfl, ((o5.grow x6).keep k7 (fun j hj e => by omega) (fun j e => bne hc6 (o5.grow x6) j e)).rows⟩
  refine ⟨_, _, rfl, br_of (fun g => fin _ (fun _ => ?_) (fun e => by cases e)) (fun g => fin _ (fun e => ?_) (fun e => ?_))⟩
  · have g' : checkM ⟨str s1, str t, rs⟩ ≠ 0 := by simp at g; omega
    cases hd : decC bs with
    | none => rfl
    | some mm =>
      have h0 := (decC_only hd hB).2.2
      rw [only hd] at h0; exact absurd h0 g'
  · have g' : checkM ⟨str s1, str t, rs⟩ = 0 := by simp at g; omega
    rw [hseq, encS, if_pos g', lst_str _ (encodeM_lt (okM_check g' hbig))] at e
    have e' : ¬ encodeM ⟨str s1, str t, rs⟩ = bs := by simpa using e
    cases hd : decC bs with
    | none => rfl
    | some mm =>
      have h0 := (decC_only hd hB).1
      rw [only hd] at h0; exact absurd h0.symm e'
  · have g' : checkM ⟨str s1, str t, rs⟩ = 0 := by simp at g; omega
    rw [hseq, encS, if_pos g', lst_str _ (encodeM_lt (okM_check g' hbig))] at e
    have e' : encodeM ⟨str s1, str t, rs⟩ = bs := by simpa using e
    rw [← e']; exact decC_back g' hbig
end Go.Proofs.YtpnbbgcaaogpdaaDoor

namespace Go.Proofs.YtpnbbgcaaogpdaaDoor
open Go.Vc Go.Sha Go.Trail Go.RowKit Go.Man
set_option linter.unusedVariables false
set_option linter.unusedSimpArgs false
set_option maxRecDepth 20000
def decM (bs : List Nat) : ManV := match decC bs with
  | some m => m
  | none => e0
def decE (bs : List Nat) : Int := match decC bs with
  | some _ => 0
  | none => 5
theorem decS_open {h h' : Heap} {bs : List Nat} {v : Value} (d : DecS h bs v h') : Ext h h' ∧ ∃ a l c, v = .tuple #[.agg (manA (decM bs) a l c), .int .i64 (decE bs)] ∧ Tab 33 h' a l c (rowsR (decM bs).refs) := by
  obtain ⟨x, d⟩ := d
  refine ⟨x, ?_⟩
  unfold decM decE
  cases hd : decC bs with
  | some m =>
    rw [hd] at d
    obtain ⟨a, l, c, rfl, t⟩ := d
    exact ⟨a, l, c, rfl, t⟩
  | none =>
    rw [hd] at d
    exact ⟨none, 0, 0, d, Tab.empty _ _ _ _⟩
theorem decM_ok {bs : List Nat} (hb : ∀ y ∈ bs, y < 256) : (∀ r ∈ (decM bs).refs, r.1.length = 32) ∧ (decM bs).refs.length < 256 := by
  unfold decM
  cases hd : decC bs with
  | some m =>
    have := (decC_only hd hb).2.1
    exact ⟨fun r hr => (this.2.2.2 r hr).1, this.2.2.1⟩
  | none => simp [e0]
theorem codes_ok (m : ManV) (a : Option Addr) (l c : Nat) (a1 : Option Addr) (l1 c1 : Nat) (bs : List Nat) (h : Heap) (w : Tab 33 h a l c (rowsR m.refs)) (hb : Big m) (hl : l < 2 ^ 30) (w1 : Tab 1 h a1 l1 c1 (rows8 bs)) (h8 : ∀ x ∈ bs, x < 256) (hl1 : l1 < 2 ^ 38) (hm : MaxAt h) (hK : Sh.KAt h) :
    HEnt Tryd.prog 8 #[.agg (manA m a l c), .slice a1 l1 c1] h (yes h) := by
  have hlb : bs.length = l1 := by have := w1.len; rwa [rows8_len] at this
  have r32 : ∀ r ∈ m.refs, r.1.length = 32 := fun r hr => (hb.2.2 r hr).1
  refine F8_ent _ _ _ _ _ _ _ _ _ _ ?_
  unfold F8
  refine newK_intro fun h1 hb1 x1 _ => ⟨m.name, m.ver, a, l, c, by rw [at_cell hb1]; rfl, by rw [at_cell hb1]; rfl, by rw [at_cell hb1]; rfl, rfl, HEnt.use (own_ok m a l c h1 (w.grow x1) r32 hl) ?_⟩
  rintro _ h2 ⟨a2, c2, rfl, w2, x2⟩
  have x02 := x1.trans x2
  refine ⟨m.name, m.ver, a2, l, c2, rfl, HEnt.use (encode_ok m a2 l c2 h2 w2 hb (by omega)) ?_⟩
  rintro _ h3 ⟨a3, l3, c3, rfl, x3, hown, hnil⟩
  have x03 := x02.trans x3
  have hb3 := (x2.trans x3).blk hb1
  refine ⟨_, _, _, _, rfl, m.name, m.ver, a, l, c, by rw [at_cell hb3]; rfl, by rw [at_cell hb3]; rfl, by rw [at_cell hb3]; rfl, rfl, HEnt.use (refEncode_ok m a l c h3 (w.grow x03) hb (by omega)) ?_⟩
  rintro _ h4 ⟨rfl, x4⟩
  have x04 := x03.trans x4
  refine ⟨_, _, rfl, by decide, newK_intro fun h5 n5 x5 _ => ?_⟩
  have o5 : OwnAt 5 h4 h5 (some (at0 h4.size)) 0 0 (([] : List Nat).map u8) := OwnAt.new_ (cs := #[]) n5 x5 (Nat.le_refl _)
  have hsrc : srcK h5 1 (.slice a1 l1 c1) l1 (bs.map u8) := by
    have := (w1.grow (x04.trans x5)).src
    rw [rows8_flat] at this; exact this
  refine app5 (m := l1) (new := bs) o5 hsrc hlb (by omega) fun a6 c6 h6 o6 _ _ => ?_
  rw [Nat.zero_add, List.nil_append] at o6
  rw [Nat.zero_add]
  have x46 := o6.ext
  refine HEnt.use (decode_ok a6 l1 c6 bs h6 (own_tab8 o6) h8 (by omega)) ?_
  intro v7 h7 d7
  obtain ⟨x7, a7, l7, c7, rfl, t7⟩ := decS_open d7
  refine ⟨(decM bs).name, (decM bs).ver, a7, l7, c7, _, rfl, man_put (decM bs) a7 l7 c7 fun h8' hb8 x8 => ?_⟩
  have x48 := (x46.trans x7).trans x8
  have w18 := w1.grow (x04.trans x48)
  refine ⟨str bs, by rw [str_size, hlb], fun ad e => tab8_cells w18 h8 ad e, fun e => ?_, ?_⟩
  · have := w18.nil e
    have h0 : (rows8 bs).length = 0 := by rw [this]; rfl
    rw [rows8_len] at h0; omega
  refine HEnt.use (refDecode_ok (str bs) (by rw [str_size]; omega) h8') ?_
  rw [lst_str bs h8]
  intro v9 h9 d9
  obtain ⟨x9, a9, l9, c9, rfl, t9⟩ := decS_open d9
  refine ⟨(decM bs).name, (decM bs).ver, a9, l9, c9, _, rfl, man_put (decM bs) a9 l9 c9 fun h10 hb10 x10 => ?_⟩
  have x4_10 := (x48.trans x9).trans x10
  have x0_10 := x04.trans x4_10
  have hbm := (x4.trans x4_10).blk hb3
  refine ⟨m.name, m.ver, a, l, c, by rw [at_cell hbm]; rfl, by rw [at_cell hbm]; rfl, by rw [at_cell hbm]; rfl, rfl, HEnt.use (id_ok m a l c h10 (w.grow x0_10) hb (by omega) (hK.ext x0_10)) ?_⟩
  rintro _ h11 ⟨rfl, x11⟩
  refine ⟨((idC m).map u8).toArray, by simp [idC_len], _, rfl, dig_put (idC m) (idC_len m) fun h12 hb12 x12 => ?_⟩
  rw [zero48]
  have hput := @dig_put h12
  rw [zero48] at hput
  refine hput (List.replicate 32 0) (by simp) fun h13 hb13 x13 => ?_
  have x10_13 := (x11.trans x12).trans x13
  obtain ⟨hr32, hr256⟩ := decM_ok h8
  have l740 : l7 < 2 ^ 40 := by
    have := t7.len; rw [rowsR_len] at this; omega
  have k1 : ∀ {h'}, Ext h12 h' → h'[h12.size]? = some (.cells ((idC m).map u8).toArray 48 (0, 0)) → F8_k1 a3 l3 c3 (checkM m) (encS m) (checkM m) (at0 h7.size) (decE bs) (at0 h9.size) (decE bs) (at0 h11.size) (checkM m) (at0 h12.size) h' (yes h) := by
    intro h' x' hb15
    have x10' := (x11.trans x12).trans x'
    have x8' := (x9.trans x10).trans x10'
    have hb8' := x8'.blk hb8
    have hb10' := x10'.blk hb10
    have hb13' := x'.blk hb12
    have x0' := x0_10.trans x10'
    unfold F8_k1
    have sx : ∃ s57 : ByteArray, s57.size = l3 ∧ (∀ ad, a3 = some ad → CellsAt h' ad (bytesV s57)) ∧ (a3 = none → l3 = 0) ∧ seq s57 (encS m) = true := by
      by_cases hg : checkM m = 0
      · have o := (hown hg).grow (x4.trans (x4_10.trans x10'))
        obtain ⟨g1, g2, g3⟩ := own_str o (encodeM_lt (okM_check hg hb))
        refine ⟨_, g1, g2, g3, ?_⟩
        rw [encS, if_pos hg, seq_lst]; simp
      · obtain ⟨rfl, rfl, rfl⟩ := hnil hg
        refine ⟨⟨#[]⟩, rfl, by rintro ad ⟨⟩, fun _ => rfl, ?_⟩
        rw [encS, if_neg hg, seq_lst]; simp
    obtain ⟨s57, g1, g2, g3, g4⟩ := sx
    refine ⟨s57, g1, g2, g3, ?_⟩
    rw [g4]
    refine br_of (fun _ => br_of (fun _ => ?_) (fun hf => by simp at hf)) (fun hf => by cases hf)
    refine ⟨(decM bs).name, (decM bs).ver, a7, l7, c7, by rw [at_cell hb8']; rfl, by rw [at_cell hb8']; rfl, by rw [at_cell hb8']; rfl, rfl, (decM bs).name, (decM bs).ver, a9, l9, c9, by rw [at_cell hb10']; rfl, by rw [at_cell hb10']; rfl, by rw [at_cell hb10']; rfl, rfl,
      HEnt.use (same_ok (decM bs) (decM bs) a7 l7 c7 a9 l9 c9 h' (t7.grow (x8.trans x8')) (t9.grow (x10.trans x10')) hr32 hr32 l740) ?_⟩
    rintro _ h14 ⟨rfl, x14⟩
    rw [same_self]
    refine ⟨_, rfl, br_of (fun _ => br_of (fun _ => ?_) (fun hf => by simp at hf)) (fun hf => by cases hf)⟩
    refine ⟨((idC m).map u8).toArray, by simp [idC_len], cells_blk0 (x14.blk hb13'), ((idC m).map u8).toArray, by simp [idC_len], cells_blk0 (x14.blk hb15), decide (idC m = idC m), fun w => row_eq _ _ (idC_len _) (idC_len _) w, guard48, br_of (fun _ => br_of (fun _ => ?_) (fun hf => by simp at hf)) (fun hf => by simp at hf)⟩
    exact works_yes (x0'.trans x14) hm
  refine br_of (fun g => ?_) (fun g => ?_)
  · have g' : checkM m = 0 := by simp at g; omega
    have hes : encS m = str (encodeM m) := if_pos g'
    have hid : idC m = Sha.sum (encodeM m) := if_pos g'
    have hbb := encodeM_lt (okM_check g' hb)
    have hsh := encode_short g' hb
    intro cc bb h14 hcc n14
    have x14 : Ext h13 h14 := by obtain ⟨rfl, rfl⟩ := n14; exact Ext.push _ _
    have wt := str_tab n14 hcc
    have hle : lst (encS m) = encodeM m := by rw [hes, lst_str _ hbb]
    rw [hle] at wt
    have hin : Sh.In h14 (some (at0 bb)) (encS m).size cc (encodeM m) := by
      refine ⟨by rw [hes, str_size], hcc, hbb, fun ad e hne => ?_, by rintro ⟨⟩⟩
      cases e
      have hc := wt.cells _ rfl
      rw [rows8_flat] at hc
      obtain ⟨b', o', e', hlt', _⟩ := wt.at_ (fun e => hne (by
        have : (rows8 (encodeM m)).length = 0 := by rw [e]; rfl
        rw [rows8_len] at this; exact List.eq_nil_of_length_eq_zero this))
      cases e'
      exact ⟨bb, 0, rfl, hlt', hc⟩
    refine HEnt.use (Sh.refSum_ok _ _ _ (encodeM m) h14 h14 hin (Ext.refl _) (by omega)) ?_
    rintro _ h15 ⟨rfl, x15⟩
    refine ⟨((idC m).map u8).toArray, by simp [idC_len], by rw [hid]; rfl, ?_⟩
    refine storeK_whole (vs := ((idC m).map u8).toArray) ((x14.trans x15).blk hb13) (by simp [idC_len]) (by simp) (dig_one' _) fun h16 hb16 o16 => ?_
    exact k1 (Keep.since (x13.trans (x14.trans x15)) (o16.keep rfl : Keep (fun j => j = h12.size) h15 h16) fun j hj e => by omega) hb16
  · have g' : checkM m ≠ 0 := by simp at g; omega
    have hid : idC m = List.replicate 32 0 := if_neg g'
    exact k1 x13 (by rw [hid]; exact hb13)
end Go.Proofs.YtpnbbgcaaogpdaaDoor
