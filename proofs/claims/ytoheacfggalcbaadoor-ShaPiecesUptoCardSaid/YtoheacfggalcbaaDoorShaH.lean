/- Chapter 3: what the document's Read and Hex compute; the laws ShaHexes, ShaBack, ShaNested. -/
import Derived.Test.YtoheacfggalcbaaDoorShaG
namespace Go.Proofs.YtoheacfggalcbaaDoor
open Go.Vc Go.Sha
set_option linter.unusedVariables false

/-- the sign that is found last among the first j -/
def found (c : Nat) : Nat → Int
  | 0 => -1
  | j + 1 => if sg j = c then j else found c j
theorem found_val : ∀ c < 256, found c 16 = match val c with | some n => (n : Int) | none => -1 := by
  have : ∀ c : Fin 256, found c.1 16 = match val c.1 with | some n => (n : Int) | none => -1 := by decide +kernel
  exact fun c hc => this ⟨c, hc⟩

theorem refRead_ok (s : ByteArray) (h : Heap) : HEnt Tryd.prog 23 #[.string s] h fun v h' => v = .tuple #[.agg ((Sha.read (lst s)).1.map u8).toArray, .int .i64 (Sha.read (lst s)).2] ∧ Ext h h' := by
  refine F23_ent _ _ _ ?_
  unfold F23
  refine newK_intro fun h1 n1 x1 s1 => newK_intro fun h2 n2 x2 s2 => ?_
  have x02 := x1.trans x2
  rw [z24] at n1 n2
  have n1' := x2.blk n1
  have ll := lst_len s
  have bad : ∀ h3, h3[h.size]? = some (.cells ((List.replicate 32 0).map u8).toArray 24 (0, 0)) → Ext h h3 → ∀ D : List Nat, D.length = 32 → Sha.read (lst s) = (D, 5) → ∀ cs : Array Value, cs = (D.map u8).toArray →
      storeK 32 h3 (at0 h.size) (Value.agg cs) fun h4 => ∃ csr0 : Array Value, csr0.size = 32 ∧ CellsAt h4 (at0 h.size) csr0.toList ∧ (Value.tuple #[Value.agg csr0, Value.int .i64 5] = .tuple #[.agg ((Sha.read (lst s)).1.map u8).toArray, .int .i64 (Sha.read (lst s)).2] ∧ Ext h h4) := by
    rintro h3 n3 x3 D hD hr cs rfl
    refine storeK_whole n3 (by simp [hD]) (by simp) (by simp [u8, one]) fun h4 b4 o4 => ⟨_, by simp [hD], cells_blk0 b4, by rw [hr]; rfl, ?_⟩
    exact ⟨by rw [o4.size]; exact x3.size, fun i hi => (o4.block i (by omega)).trans (x3.block i hi)⟩
  refine br_of (fun ht => ?_) (fun hf => ?_)
  · refine ⟨_, by simp, cells_blk0 n2, bad h2 n1' x02 _ (by simp) (read_short ?_) _ rfl⟩
    intro e; rw [ll] at e; rw [e] at ht; simp at ht
  have hlen : s.size = 64 := by
    have : ¬ (s.size : Int) ≠ 64 := by simpa using hf
    omega
  unfold F23_k1
  rintro _ rfl
  refine ⟨fun x h' => ∃ k : Nat, x = k ∧ k ≤ 64 ∧ (∀ j < k, (val ((lst s).getD j 0)).isSome = true) ∧ h'[h1.size]? = some (.cells ((rd (lst s) k).map u8).toArray 24 (0, 0)) ∧ h'[h.size]? = some (.cells ((List.replicate 32 0).map u8).toArray 24 (0, 0)) ∧ Ext h h',
    fun x _ => (64 - x).toNat, ⟨0, rfl, by omega, (fun j hj => by omega), by rw [rd_zero]; exact n2, n1', x02⟩, ?_⟩
  rintro h3 _ ⟨k, rfl, hk, hok, hr, hz, hx⟩
  unfold F23_b2
  refine br_of (fun ht => ?_) (fun hf => ?_)
  · have hk64 : k < 64 := by
      have : (k : Int) < 64 := by simpa using ht
      omega
    unfold F23_k3
    rintro _ rfl
    have hc256 : (lst s).getD k 0 < 256 := getD_lt (lst_lt s) (by decide) k
    refine ⟨fun at_ x h' => ∃ j : Nat, x = j ∧ j ≤ 16 ∧ at_ = found ((lst s).getD k 0) j ∧ h' = h3, fun _ x _ => (16 - x).toNat, ⟨0, rfl, by omega, rfl, rfl⟩, ?_⟩
    rintro h4 _ _ ⟨j, rfl, hj, rfl, rfl⟩
    unfold F23_b4
    refine br_of (fun ht2 => ?_) (fun hf2 => ?_)
    · have hj16 : j < 16 := by
        have : (j : Int) < 16 := by simpa using ht2
        omega
      unfold F23_k5
      have es : ((⟨#[48, 49, 50, 51, 52, 53, 54, 55, 56, 57, 97, 98, 99, 100, 101, 102]⟩ : ByteArray).size : Int) = 16 := rfl
      have bs : bt (⟨#[48, 49, 50, 51, 52, 53, 54, 55, 56, 57, 97, 98, 99, 100, 101, 102]⟩ : ByteArray) (j : Int) = (sg j : Int) := bt_sg j hj16
      refine ⟨by omega, by rw [es]; omega, by omega, by omega, ?_⟩
      intro h5 hcl; obtain rfl := hcl.eq
      rw [bs, bt_lst]
      have e1 : IntKind.i64.wrap ((j : Int) + 1) = ((j + 1 : Nat) : Int) := by rw [i64_lt _ (by omega) (by omega)]; omega
      refine br_of (fun he => ?_) (fun he => ?_)
      · unfold F23_k6
        rintro _ rfl
        rw [e1]
        refine ⟨⟨j + 1, rfl, by omega, ?_, rfl⟩, by show (16 - ((j + 1 : Nat) : Int)).toNat < (16 - (j : Int)).toNat; omega⟩
        have : sg j = (lst s).getD k 0 := by
          have : (sg j : Int) = ((lst s).getD k 0 : Nat) := by simpa using he
          omega
        show (j : Int) = if _ then _ else _
        rw [if_pos this]
      · unfold F23_k6
        rintro _ rfl
        rw [e1]
        refine ⟨⟨j + 1, rfl, by omega, ?_, rfl⟩, by show (16 - ((j + 1 : Nat) : Int)).toNat < (16 - (j : Int)).toNat; omega⟩
        have : ¬ sg j = (lst s).getD k 0 := by
          have : ¬ (sg j : Int) = ((lst s).getD k 0 : Nat) := by simpa using he
          omega
        show found _ j = if _ then _ else _
        rw [if_neg this]
    · have hj16 : j = 16 := by
        have : ¬ (j : Int) < 16 := by simpa using hf2
        omega
      subst hj16
      rw [found_val _ hc256]
      unfold F23_k7
      cases hv : val ((lst s).getD k 0) with
      | none =>
        refine br_of (fun _ => ?_) (fun hb => by simp at hb)
        exact bad h4 hz hx _ (by simp) (read_bad hk64 hv) _ z24
      | some n =>
        have hn := val_lt hv
        refine br_of (fun hb => ?_) (fun _ => ?_)
        · have : (n : Int) < 0 := by simpa using hb
          omega
        unfold F23_k8
        obtain ⟨g1, g2⟩ := rd_set (lst s) k hk64
        have hvd : vd (lst s) k = n := by unfold vd; rw [hv]; rfl
        rw [half k hk64, Int.toNat_natCast, Nat.mul_one, at0_mk, add_mk, Nat.zero_add]
        refine ⟨by decide, by decide, by omega, by omega, ((rd (lst s) k).getD (k / 2) 0 : Nat), ?_, by omega, by omega, ?_⟩
        · rw [cell_blk hr, List.getElem?_toArray]; exact get_map u8 (by rw [rd_len]; omega)
        have ew : IntKind.u8.wrap (IntKind.u8.wrap ((((rd (lst s) k).getD (k / 2) 0 : Nat) : Int) * 16) + IntKind.u8.wrap (n : Int)) = (((rd (lst s) k).getD (k / 2) 0 * 16 + n : Nat) : Int) := by
          generalize (rd (lst s) k).getD (k / 2) 0 = g at *
          rw [show ((g : Int) * 16) = ((g * 16 : Nat) : Int) by omega, wrap8 _ (by omega), wrap8 _ (by omega), ← Int.natCast_add, wrap8 _ (by omega)]
        show storeK 1 h4 _ (Value.int .u8 (IntKind.u8.wrap (IntKind.u8.wrap ((((rd (lst s) k).getD (k / 2) 0 : Nat) : Int) * 16) + IntKind.u8.wrap (n : Int)))) _
        rw [ew]
        refine storeK_one hr (by simp [rd_len]; omega) (.inr (Nat.zero_le _)) rfl fun h5 b5 o5 => ?_
        unfold F23_k9
        rintro _ rfl
        have e1 : IntKind.i64.wrap ((k : Int) + 1) = ((k + 1 : Nat) : Int) := by rw [i64_lt _ (by omega) (by omega)]; omega
        rw [e1]
        refine ⟨⟨k + 1, rfl, by omega, ?_, ?_, o5.blk hz (by omega), ?_⟩, by show (64 - ((k + 1 : Nat) : Int)).toNat < (64 - (k : Int)).toNat; omega⟩
        · intro i hi
          by_cases e : i = k
          · subst e; rw [hv]; rfl
          · exact hok i (by omega)
        · rw [b5, List.setIfInBounds_toArray, ← g2, hvd, List.map_set]; rfl
        · exact ⟨by rw [o5.size]; exact hx.size, fun i hi => (o5.block i (by omega)).trans (hx.block i hi)⟩
  · have hk64 : k = 64 := by
      have : ¬ (k : Int) < 64 := by simpa using hf
      omega
    subst hk64
    unfold F23_k10
    refine ⟨_, by simp [rd_len], cells_blk0 hr, storeK_whole hz (by simp [rd_len]) (by simp) (by simp [u8, one]) fun h4 b4 o4 => ⟨_, by simp [rd_len], cells_blk0 b4, by rw [read_good (by omega) hok]; rfl, ?_⟩⟩
    exact ⟨by rw [o4.size]; exact hx.size, fun i hi => (o4.block i (by omega)).trans (hx.block i hi)⟩

theorem cut_sg (n : Nat) (hn : n < 16) : (⟨#[48, 49, 50, 51, 52, 53, 54, 55, 56, 57, 97, 98, 99, 100, 101, 102]⟩ : ByteArray).extract n (n + 1) = str [sg n] := by
  have : ∀ n : Fin 16, ((⟨#[48, 49, 50, 51, 52, 53, 54, 55, 56, 57, 97, 98, 99, 100, 101, 102]⟩ : ByteArray).extract n.1 (n.1 + 1)).data = (str [sg n.1]).data := by decide +kernel
  have := this ⟨n, hn⟩
  exact ByteArray.ext this
theorem str_append (l m : List Nat) : str l ++ str m = str (l ++ m) := by
  apply ByteArray.ext
  simp [str, ByteArray.data_append]

theorem refHex_ok (D : List Nat) (hl : D.length = 32) (hD : ∀ x ∈ D, x < 256) (h : Heap) :
    HEnt Tryd.prog 24 #[.agg (D.map u8).toArray] h fun v h' => v = .string (str (Sha.hex D)) ∧ Ext h h' := by
  refine F24_ent _ _ _ ?_
  unfold F24
  refine newK_intro fun h1 n1 x1 s1 => ?_
  rintro _ rfl _ rfl
  refine ⟨fun s x h' => ∃ k : Nat, x = k ∧ k ≤ 32 ∧ s = str (Sha.hex (D.take k)) ∧ h' = h1, fun _ x _ => (32 - x).toNat, ⟨0, rfl, by omega, rfl, rfl⟩, ?_⟩
  rintro h2 _ _ ⟨k, rfl, hk, rfl, rfl⟩
  unfold F24_b1
  refine br_of (fun ht => ?_) (fun hf => ?_)
  · have hk32 : k < 32 := by
      have : (k : Int) < 32 := by simpa using ht
      omega
    unfold F24_k2
    have hx : D.getD k 0 < 256 := getD_lt hD (by decide) k
    have cell : Vc.cell h2 ((at0 h.size).add ((k : Int).toNat * 1)) = some (.int .u8 (D.getD k 0 : Nat)) := by
      rw [Int.toNat_natCast, Nat.mul_one, at0_mk, add_mk, Nat.zero_add, cell_blk n1, List.getElem?_toArray]; exact get_map u8 (by omega)
    have et : D.take (k + 1) = D.take k ++ [D.getD k 0] := by
      rw [List.take_succ_eq_append_getElem (by omega), List.getD_eq_getElem?_getD, List.getElem?_eq_getElem (by omega)]; rfl
    refine ⟨by omega, by omega, _, cell, by decide, by omega, by omega, _, cell, by decide, ?_⟩
    generalize D.getD k 0 = x at *
    have e5 : IntKind.i64.wrap ((IntKind.i64.wrap (x : Int)).tdiv 16) = ((x / 16 : Nat) : Int) := by
      rw [i64_lt (x : Int) (by omega) (by omega), Int.tdiv_eq_ediv_of_nonneg (by omega), i64_lt _ (by omega) (by omega)]; omega
    have e6 : (IntKind.i64.wrap (x : Int)).tmod 16 = ((x % 16 : Nat) : Int) := by
      rw [i64_lt (x : Int) (by omega) (by omega), Int.tmod_eq_emod_of_nonneg (by omega)]; omega
    rintro _ rfl _ rfl
    intro h3 hcl; obtain rfl := hcl.eq
    have w5 : IntKind.i64.wrap (((x / 16 : Nat) : Int) + 1) = ((x / 16 + 1 : Nat) : Int) := by rw [i64_lt _ (by omega) (by omega)]; omega
    have w6 : IntKind.i64.wrap (((x % 16 : Nat) : Int) + 1) = ((x % 16 + 1 : Nat) : Int) := by rw [i64_lt _ (by omega) (by omega)]; omega
    have es : ((⟨#[48, 49, 50, 51, 52, 53, 54, 55, 56, 57, 97, 98, 99, 100, 101, 102]⟩ : ByteArray).size : Int) = 16 := rfl
    rw [e5, e6, w5, w6, Int.toNat_natCast, Int.toNat_natCast, Int.toNat_natCast, Int.toNat_natCast, cut_sg _ (by omega), cut_sg _ (by omega), str_append, str_append, es]
    have hhl := hex_len (D.take k)
    rw [List.length_take, Nat.min_eq_left (by omega)] at hhl
    refine ⟨by omega, by omega, by omega, by rw [str_size, str_size, hhl]; simp; omega, by omega, by omega, by omega, by rw [str_size, str_size, List.length_append, hhl]; simp; omega, ?_⟩
    rintro _ rfl
    intro h4 hcl; obtain rfl := hcl.eq
    rintro _ rfl
    have e1 : IntKind.i64.wrap ((k : Int) + 1) = ((k + 1 : Nat) : Int) := by rw [i64_lt _ (by omega) (by omega)]; omega
    rw [e1]
    refine ⟨⟨k + 1, rfl, by omega, ?_, rfl⟩, by show (32 - ((k + 1 : Nat) : Int)).toNat < (32 - (k : Int)).toNat; omega⟩
    rw [et, hex_snoc, List.append_assoc]; rfl
  · have hk32 : k = 32 := by
      have : ¬ (k : Int) < 32 := by simpa using hf
      omega
    subst hk32
    unfold F24_k3
    rw [List.take_of_length_le (by omega)]
    exact ⟨rfl, x1⟩

theorem hexes_ok (D : List Nat) (hl : D.length = 32) (hD : ∀ x ∈ D, x < 256) (s : ByteArray) (h : Heap) (hK : KAt h) :
    HEnt Tryd.prog 9 #[.agg (D.map u8).toArray, .string s] h fun v h' => v = .bool true ∧ Ext h h' := by
  refine F9_ent _ _ _ _ ?_
  unfold F9
  have rl := read_len (lst s)
  have z32 : (zeroC Tryd.prog 24).size = 32 := by rw [z24]; rfl
  refine newK_intro fun h1 n1 x1 s1 => HEnt.use (read_ok s h1) ?_
  rintro _ h2 ⟨rfl, x2⟩
  refine ⟨_, by simp [rl], _, rfl, newK_intro fun h3 n3 x3 s3 => storeK_whole n3 (by simp [rl]) z32 (by simp [u8, one]) fun h4 b4 o4 => ?_⟩
  have k4 : Keep (· = h2.size) h2 h4 := (x3.keep _).trans (o4.keep rfl)
  have x4 : Ext h2 h4 := k4.ext fun i hi e => by omega
  refine HEnt.use (refRead_ok s h4) ?_
  rintro _ h5 ⟨rfl, x5⟩
  refine ⟨_, by simp [rl], _, rfl, newK_intro fun h6 n6 x6 s6 => storeK_whole n6 (by simp [rl]) z32 (by simp [u8, one]) fun h7 b7 o7 => ?_⟩
  have k7 : Keep (· = h5.size) h5 h7 := (x6.keep _).trans (o7.keep rfl)
  have x7 : Ext h5 h7 := k7.ext fun i hi e => by omega
  have x17 : Ext h1 h7 := x2.trans (x4.trans (x5.trans x7))
  have x07 := x1.trans x17
  have d7 := x17.blk n1
  have r7 := (x5.trans x7).blk b4
  refine ⟨_, by simp [hl], cells_blk0 d7, _, fun h8 _ => hex_ok D hl hD h8, _, by simp [hl], cells_blk0 d7, _, fun h8 _ => refHex_ok D hl hD h8, br_of (fun _ => ?_) (fun hb => by rw [seq_self] at hb; cases hb)⟩
  refine ⟨_, by simp [rl], cells_blk0 r7, _, by simp [rl], cells_blk0 b7, true, fun w => by rw [eq_dig _ _ rl rl]; simp, guard24, br_of (fun _ => ?_) (fun hb => by simp at hb)⟩
  refine br_of (fun _ => ?_) (fun hb => by simp at hb)
  exact ⟨true, fun h8 x8 => works_ok h8 ((hK.ext x07).ext x8), fun h8 x8 => ⟨rfl, x07.trans x8⟩⟩

theorem back_ok (D : List Nat) (hl : D.length = 32) (hD : ∀ x ∈ D, x < 256) (s : ByteArray) (h : Heap) (hK : KAt h) :
    HEnt Tryd.prog 10 #[.agg (D.map u8).toArray, .string s] h fun v h' => v = .bool true ∧ Ext h h' := by
  refine F10_ent _ _ _ _ ?_
  unfold F10
  have rl := read_len
  have z32 : (zeroC Tryd.prog 24).size = 32 := by rw [z24]; rfl
  have hh : lst (str (Sha.hex D)) = Sha.hex D := lst_str _ (hex_lt D)
  have hl64 : (Sha.hex D).length = 64 := by rw [hex_len, hl]
  have hsz : (str (Sha.hex D)).size = 64 := by rw [str_size, hl64]
  refine newK_intro fun h1 n1 x1 s1 => ⟨_, by simp [hl], cells_blk0 n1, HEnt.use (hex_ok D hl hD h1) ?_⟩
  rintro _ h2 ⟨rfl, x2⟩
  refine ⟨_, rfl, HEnt.use (read_ok _ h2) ?_⟩
  rw [hh, read_hex D hl hD]
  rintro _ h3 ⟨rfl, x3⟩
  refine ⟨_, by simp [hl], _, rfl, newK_intro fun h4 n4 x4 s4 => storeK_whole n4 (by simp [hl]) z32 (by simp [u8, one]) fun h5 b5 o5 => ?_⟩
  have k5 : Keep (· = h3.size) h3 h5 := (x4.keep _).trans (o5.keep rfl)
  have x5 : Ext h3 h5 := k5.ext fun i hi e => by omega
  have e48 : lst (str (Sha.hex D) ++ (⟨#[48]⟩ : ByteArray)) = Sha.hex D ++ [48] := by rw [lst_append, hh]; rfl
  refine ⟨by rw [hsz]; decide, HEnt.use (read_ok _ h5) ?_⟩
  rw [e48, read_short (l := Sha.hex D ++ [48]) (by rw [List.length_append, hl64]; decide)]
  rintro _ h6 ⟨rfl, x6⟩
  refine ⟨_, by simp, _, rfl, newK_intro fun h7 n7 x7 s7 => storeK_whole n7 (by simp) z32 (by simp [u8, one]) fun h8 b8 o8 => ?_⟩
  have k8 : Keep (· = h6.size) h6 h8 := (x7.keep _).trans (o8.keep rfl)
  have x8 : Ext h6 h8 := k8.ext fun i hi e => by omega
  have em : minI ((str (Sha.hex D)).size : Int) 63 = 63 := by rw [hsz]; rfl
  rw [em]
  refine ⟨by omega, by omega, by rw [hsz]; omega, HEnt.use (read_ok _ h8) ?_⟩
  have e63 : lst ((str (Sha.hex D)).extract 0 ((63 : Int).toNat)) = (Sha.hex D).take 63 := by rw [lst_extract, hh]; rfl
  rw [e63, read_short (l := (Sha.hex D).take 63) (by rw [List.length_take, hl64]; decide)]
  rintro _ h9 ⟨rfl, x9⟩
  refine ⟨_, by simp, _, rfl, newK_intro fun h10 n10 x10 s10 => storeK_whole n10 (by simp) z32 (by simp [u8, one]) fun h11 b11 o11 => ?_⟩
  have k11 : Keep (· = h9.size) h9 h11 := (x10.keep _).trans (o11.keep rfl)
  have x11 : Ext h9 h11 := k11.ext fun i hi e => by omega
  have x511 : Ext h5 h11 := x6.trans (x8.trans (x9.trans x11))
  have x111 : Ext h1 h11 := x2.trans (x3.trans (x5.trans x511))
  have x011 := x1.trans x111
  refine br_of (fun hb => by rw [hsz] at hb; simp at hb) (fun _ => ?_)
  refine ⟨_, by simp [hl], cells_blk0 (x511.blk b5), _, by simp [hl], cells_blk0 (x111.blk n1), true, fun w => by rw [eq_dig _ _ hl hl]; simp, guard24, br_of (fun hb => by simp at hb) (fun _ => ?_)⟩
  refine br_of (fun hb => by simp at hb) (fun _ => br_of (fun hb => by simp at hb) (fun _ => ?_))
  unfold F10_k1
  refine br_of (fun hb => by simp at hb) (fun _ => ?_)
  unfold F10_k2
  refine HEnt.use (read_ok s h11) ?_
  rintro _ h12 ⟨rfl, x12⟩
  refine ⟨_, by simp [rl], _, rfl, newK_intro fun h13 n13 x13 s13 => storeK_whole n13 (by simp [rl]) z32 (by simp [u8, one]) fun h14 b14 o14 => ?_⟩
  have k14 : Keep (· = h12.size) h12 h14 := (x13.keep _).trans (o14.keep rfl)
  have x14 : Ext h12 h14 := k14.ext fun i hi e => by omega
  have x014 : Ext h h14 := x011.trans (x12.trans x14)
  have fin : ∀ h', Ext h h' → HCalls Tryd.prog 13 #[] h' fun r h5 => ∃ b : Bool, r = Value.bool b ∧ (Value.bool b = .bool true ∧ Ext h h5) := fun h' x' => by
    refine HEnt.use (works_ok h' (hK.ext x')) ?_
    rintro _ h'' ⟨rfl, x''⟩
    exact ⟨true, rfl, rfl, x'.trans x''⟩
  refine br_of (fun h0 => ?_) (fun h0 => ?_)
  · have h0' : (Sha.read (lst s)).2 = 0 := by
      have : ((Sha.read (lst s)).2 : Int) = 0 := by simpa using h0
      omega
    refine ⟨_, by simp [rl], cells_blk0 b14, HEnt.use (hex_ok _ (rl _) (read_lt _) h14) ?_⟩
    rintro _ h15 ⟨rfl, x15⟩
    refine ⟨_, rfl, ?_⟩
    rw [hex_read _ h0', str_lst]
    exact br_of (fun _ => fin h15 (x014.trans x15)) (fun hb => by rw [seq_self] at hb; cases hb)
  · have h0' : ¬ (Sha.read (lst s)).2 = 0 := by
      have : ¬ ((Sha.read (lst s)).2 : Int) = 0 := by simpa using h0
      omega
    have h5 : Sha.read (lst s) = (List.replicate 32 0, 5) := (read_two (lst s)).resolve_left h0'
    rw [h5] at b14 ⊢
    refine br_of (fun _ => ?_) (fun hb => by simp at hb)
    exact ⟨_, by simp, cells_blk0 b14, true, fun w => by rw [z24, eq_dig _ _ (by simp) (by simp)]; simp, guard24, br_of (fun _ => fin h14 x014) (fun hb => by simp at hb)⟩
end Go.Proofs.YtoheacfggalcbaaDoor
