import Derived.Test.YtnahhdkekchmfaaDoorLayD

namespace Go.Proofs.YtnahhdkekchmfaaDoor
open Go.Vc Go.Sha Go.Trail Go.Lay
set_option linter.unusedVariables false
def u8 (n : Nat) : Value := .int .u8 n
theorem u8_one (bs : List Nat) : ∀ u ∈ bs.map u8, one u = true := by
  intro u hu
  obtain ⟨n, _, rfl⟩ := List.mem_map.1 hu
  rfl
theorem bytesV_lst (s : ByteArray) : bytesV s = (lst s).map u8 := by
  have := bytesV_str (lst s) (lst_lt s)
  rw [str_lst] at this; exact this
theorem cells5 : Tryd.prog.cellsOf 5 = 1 := by kernel_rfl
theorem zero5 : (((Tryd.prog.info? 5).bind (·.zero)).getD undef).cells.size = 1 := by kernel_rfl
theorem bytes5 : Tryd.prog.bytesOf 5 = 1 := by kernel_rfl
/-- an append to a slice of one's own, what it keeps told sharply -/
theorem app5 {h0 h : Heap} {l c m : Nat} {a : Option Addr} {x : Value} {bs new : List Nat} {K : Option Addr → Nat → Nat → Heap → Prop}
    (o : OwnAt 5 h0 h a l c (bs.map u8)) (src : srcK h 1 x m (new.map u8)) (hnew : new.length = m) (room : l + m < 2 ^ 40)
    (hK : ∀ a' c' h', OwnAt 5 h0 h' a' (l + m) c' ((bs ++ new).map u8) → Keep (fun k => a = some ⟨k, 0, none⟩ ∨ h.size ≤ k) h h' → (∀ k, a' = some ⟨k, 0, none⟩ → a = some ⟨k, 0, none⟩ ∨ h.size ≤ k) → K a' (l + m) c' h') : appK Tryd.prog 5 h a l c x K := by
  refine appK_ownN cells5 zero5 o.own src (by rw [List.length_map, hnew]) (u8_one _) (by rw [bytes5]; omega) fun a' c' h' o' k' d' => hK a' c' h' ⟨by rw [List.map_append]; exact o', fun k e => ?_, ?_⟩ k' d'
  · rcases d' k e with e | e
    · exact o.new k e
    · have := o.ext.size; omega
  · have : Keep (h0.size ≤ ·) h0 h' := (o.ext.keep _).trans (k'.mono fun i _ e => by
      rcases e with e | e
      · exact o.new _ e
      · have := o.ext.size; omega)
    exact this.ext fun i hi e => by omega
/-- an append that must move -/
theorem app5_grow {h0 h : Heap} {l c m : Nat} {a : Option Addr} {x : Value} {bs new : List Nat} {K : Option Addr → Nat → Nat → Heap → Prop}
    (hx : Ext h0 h) (hl : bs.length = l) (hc : ∀ ad, a = some ad → CellsAt h ad (bs.map u8)) (hn : a = none → bs = []) (src : srcK h 1 x m (new.map u8)) (hnew : new.length = m) (hgt : c < l + m) (room : l + m < 2 ^ 40)
    (hK : ∀ a' c' h', OwnAt 5 h0 h' a' (l + m) c' ((bs ++ new).map u8) → Ext h h' → K a' (l + m) c' h') : appK Tryd.prog 5 h a l c x K := by
  refine ⟨m, new.map u8, by rw [cells5]; exact src, fun hle => by omega, fun _ => ⟨bs.map u8, by rw [cells5, List.length_map]; omega, hc, fun e => by rw [hn e]; rfl, growslice_fits hgt (by rw [bytes5]; omega), ?_⟩⟩
  rintro c' b' h' hc' ⟨rfl, rfl⟩
  refine hK _ _ _ ⟨.inr ⟨by simp; omega, hc', h.size, _, rfl, Nat.zero_le _, Array.getElem?_push_size, ?_, ?_⟩, fun k e => by cases e; exact hx.size, hx.trans (Ext.push _ _)⟩ (Ext.push _ _)
  · simp [Builtin.zeroCells, zero5, hnew, hl]; omega
  · simp only [Array.toList_append, List.map_append]
    rw [List.take_append_of_le_length (by simp [hnew, hl]), List.take_of_length_le (by simp [hnew, hl])]

/-- a number by sevens of bits -/
def varF : Nat → Nat → List Nat
  | 0, n => [n]
  | f + 1, n => if n < 128 then [n] else (n % 128 + 128) :: varF f (n / 128)
def varB (n : Nat) : List Nat := varF 10 n
theorem varF_len : ∀ f n, (varF f n).length ≤ f + 1
  | 0, n => by simp [varF]
  | f + 1, n => by
    unfold varF
    split
    · simp
    · have := varF_len f (n / 128)
      simp only [List.length_cons]; omega
theorem varF_pos : ∀ f n, 0 < (varF f n).length
  | 0, n => by simp [varF]
  | f + 1, n => by
    unfold varF
    split <;> simp
theorem or128 : ∀ m : Nat, m < 256 → m ||| 128 = m % 128 + 128 := by decide +kernel
theorem orI128 (m : Nat) : orI .u8 (IntKind.u8.wrap (m : Int)) 128 = ((m % 128 + 128 : Nat) : Int) := by
  rw [u8_wrap]
  have h2 : m % 256 ||| 128 = m % 128 + 128 := by rw [or128 _ (Nat.mod_lt _ (by decide))]; omega
  have e : (BitVec.ofInt 8 ((m % 256 : Nat) : Int) ||| BitVec.ofInt 8 (128 : Int)).toNat = m % 256 ||| 128 := by
    rw [BitVec.ofInt_natCast, BitVec.toNat_or, BitVec.toNat_ofNat, Nat.mod_eq_of_lt (show m % 256 < 2 ^ 8 by omega)]
    rfl
  show IntKind.u8.wrap ((BitVec.ofInt 8 ((m % 256 : Nat) : Int) ||| BitVec.ofInt 8 (128 : Int)).toNat : Int) = _
  rw [e, h2, u8_wrap, Nat.mod_eq_of_lt (by omega)]
theorem shr7 (m : Nat) : shrI .u64 (m : Int) 7 = ((m / 128 : Nat) : Int) := by
  unfold shrI
  rw [show min ((7 : Int).toNat) IntKind.u64.bits = 7 from rfl]
  rw [Int.fdiv_eq_ediv_of_nonneg _ (by decide)]
  simp
theorem var_ok (n : Nat) (hn : n < 2 ^ 64) (h : Heap) : HEnt Tryd.prog 35 #[.int .u64 n] h fun v h' => ∃ a c, v = .slice a (varB n).length c ∧ OwnAt 5 h h' a (varB n).length c ((varB n).map u8) := by
  refine F35_ent _ _ _ ?_
  unfold F35
  refine ⟨fun x a l c hh => ∃ (f m : Nat) (bs : List Nat), x = m ∧ 1 ≤ f ∧ f ≤ 10 ∧ m < 128 ^ f ∧ bs.length = 10 - f ∧ bs ++ varF f m = varB n ∧ OwnAt 5 h hh a l c (bs.map u8), fun x _ _ _ _ => x.toNat, ⟨10, n, [], rfl, by omega, by omega, Nat.lt_of_lt_of_le hn (by decide), rfl, rfl, OwnAt.nil 5 (Ext.refl h)⟩, ?_⟩
  rintro h1 _ a l c ⟨f, m, bs, rfl, hf, hf2, hm, hbl, hb, o⟩
  have hol := o.len
  rw [List.length_map] at hol
  obtain ⟨f, rfl⟩ : ∃ g, f = g + 1 := ⟨f - 1, by omega⟩
  unfold F35_b1
  refine br_of (fun g => ?_) (fun g => ?_)
  · have hm' : 128 ≤ m := by simp at g; omega
    have hf' : 1 ≤ f := by
      refine Nat.pos_of_ne_zero fun e => ?_
      subst e; simp at hm; omega
    unfold F35_k2
    refine ⟨by decide, newK_intro fun h2 n2 x2 _ => ?_⟩
    rw [orI128] at n2
    refine app5 (m := 1) (new := [m % 128 + 128]) (o.grow x2) (srcK_slice rfl (fun ad e => by cases e; exact cells_blk0 n2) (by rintro ⟨⟩)) rfl (by omega) fun a' c' h3 o3 _ _ => ⟨by decide, ?_⟩
    rintro _ rfl
    rw [shr7]
    refine ⟨⟨f, m / 128, bs ++ [m % 128 + 128], rfl, hf', by omega, ?_, by simp; omega, ?_, o3⟩, by show ((m / 128 : Nat) : Int).toNat < (m : Int).toNat; omega⟩
    · rw [Nat.pow_succ] at hm; omega
    · rw [← hb]
      conv => rhs; unfold varF
      rw [if_neg (by omega)]
      simp
  · have hm' : m < 128 := by simp at g; omega
    unfold F35_k3
    refine ⟨by decide, newK_intro fun h2 n2 x2 _ => ?_⟩
    rw [u8_wrap, Nat.mod_eq_of_lt (by omega)] at n2
    refine app5 (m := 1) (new := [m]) (o.grow x2) (srcK_slice rfl (fun ad e => by cases e; exact cells_blk0 n2) (by rintro ⟨⟩)) rfl (by omega) fun a' c' h3 o3 _ _ => ?_
    have e : varB n = bs ++ [m] := by
      rw [← hb]
      conv => lhs; unfold varF
      rw [if_pos hm']
    have e2 : (varB n).length = l + 1 := by rw [e]; simp; omega
    exact ⟨a', c', by rw [e2], by rw [e2, e]; exact o3⟩
/-- a text with its length ahead -/
def textB (s : ByteArray) : List Nat := varB s.size ++ lst s
theorem textB_len (s : ByteArray) : (textB s).length ≤ s.size + 11 := by
  have := varF_len 10 s.size
  have := lst_len s
  unfold textB varB
  rw [List.length_append]; omega
theorem text_ok {h0 : Heap} (a : Option Addr) (l c : Nat) (bs : List Nat) (s : ByteArray) (h : Heap) (o : OwnAt 5 h0 h a l c (bs.map u8)) (hs : s.size < 2 ^ 30) (hl : l < 2 ^ 38) :
    HEnt Tryd.prog 36 #[.slice a l c, .string s] h fun v h' => ∃ a' c', v = .slice a' (l + (textB s).length) c' ∧ OwnAt 5 h0 h' a' (l + (textB s).length) c' ((bs ++ textB s).map u8) ∧
      Keep (fun k => a = some ⟨k, 0, none⟩ ∨ h.size ≤ k) h h' ∧ (∀ k, a' = some ⟨k, 0, none⟩ → a = some ⟨k, 0, none⟩ ∨ h.size ≤ k) := by
  have ht := textB_len s
  have htl : (textB s).length = (varB s.size).length + s.size := by unfold textB; rw [List.length_append, lst_len]
  refine F36_ent _ _ _ _ _ _ ?_
  unfold F36
  rw [u64_lt _ (by omega) (by omega)]
  refine HEnt.use (var_ok s.size (by omega) h) ?_
  rintro _ h1 ⟨a1, c1, rfl, o1⟩
  refine ⟨_, _, _, rfl, ?_⟩
  refine app5 (o.grow o1.ext) (o1.src) (by rfl) (by omega) fun a2 c2 h2 o2 k2 d2 => ?_
  have hxs := o1.ext.size
  refine app5 (m := s.size) (new := lst s) o2 ⟨rfl, (bytesV_lst s).symm⟩ (lst_len s) (by omega) fun a3 c3 h3 o3 k3 d3 => ?_
  refine ⟨a3, c3, ?_, ?_, ?_, fun k e => ?_⟩
  · rw [htl, Nat.add_assoc]
  · rw [htl, ← Nat.add_assoc]; unfold textB; rw [← List.append_assoc]; exact o3
  · refine ((o1.ext.keep _).trans (k2.mono fun k _ e => ?_)).trans (k3.mono fun k _ e => ?_)
    · rcases e with e | e
      · exact .inl e
      · exact .inr (by omega)
    · rcases e with e | e
      · rcases d2 k e with e | e
        · exact .inl e
        · exact .inr (by omega)
      · have := k2.size
        exact .inr (by omega)
  · rcases d3 k e with e | e
    · rcases d2 k e with e | e
      · exact .inl e
      · exact .inr (by omega)
    · have := k2.size
      exact .inr (by omega)
end Go.Proofs.YtnahhdkekchmfaaDoor

namespace Go.Proofs.YtnahhdkekchmfaaDoor
open Go.Vc Go.Sha Go.Trail Go.Lay
set_option linter.unusedVariables false
theorem own_lt {el : TypeId} {h0 h : Heap} {a : Option Addr} {l c : Nat} {vs : List Value} (o : OwnAt el h0 h a l c vs) : ∀ k, a = some ⟨k, 0, none⟩ → k < h.size := by
  intro k e
  rcases o.own with ⟨e2, _⟩ | ⟨_, _, b, cs, e2, _, h4, _⟩
  · rw [e] at e2; cases e2
  · rw [e] at e2; cases e2; exact blk_lt h4
/-- an entry's bytes -/
def entB (e : EntV) : List Nat := [e.kind.toNat, e.mode.toNat / 256, e.mode.toNat % 256] ++ textB e.path ++ if e.kind = 1 then textB e.body else []
def entsB (es : List EntV) : List Nat := es.flatMap entB
def encodeC (es : List EntV) : List Nat := [86, 76, 1] ++ varB es.length ++ entsB es
theorem entsB_snoc (es : List EntV) (e : EntV) : entsB (es ++ [e]) = entsB es ++ entB e := by simp [entsB]
theorem entB_len (e : EntV) (h : e.path.size < 2 ^ 29 ∧ e.body.size < 2 ^ 29) : (entB e).length < 2 ^ 31 := by
  have := textB_len e.path
  have := textB_len e.body
  unfold entB
  split <;> simp <;> omega
theorem entsB_len {es : List EntV} (h : Small es) : (entsB es).length ≤ es.length * 2 ^ 31 := by
  induction es with
  | nil => simp [entsB]
  | cons e es ih =>
    have := entB_len e (h e (by simp))
    have := ih fun x hx => h x (List.mem_cons_of_mem _ hx)
    show (entB e ++ entsB es).length ≤ _
    rw [List.length_append, List.length_cons, Nat.succ_mul]; omega
theorem shr8 (m : Nat) : shrI .i64 (m : Int) 8 = ((m / 256 : Nat) : Int) := by
  unfold shrI
  rw [show min ((8 : Int).toNat) IntKind.i64.bits = 8 from rfl]
  rw [Int.fdiv_eq_ediv_of_nonneg _ (by decide)]
  simp
theorem own_len {h0 h : Heap} {a : Option Addr} {l c : Nat} {bs : List Nat} (o : OwnAt 5 h0 h a l c (bs.map u8)) : bs.length = l := by
  have := o.len; rwa [List.length_map] at this

theorem encode_ok (a : Option Addr) (l c : Nat) (es : List EntV) (h : Heap) (w : Tab 4 h a l c (ents es)) (hs : Small es) (hl : l < 2 ^ 40) (hm : MaxAt h) :
    HEnt Tryd.prog 21 #[.slice a l c] h fun v h' => ∃ a' l' c', v = .tuple #[.slice a' l' c', .int .i64 (checkC es).2] ∧ Ext h h' ∧
      ((checkC es).2 = 0 → OwnAt 5 h h' a' l' c' ((encodeC es).map u8)) ∧ ((checkC es).2 ≠ 0 → a' = none ∧ l' = 0 ∧ c' = 0) := by
  have hlen : es.length = l := by have := w.len; rwa [ents_len] at this
  refine F21_ent _ _ _ _ _ ?_
  unfold F21
  refine HEnt.use (check_ok a l c es h w hs hl hm) ?_
  rintro _ h1 ⟨rfl, x1⟩
  refine ⟨_, _, rfl, br_of (fun g => ?_) (fun g => ?_)⟩
  · have g' : (checkC es).2 ≠ 0 := by simp at g; omega
    exact ⟨none, 0, 0, rfl, x1, fun e => absurd e g', fun _ => ⟨rfl, rfl, rfl⟩⟩
  have g' : (checkC es).2 = 0 := by simp at g; omega
  obtain ⟨hl64, hz, _⟩ := check_zero g'
  have hvl := varF_len 10 l
  have hvp := varF_pos 10 l
  unfold F21_k1
  refine ⟨by decide, newK_intro fun h2 n2 x2 _ => ⟨⟨_, _, _, n2⟩, ?_⟩⟩
  rintro h3 rfl
  have n3 : (h2.modify (at0 h1.size).block markO)[h1.size]? = some (.cells ([86, 76, 1].map u8).toArray 5 (3, 4)) := by
    rw [Array.getElem?_modify]
    have : (at0 h1.size).block = h1.size := rfl
    rw [if_pos this, n2]; rfl
  have o3 : Only h1.size h2 (h2.modify (at0 h1.size).block markO) := ⟨by simp, fun k hk => by
    rw [Array.getElem?_modify, if_neg (fun e => hk e.symm)]⟩
  generalize (h2.modify (at0 h1.size).block markO) = h3 at *
  have k3 : Keep (· = h1.size) h1 h3 := (x2.keep _).trans (o3.keep rfl)
  have x3 : Ext h1 h3 := k3.ext fun k hk e => by omega
  rw [u64_lt _ (by omega) (by omega)]
  refine HEnt.use (var_ok l (by omega) h3) ?_
  rintro _ h4 ⟨a4, c4, rfl, o4⟩
  refine ⟨_, _, _, rfl, ?_⟩
  refine app5_grow (h0 := h) (bs := [86, 76, 1]) (new := varB l) ((x1.trans x3).trans o4.ext) rfl (fun ad e => by cases e; exact (cells_blk0 n3).ext o4.ext) (by rintro ⟨⟩) o4.src rfl (by unfold varB; omega) (by unfold varB; omega) fun a5 c5 h5 o5 x5 => ?_
  refine ⟨fun a l' c x hh => ∃ k : Nat, x = k ∧ k ≤ l ∧ OwnAt 5 h hh a l' c (([86, 76, 1] ++ varB l ++ entsB (es.take k)).map u8), fun _ _ _ x _ => ((l : Int) - x).toNat, ⟨0, rfl, by omega, by simpa [entsB] using o5⟩, ?_⟩
  rintro h6 a6 l6 c6 _ ⟨k, rfl, hk, o6⟩
  have hl6 := own_len o6
  rw [List.length_append, List.length_append] at hl6
  have hel := entsB_len (small_take hs k)
  have htk : (es.take k).length ≤ 64 := by rw [List.length_take]; omega
  have hmul := Nat.mul_le_mul_right (2 ^ 31) htk
  simp only [List.length_cons, List.length_nil] at hl6
  have hl6b : l6 < 2 ^ 37 + 100 := by unfold varB at hl6; omega
  unfold F21_b2
  refine br_of (fun gk => ?_) (fun gk => ?_)
  case refine_2 =>
    have hk' : k = l := by
      have : ¬ (k : Int) < (l : Int) := by simpa using gk
      omega
    unfold F21_k5
    refine ⟨a6, l6, c6, by rw [g']; rfl, o6.ext, fun _ => ?_, fun e => absurd g' e⟩
    rw [hk', List.take_of_length_le (by omega)] at o6
    unfold encodeC; rw [hlen]; exact o6
  have hk' : k < l := by simpa using gk
  obtain ⟨q, eq, _, c0, c1, c2, c3⟩ := ent_get (w.grow o6.ext) (en_get (i := k) (by omega))
  have hsm := hs _ (en_mem (es := es) (i := k) (by omega))
  obtain ⟨_, f1, f2, f3, f4, _, _, f5⟩ := stA_zero (st_zero (hz k (by omega))).1
  unfold F21_k3
  refine ⟨q, eq, by omega, by omega, _, _, _, _, by rw [Int.toNat_natCast]; exact c0, by rw [Int.toNat_natCast]; exact c1, by rw [Int.toNat_natCast]; exact c2, by rw [Int.toNat_natCast]; exact c3, rfl, ?_⟩
  refine ((St.start h).grow o6.ext).new fun b h7 s7 x7 hb7 => ?_
  refine fill (vs := entA (en es k)) s7 zero30 (entA_size _) (entA_one _) fun h8 s8 on8 => ?_
  have x68 : Ext h6 h8 := s7.only (i := 0) rfl on8 x7 hb7
  refine ⟨_, s8.cell 0 rfl rfl, _, s8.cell 0 rfl rfl, by decide, _, s8.cell 0 rfl rfl, by decide, newK_intro fun h9 n9 x9 _ => ?_⟩
  have ek : (IntKind.u8.wrap (en es k).kind : Int) = ((en es k).kind.toNat : Nat) := by
    rw [show (en es k).kind = ((en es k).kind.toNat : Int) by omega, u8_wrap, Nat.mod_eq_of_lt (by omega)]; simp
  have em : (en es k).mode = ((en es k).mode.toNat : Int) := by omega
  have em1 : (IntKind.u8.wrap (shrI .i64 (en es k).mode 8) : Int) = ((en es k).mode.toNat / 256 : Nat) := by
    rw [em, shr8, u8_wrap, Nat.mod_eq_of_lt (by omega), Int.toNat_natCast]
  have em2 : (IntKind.u8.wrap (en es k).mode : Int) = ((en es k).mode.toNat % 256 : Nat) := by
    rw [em, u8_wrap, Int.toNat_natCast]
  rw [ek, em1, em2] at n9
  have s9 := s8.grow x9
  have hbne : ∀ j, a6 = some ⟨j, 0, none⟩ → j ≠ b := fun j e hj => by have := own_lt o6 j e; omega
  refine app5 (h0 := h) (m := 3) (new := [(en es k).kind.toNat, (en es k).mode.toNat / 256, (en es k).mode.toNat % 256]) ((o6.grow x68).grow x9) (srcK_slice rfl (fun ad e => by cases e; exact cells_blk0 n9) (by rintro ⟨⟩)) rfl (by omega) fun a10 c10 h10 o10 k10 d10 => ?_
  have lo9 := s9.lt (i := 0) rfl
  simp only at lo9
  have s10 := s9.keep k10 (fun j hj e => by
    rcases e with e | e
    · have := o6.new j e; omega
    · have := s9.ext.size; omega) (fun i x hx e => by
    match i, hx with
    | 0, hx =>
      cases hx
      rcases e with e | e
      · exact hbne b e rfl
      · simp only at e; omega)
  have hb10 : ∀ j, a10 = some ⟨j, 0, none⟩ → j ≠ b := fun j e hj => by
    rcases d10 j e with e | e
    · exact hbne j e hj
    · omega
  refine ⟨_, s10.cell 0 rfl rfl, HEnt.use (text_ok a10 (l6 + 3) c10 _ (en es k).path h10 o10 (by omega) (by omega)) ?_⟩
  rintro _ h11 ⟨a11, c11, rfl, o11, k11, d11⟩
  have lo10 := s10.lt (i := 0) rfl
  simp only at lo10
  have s11 := s10.keep k11 (fun j hj e => by
    rcases e with e | e
    · have := o10.new j e; omega
    · have := s10.ext.size; omega) (fun i x hx e => by
    match i, hx with
    | 0, hx =>
      cases hx
      rcases e with e | e
      · exact hb10 b e rfl
      · simp only at e; omega)
  have htb := textB_len (en es k).path
  have done : ∀ (a' : Option Addr) (l' c' : Nat) (h' : Heap), OwnAt 5 h h' a' l' c' (([86, 76, 1] ++ varB l ++ entsB (es.take k) ++ entB (en es k)).map u8) → F21_k4 (fun a l' c x hh => ∃ k : Nat, x = k ∧ k ≤ l ∧ OwnAt 5 h hh a l' c (([86, 76, 1] ++ varB l ++ entsB (es.take k)).map u8)) (fun _ _ _ x _ => ((l : Int) - x).toNat) ((l : Int) - (k : Int)).toNat a' l' c' a l c l k h' (fun v h' => ∃ a' l' c', v = .tuple #[.slice a' l' c', .int .i64 (checkC es).2] ∧ Ext h h' ∧
      ((checkC es).2 = 0 → OwnAt 5 h h' a' l' c' ((encodeC es).map u8)) ∧ ((checkC es).2 ≠ 0 → a' = none ∧ l' = 0 ∧ c' = 0)) := by
    intro a' l' c' h' o'
    unfold F21_k4
    rw [i64_lt _ (by omega) (by omega)]
    refine ⟨⟨k + 1, by omega, by omega, ?_⟩, by show ((l : Int) - ((k : Int) + 1)).toNat < ((l : Int) - k).toNat; omega⟩
    rw [take_en (by omega), entsB_snoc, ← List.append_assoc]
    exact o'
  refine ⟨_, _, _, rfl, _, s11.cell 0 rfl rfl, br_of (fun gf => ?_) (fun gf => ?_)⟩
  · have gf' : (en es k).kind = 1 := by simpa using gf
    refine ⟨_, s11.cell 0 rfl rfl, HEnt.use (text_ok a11 _ c11 _ (en es k).body h11 o11 (by omega) (by omega)) ?_⟩
    rintro _ h12 ⟨a12, c12, rfl, o12, _, _⟩
    refine ⟨_, _, _, rfl, done _ _ _ _ ?_⟩
    unfold entB
    rw [if_pos gf']
    simpa only [List.append_assoc] using o12
  · have gf' : (en es k).kind ≠ 1 := by simpa using gf
    refine done _ _ _ _ ?_
    unfold entB
    rw [if_neg gf', List.append_nil]
    simpa only [List.append_assoc] using o11
end Go.Proofs.YtnahhdkekchmfaaDoor

namespace Go.Proofs.YtnahhdkekchmfaaDoor
open Go.Vc Go.Sha Go.Trail Go.Lay
set_option linter.unusedVariables false
/-- how two entries of a layer stand to one another -/
def Stand (e f : EntV) : Prop := lexK (lst e.path) (lst f.path) = true ∧ (hides e → inP (lst e.path) (lst f.path) = false)
def Good (es : List EntV) : Prop := es.length ≤ 64 ∧ (∀ e ∈ es, stA e = 0) ∧ es.Pairwise Stand
theorem en_eq {es : List EntV} {i : Nat} (h : i < es.length) : es[i] = en es i := by
  have := en_get h
  rw [List.getElem?_eq_getElem h] at this
  exact Option.some.inj this
theorem good_check (es : List EntV) : (checkC es).2 = 0 ↔ Good es := by
  constructor
  · intro h
    obtain ⟨h1, h2, _⟩ := check_zero h
    refine ⟨h1, fun e he => ?_, List.pairwise_iff_getElem.2 fun i j hi hj hij => ?_⟩
    · obtain ⟨i, hi, rfl⟩ := List.mem_iff_getElem.1 he
      rw [en_eq hi]; exact (st_zero (h2 i hi)).1
    · rw [en_eq hi, en_eq hj]
      exact ⟨sorted (k := es.length) (fun i h0 hi => (st_zero (h2 i hi)).2.1 h0) i j hij hj, (st_zero (h2 j hj)).2.2 i hij⟩
  · rintro ⟨h1, h2, h3⟩
    rw [List.pairwise_iff_getElem] at h3
    rw [check_fine h1]
    intro i hi
    unfold st
    rw [if_neg (by have := h2 _ (en_mem hi); omega), if_neg, if_neg]
    · rintro ⟨j, hj, g1, g2⟩
      have := h3 j i (by omega) hi hj
      rw [en_eq (by omega), en_eq hi] at this
      have := this.2 g1
      rw [show pa es j = lst (en es j).path from rfl, show pa es i = lst (en es i).path from rfl, this] at g2
      cases g2
    · rintro ⟨h0, g⟩
      have := h3 (i - 1) i (by omega) hi (by omega)
      rw [en_eq (by omega), en_eq hi] at this
      rw [show pa es (i - 1) = lst (en es (i - 1)).path from rfl, show pa es i = lst (en es i).path from rfl, this.1] at g
      cases g
theorem Good.sub {es fs : List EntV} (h : Good es) (s : List.Sublist fs es) : Good fs :=
  ⟨Nat.le_trans s.length_le h.1, fun e he => h.2.1 e (s.subset he), h.2.2.sublist s⟩

theorem works_ok (h : Heap) (hm : MaxAt h) : HEnt Tryd.prog 11 #[] h fun v h' => v = .bool true ∧ Ext h h' := by
  let e : EntV := ⟨⟨#[97, 47, 98]⟩, 1, 420, ⟨#[104, 105]⟩⟩
  have hgood : (checkC [e]).2 = 0 := by
    rw [good_check]
    refine ⟨by decide, ?_, List.pairwise_singleton _ _⟩
    intro x hx
    simp only [List.mem_cons, List.not_mem_nil, or_false] at hx
    subst hx
    have hp : ¬ badP e.path := by
      rw [badP_clean, show clean (lst e.path) = ([97, 47, 98], 0) from by decide +kernel]
      decide
    unfold stA aloneC
    rw [if_neg hp, if_neg (by show ¬ ((1 : Int) < 1 ∨ (1 : Int) > 4); decide), if_neg (by show ¬ ((420 : Int) < 0 ∨ (420 : Int) > 511 ∨ ((1 : Int) = 3 ∧ (420 : Int) ≠ 0)); decide), if_neg (by show ¬ ((1 : Int) ≠ 1 ∧ _); rintro ⟨h, _⟩; exact h rfl), if_neg (by show ¬ (2 > 256); decide)]
  have henc : str (encodeC [e]) = (⟨#[86, 76, 1, 1, 1, 1, 164, 3, 97, 47, 98, 2, 104, 105]⟩ : ByteArray) := by decide +kernel
  have hel : (encodeC [e]).length = 14 := by decide +kernel
  have hlt : ∀ x ∈ encodeC [e], x < 256 := by decide +kernel
  refine F11_ent _ _ ?_
  unfold F11
  refine ⟨rfl, by decide, newK_intro fun h1 n1 x1 _ => ?_⟩
  have o1 : OwnR 30 4 h h1 (some (at0 h.size)) 1 1 (ents [e]) := OwnR.new_ (rows := ents [e]) n1 x1 (Nat.le_refl _) (ents_row _) rfl
  refine HEnt.use (encode_ok _ _ _ [e] h1 o1.rows (by
    intro x hx
    simp only [List.mem_cons, List.not_mem_nil, or_false] at hx
    subst hx
    decide) (by decide) (hm.ext x1)) ?_
  rintro _ h2 ⟨a, l, c, rfl, x2, hown, _⟩
  have o := hown hgood
  have hol := own_len o
  rw [hel] at hol
  subst hol
  refine ⟨_, _, _, _, rfl, str (encodeC [e]), by rw [str_size, hel], fun ad ea => ?_, fun ea => ?_, ?_⟩
  · rw [bytesV_lst, lst_str _ hlt]
    rcases o.own with ⟨e2, _⟩ | o'
    · rw [ea] at e2; cases e2
    · obtain ⟨b, rfl, _, _, hc⟩ := o'.cells ad ea
      exact hc
  · rcases o.own with ⟨_, e2, _⟩ | o'
    · cases e2
    · obtain ⟨_, _, b, cs, e2, _⟩ := o'
      rw [ea] at e2; cases e2
  · rw [henc, hgood]
    refine br_of (fun _ => ⟨rfl, x1.trans x2⟩) (fun hb => ?_)
    rw [seq_lst] at hb; simp at hb

theorem cut200 {a : Option Addr} {l c : Nat} {es : List EntV} {h : Heap} (w : Tab 4 h a l c (ents es)) (hl : l > 200) : Tab 4 h a 200 c (ents (es.take 200)) := by
  have := w.take 200 (by omega)
  rwa [show (ents es).take 200 = ents (es.take 200) from (List.map_take ..).symm] at this

theorem checks_ok (a : Option Addr) (l c : Nat) (es : List EntV) (h : Heap) (w : Tab 4 h a l c (ents es)) (hs : Small es) (hm : MaxAt h) : HEnt Tryd.prog 4 #[.slice a l c] h fun v h' => v = .bool true ∧ Ext h h' := by
  have main : ∀ (l c : Nat) (es : List EntV), Tab 4 h a l c (ents es) → Small es → l ≤ 200 → F4_k1 a l c h fun v h' => v = .bool true ∧ Ext h h' := by
    intro l c es w hs hl
    unfold F4_k1
    refine HEnt.use (own_ok a l c es h w (by omega)) ?_
    rintro _ h1 ⟨a1, c1, rfl, w1, x1⟩
    refine ⟨_, _, _, rfl, HEnt.use (check_ok a1 l c1 es h1 w1 hs (by omega) (hm.ext x1)) ?_⟩
    rintro _ h2 ⟨rfl, x2⟩
    refine ⟨_, _, rfl, HEnt.use (refCheck_ok a l c es h2 (w.grow (x1.trans x2)) hs (by omega)) ?_⟩
    rintro _ h3 ⟨rfl, x3⟩
    refine ⟨_, _, rfl, br_of (fun _ => br_of (fun _ => ?_) (fun hb => by simp at hb)) (fun hb => by simp at hb)⟩
    refine HEnt.use (size_ok a1 l c1 es h3 (w1.grow (x2.trans x3)) hs (by omega)) ?_
    rintro _ h4 ⟨rfl, x4⟩
    refine ⟨_, rfl, HEnt.use (refSize_ok a l c es h4 (w.grow (((x1.trans x2).trans x3).trans x4)) hs (by omega)) ?_⟩
    rintro _ h5 ⟨rfl, x5⟩
    refine ⟨_, rfl, br_of (fun _ => ?_) (fun hb => by simp at hb)⟩
    have x05 := (((x1.trans x2).trans x3).trans x4).trans x5
    refine HEnt.use (same_ok a1 l c1 es a l c es h5 (w1.grow (((x2.trans x3).trans x4).trans x5)) (w.grow x05) (by omega)) ?_
    rintro _ _ ⟨⟨b, rfl, hb⟩, rfl⟩
    refine ⟨_, rfl, br_of (fun _ => ?_) (fun hf => by rw [hb.2 rfl] at hf; cases hf)⟩
    refine HEnt.use (works_ok _ (hm.ext x05)) ?_
    rintro _ h7 ⟨rfl, x7⟩
    exact ⟨_, rfl, rfl, x05.trans x7⟩
  refine F4_ent _ _ _ _ _ ?_
  unfold F4
  refine br_of (fun g => ?_) (fun g => ?_)
  · have g' : l > 200 := by simp at g; omega
    have := w.cap
    rw [cutAt0]
    exact ⟨by omega, by omega, by omega, main _ _ _ (cut200 w g') (small_take hs _) (by omega)⟩
  · exact main _ _ _ w hs (by simp at g; omega)

theorem sorted_ok (a : Option Addr) (l c : Nat) (es : List EntV) (h : Heap) (w : Tab 4 h a l c (ents es)) (hs : Small es) (hm : MaxAt h) : HEnt Tryd.prog 3 #[.slice a l c] h fun v h' => v = .bool true ∧ Ext h h' := by
  have main : ∀ (l c : Nat) (es : List EntV), Tab 4 h a l c (ents es) → Small es → l ≤ 200 → F3_k1 a l c h fun v h' => v = .bool true ∧ Ext h h' := by
    intro l c es w hs hl
    have hlen : es.length = l := by have := w.len; rwa [ents_len] at this
    unfold F3_k1
    refine HEnt.use (check_ok a l c es h w hs (by omega) hm) ?_
    rintro _ h1 ⟨rfl, x1⟩
    refine ⟨_, _, rfl, br_of (fun g => ?_) (fun g => ?_)⟩
    · refine HEnt.use (works_ok _ (hm.ext x1)) ?_
      rintro _ h7 ⟨rfl, x7⟩
      exact ⟨_, rfl, rfl, x1.trans x7⟩
    have g' : (checkC es).2 = 0 := by simp at g; omega
    obtain ⟨hl64, hz, _⟩ := check_zero g'
    obtain ⟨_, _, hpw⟩ := (good_check es).1 g'
    rw [List.pairwise_iff_getElem] at hpw
    unfold F3_k2
    refine ⟨fun x hh => ∃ k : Nat, x = k ∧ k ≤ l ∧ Ext h hh, fun x _ => ((l : Int) - x).toNat, ⟨0, rfl, by omega, x1⟩, ?_⟩
    rintro h2 _ ⟨k, rfl, hk, x2⟩
    unfold F3_b3
    refine br_of (fun g => ?_) (fun g => ?_)
    · have hk' : k < l := by simpa using g
      have hsm := hs _ (en_mem (es := es) (i := k) (by omega))
      obtain ⟨q, eq, _, c0, c1, c2, c3⟩ := ent_get (w.grow x2) (en_get (i := k) (by omega))
      obtain ⟨hbp, _, _, _, _, _, hbody, _⟩ := stA_zero (st_zero (hz k (by omega))).1
      have hne : lst (en es k).path ≠ [] := fun e => hbp (.inl e)
      have hgd : good (lst (en es k).path) := Classical.byContradiction fun e => hbp (.inr e)
      unfold F3_k4
      refine ⟨q, eq, by omega, by omega, _, by rw [Int.toNat_natCast]; exact c0, HEnt.use (clean_ok _ (by omega) h2 (hm.ext x2)) ?_⟩
      rw [clean_good hgd]
      rintro _ h3 ⟨rfl, x3⟩
      have x03 := x2.trans x3
      obtain ⟨q', eq', _, d0, d1, d2, d3⟩ := ent_get (w.grow x03) (en_get (i := k) (by omega))
      rw [eq] at eq'; cases eq'
      refine ⟨_, _, rfl, br_of (fun hb => by simp at hb) (fun _ => ⟨q, eq, by omega, by omega, _, by rw [Int.toNat_natCast]; exact d0, ?_⟩)⟩
      simp only [str_lst]
      refine br_of (fun hb => by rw [seq_lst] at hb; simp at hb) (fun _ => ?_)
      refine br_of (fun hb => by rw [seq_nil] at hb; exact absurd (of_decide_eq_true hb) hne) (fun _ => ⟨q, eq, by omega, by omega, _, by rw [Int.toNat_natCast]; exact d1, ?_⟩)
      have k5 : ∀ bb : Bool, bb = false → F3_k5 (fun x hh => ∃ k : Nat, x = k ∧ k ≤ l ∧ Ext h hh) (fun x _ => ((l : Int) - x).toNat) ((l : Int) - (k : Int)).toNat a l c k (en es k).path l k bb h3 fun v h' => v = .bool true ∧ Ext h h' := by
        rintro _ rfl
        unfold F3_k5
        refine br_of (fun hb => by cases hb) (fun _ => ?_)
        unfold F3_k6
        refine ⟨fun x hh => ∃ j : Nat, x = j ∧ j ≤ k ∧ Ext h hh, fun x _ => ((k : Int) - x).toNat, ⟨0, rfl, by omega, x03⟩, ?_⟩
        rintro h4 _ ⟨j, rfl, hj, x4⟩
        unfold F3_b7
        refine br_of (fun g => ?_) (fun g => ?_)
        · have hj' : j < k := by simpa using g
          have hsj := hs _ (en_mem (es := es) (i := j) (by omega))
          obtain ⟨q', eq', _, d0, d1, d2, d3⟩ := ent_get (w.grow x4) (en_get (i := j) (by omega))
          rw [eq] at eq'; cases eq'
          have hst := hpw j k (by omega) (by omega) hj'
          rw [en_eq (by omega), en_eq (by omega)] at hst
          unfold F3_k8
          refine ⟨q, eq, by omega, by omega, _, by rw [Int.toNat_natCast]; exact d0, HEnt.use (less_ok _ _ (by omega) h4) ?_⟩
          rintro _ h5 ⟨rfl, e5⟩
          replace e5 := e5.symm
          subst e5
          rw [hst.1]
          have k9 : ∀ bb : Bool, bb = false → F3_k9 (fun x hh => ∃ k : Nat, x = k ∧ k ≤ l ∧ Ext h hh) (fun x _ => ((l : Int) - x).toNat) ((l : Int) - (k : Int)).toNat (fun x hh => ∃ j : Nat, x = j ∧ j ≤ k ∧ Ext h hh) (fun x _ => ((k : Int) - x).toNat) ((k : Int) - (j : Int)).toNat a l c (en es k).path l k k j bb h4 fun v h' => v = .bool true ∧ Ext h h' := by
            rintro _ rfl
            unfold F3_k9
            refine br_of (fun hb => by cases hb) (fun _ => ?_)
            unfold F3_k10
            rw [i64_lt _ (by omega) (by omega)]
            exact ⟨⟨j + 1, by omega, by omega, x4⟩, by show ((k : Int) - ((j : Int) + 1)).toNat < ((k : Int) - j).toNat; omega⟩
          have asks : hides (en es j) → ∃ q97 : Addr, a = some q97 ∧ (0 : Int) ≤ j ∧ (j : Int) < (l : Int) ∧ ∃ s99 : ByteArray, Vc.cell h4 ((q97.add ((j : Int).toNat * 4)).add 0) = some (Value.string s99) ∧ HCalls Tryd.prog 14 #[Value.string s99, Value.string (en es k).path] h4 fun r101 h2 => ∃ b101 : Bool, r101 = Value.bool b101 ∧ F3_k9 (fun x hh => ∃ k : Nat, x = k ∧ k ≤ l ∧ Ext h hh) (fun x _ => ((l : Int) - x).toNat) ((l : Int) - (k : Int)).toNat (fun x hh => ∃ j : Nat, x = j ∧ j ≤ k ∧ Ext h hh) (fun x _ => ((k : Int) - x).toNat) ((k : Int) - (j : Int)).toNat a l c (en es k).path l k k j b101 h2 fun v h' => v = .bool true ∧ Ext h h' := by
            intro hh
            refine ⟨q, eq, by omega, by omega, _, by rw [Int.toNat_natCast]; exact d0, HEnt.use (in_ok _ _ (by omega) h4) ?_⟩
            rintro _ _ ⟨rfl, rfl⟩
            exact ⟨_, rfl, k9 _ (hst.2 hh)⟩
          refine ⟨_, rfl, br_of (fun hb => by cases hb) (fun _ => ?_)⟩
          refine ⟨q, eq, by omega, by omega, _, by rw [Int.toNat_natCast]; exact d1, br_of (fun g2 => asks (.inl (by simpa using g2))) (fun _ => ?_)⟩
          exact ⟨q, eq, by omega, by omega, _, by rw [Int.toNat_natCast]; exact d1, br_of (fun g2 => asks (.inr (by simpa using g2))) (fun _ => k9 _ rfl)⟩
        · unfold F3_k11
          rw [i64_lt _ (by omega) (by omega)]
          exact ⟨⟨k + 1, by omega, by omega, x4⟩, by show ((l : Int) - ((k : Int) + 1)).toNat < ((l : Int) - k).toNat; omega⟩
      refine br_of (fun g2 => ⟨q, eq, by omega, by omega, _, by rw [Int.toNat_natCast]; exact d3, k5 _ ?_⟩) (fun _ => k5 _ rfl)
      have : (en es k).body.size = 0 := hbody (by simpa using g2)
      rw [seq0, this]; rfl
    · unfold F3_k12
      refine br_of (fun _ => ?_) (fun hb => ?_)
      · refine HEnt.use (works_ok _ (hm.ext x2)) ?_
        rintro _ h7 ⟨rfl, x7⟩
        exact ⟨_, rfl, rfl, x2.trans x7⟩
      · simp at hb; omega
  refine F3_ent _ _ _ _ _ ?_
  unfold F3
  refine br_of (fun g => ?_) (fun g => ?_)
  · have g' : l > 200 := by simp at g; omega
    have := w.cap
    rw [cutAt0]
    exact ⟨by omega, by omega, by omega, main _ _ _ (cut200 w g') (small_take hs _) (by omega)⟩
  · exact main _ _ _ w hs (by simp at g; omega)

/-! ### parts of a layer -/
def left (es : List EntV) (out : List Bool) : Nat → List EntV
  | 0 => []
  | k + 1 => if out.getD k false then left es out k else left es out k ++ [en es k]
def gone (es : List EntV) (out : List Bool) : Nat → Nat
  | 0 => 0
  | k + 1 => if out.getD k false then gone es out k + ((en es k).path.size + (en es k).body.size) else gone es out k
theorem left_sub (es : List EntV) (out : List Bool) : ∀ k, k ≤ es.length → List.Sublist (left es out k) (es.take k)
  | 0, _ => by simp [left]
  | k + 1, h => by
    have ih := left_sub es out k (by omega)
    rw [take_en (by omega)]
    unfold left
    split
    · exact ih.trans (List.sublist_append_left _ _)
    · exact ih.append (List.Sublist.refl _)
theorem left_size (es : List EntV) (out : List Bool) : ∀ k, k ≤ es.length → sizeC (left es out k) + gone es out k = sizeC (es.take k)
  | 0, _ => by simp [left, gone, sizeC]
  | k + 1, h => by
    have ih := left_size es out k (by omega)
    rw [take_en (by omega), sizeC_snoc]
    unfold left gone
    split
    · omega
    · rw [sizeC_snoc]; omega
def bools (out : List Bool) : List (List Value) := out.map fun b => [Value.bool b]
theorem part_ok' (a : Option Addr) (l c : Nat) (es : List EntV) (a1 : Option Addr) (l1 c1 : Nat) (out : List Bool) (h : Heap) (w : Tab 4 h a l c (ents es)) (w1 : Tab 1 h a1 l1 c1 (bools out)) (hs : Small es) (hm : MaxAt h) :
    HEnt Tryd.prog 5 #[.slice a l c, .slice a1 l1 c1] h fun v h' => v = .bool true ∧ Ext h h' := by
  have main : ∀ (l c : Nat) (es : List EntV), Tab 4 h a l c (ents es) → Small es → l ≤ 200 → F5_k1 a l c a1 l1 c1 h fun v h' => v = .bool true ∧ Ext h h' := by
    intro l c es w hs hl
    have hlen : es.length = l := by have := w.len; rwa [ents_len] at this
    have hlen1 : out.length = l1 := by have := w1.len; rwa [bools, List.length_map] at this
    unfold F5_k1
    refine HEnt.use (check_ok a l c es h w hs (by omega) hm) ?_
    rintro _ h1 ⟨rfl, x1⟩
    refine ⟨_, _, rfl, br_of (fun g => ?_) (fun g => ?_)⟩
    · refine HEnt.use (works_ok _ (hm.ext x1)) ?_
      rintro _ h7 ⟨rfl, x7⟩
      exact ⟨_, rfl, rfl, x1.trans x7⟩
    have g' : (checkC es).2 = 0 := by simp at g; omega
    unfold F5_k2
    refine ⟨fun a7 l7 c7 n x hh => ∃ k : Nat, x = k ∧ k ≤ l ∧ OwnR 30 4 h hh a7 l7 c7 (ents (left es out k)) ∧ n = (gone es out k : Nat), fun _ _ _ _ x _ => ((l : Int) - x).toNat, ⟨0, rfl, by omega, OwnR.nil 30 4 x1, rfl⟩, ?_⟩
    rintro h2 a7 l7 c7 _ _ ⟨k, rfl, hk, o7, rfl⟩
    have hl7 := o7.len
    rw [ents_len] at hl7
    have hsub := left_sub es out k (by omega)
    have hsl := hsub.length_le
    rw [List.length_take] at hsl
    unfold F5_b3
    refine br_of (fun g => ?_) (fun g => ?_)
    · have hk' : k < l := by simpa using g
      have k5 : ∀ (bb : Bool), bb = out.getD k false → F5_k5 (fun a7 l7 c7 n x hh => ∃ k : Nat, x = k ∧ k ≤ l ∧ OwnR 30 4 h hh a7 l7 c7 (ents (left es out k)) ∧ n = (gone es out k : Nat)) (fun _ _ _ _ x _ => ((l : Int) - x).toNat) ((l : Int) - (k : Int)).toNat a l c a1 l1 c1 a7 l7 c7 (gone es out k : Nat) k l k bb h2 fun v h' => v = .bool true ∧ Ext h h' := by
        rintro _ rfl
        have hsm := hs _ (en_mem (es := es) (i := k) (by omega))
        obtain ⟨q, eq, _, d0, d1, d2, d3⟩ := ent_get (w.grow o7.ext) (en_get (i := k) (by omega))
        unfold F5_k5
        have hsz := left_size es out (k + 1) (by omega)
        have hsb := size_bound hs (by omega) (k + 1)
        refine br_of (fun gb => ⟨q, eq, by omega, by omega, _, by rw [Int.toNat_natCast]; exact d0, q, eq, by omega, by omega, _, by rw [Int.toNat_natCast]; exact d3, fun h3 e3 => ?_⟩) (fun gb => ?_)
        · obtain rfl : h3 = h2 := e3
          have e1 : gone es out (k + 1) = gone es out k + ((en es k).path.size + (en es k).body.size) := by conv => lhs; unfold gone; rw [if_pos gb]
          have e2 : left es out (k + 1) = left es out k := by conv => lhs; unfold left; rw [if_pos gb]
          unfold F5_k6
          rw [i64_lt ((k : Int) + 1) (by omega) (by omega), i64_lt (((en es k).path.size : Int) + _) (by omega) (by omega), i64_lt _ (by omega) (by omega)]
          exact ⟨⟨k + 1, by omega, by omega, by rw [e2]; exact o7, by rw [e1]; omega⟩, by show ((l : Int) - ((k : Int) + 1)).toNat < ((l : Int) - k).toNat; omega⟩
        · have gb' : ¬ (out.getD k false = true) := by rw [gb]; decide
          have e1 : gone es out (k + 1) = gone es out k := by conv => lhs; unfold gone; rw [if_neg gb']
          have e2 : left es out (k + 1) = left es out k ++ [en es k] := by conv => lhs; unfold left; rw [if_neg gb']
          refine ⟨q, eq, by omega, by omega, _, _, _, _, by rw [Int.toNat_natCast]; exact d0, by rw [Int.toNat_natCast]; exact d1, by rw [Int.toNat_natCast]; exact d2, by rw [Int.toNat_natCast]; exact d3, rfl, rfl, by decide, newK_intro fun h3 n3 x3 _ => ?_⟩
          have o3 : OwnR 30 4 h2 h3 (some (at0 h2.size)) 1 1 (ents [en es k]) := OwnR.new_ (rows := ents [en es k]) n3 x3 (Nat.le_refl _) (ents_row _) rfl
          refine appK_R cells30 (o7.grow x3) o3.rows.src rfl (ents_row _) (ents_one _) (by rw [bytes30]; omega) zeroR30 fun a8 c8 h4 o4 k4 d4 => ?_
          unfold F5_k6
          rw [i64_lt ((k : Int) + 1) (by omega) (by omega)]
          refine ⟨⟨k + 1, by omega, by omega, ?_, by rw [e1]⟩, by show ((l : Int) - ((k : Int) + 1)).toNat < ((l : Int) - k).toNat; omega⟩
          rw [e2, ents, List.map_append]
          exact o4
      unfold F5_k4
      refine br_of (fun g2 => ?_) (fun g2 => ?_)
      · have hk1 : k < l1 := by simpa using g2
        obtain ⟨q1, eq1, _, hc1⟩ := (w1.grow o7.ext).get (i := k) (r := [.bool (out.getD k false)]) (by
          rw [bools, List.getElem?_map, List.getElem?_eq_getElem (by omega), List.getD_eq_getElem?_getD, List.getElem?_eq_getElem (by omega)]; rfl)
        refine ⟨q1, eq1, by omega, by omega, _, ?_, k5 _ rfl⟩
        have := hc1 0 _ rfl
        rw [Int.toNat_natCast]
        obtain ⟨b1, o1, s1⟩ := q1
        simpa [Addr.add] using this
      · have hk1 : ¬ k < l1 := by simpa using g2
        refine k5 _ ?_
        rw [List.getD_eq_getElem?_getD, List.getElem?_eq_none (by omega)]; rfl
    · have hk' : k = l := by
        have : ¬ (k : Int) < (l : Int) := by simpa using g
        omega
      subst hk'
      rw [List.take_of_length_le (by omega)] at hsub
      have hgl := ((good_check es).1 g').sub hsub
      have hcl := check_zero ((good_check _).2 hgl)
      have hsl' : Small (left es out k) := fun e he => hs e (hsub.subset he)
      have x02 := o7.ext
      unfold F5_k7
      refine HEnt.use (check_ok a7 l7 c7 _ h2 o7.rows hsl' (by omega) (hm.ext x02)) ?_
      rw [hcl.2.2]
      rintro _ h3 ⟨rfl, x3⟩
      refine ⟨_, _, rfl, br_of (fun _ => br_of (fun _ => ?_) (fun hb => by simp at hb)) (fun hb => by simp at hb)⟩
      refine HEnt.use (size_ok a7 l7 c7 _ h3 (o7.rows.grow x3) hsl' (by omega)) ?_
      rintro _ h4 ⟨rfl, x4⟩
      refine ⟨_, rfl, HEnt.use (size_ok a k c es h4 (w.grow ((x02.trans x3).trans x4)) hs (by omega)) ?_⟩
      rintro _ h5 ⟨rfl, x5⟩
      have hsz := left_size es out k (by omega)
      have hsb := size_bound hs (by omega) k
      rw [List.take_of_length_le (by omega)] at hsz hsb
      have x05 := ((x02.trans x3).trans x4).trans x5
      refine ⟨_, rfl, br_of (fun _ => ?_) (fun hb => ?_)⟩
      · refine HEnt.use (works_ok _ (hm.ext x05)) ?_
        rintro _ h7 ⟨rfl, x7⟩
        exact ⟨_, rfl, rfl, x05.trans x7⟩
      · rw [i64_lt _ (by omega) (by omega)] at hb
        simp at hb; omega
  refine F5_ent _ _ _ _ _ _ _ _ ?_
  unfold F5
  refine br_of (fun g => ?_) (fun g => ?_)
  · have g' : l > 200 := by simp at g; omega
    have := w.cap
    rw [cutAt0]
    exact ⟨by omega, by omega, by omega, main _ _ _ (cut200 w g') (small_take hs _) (by omega)⟩
  · exact main _ _ _ w hs (by simp at g; omega)
end Go.Proofs.YtnahhdkekchmfaaDoor
