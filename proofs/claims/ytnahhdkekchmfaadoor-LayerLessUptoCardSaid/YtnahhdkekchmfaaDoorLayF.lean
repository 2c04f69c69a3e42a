import Derived.Test.YtnahhdkekchmfaaDoorLayE

namespace Go.Proofs.YtnahhdkekchmfaaDoor
open Go.Vc Go.Sha Go.Trail Go.Lay
set_option linter.unusedVariables false
theorem own_lt {el : TypeId} {h0 h : Heap} {a : Option Addr} {l c : Nat} {vs : List Value} (o : OwnAt el h0 h a l c vs) : ∀ k, a = some ⟨k, 0, none⟩ → k < h.size := by
  intro k e
  rcases o.own with ⟨e2, _⟩ | ⟨_, _, b, cs, e2, _, h4, _⟩
  · rw [e] at e2; cases e2
  · rw [e] at e2; cases e2; exact blk_lt h4
/-- an entry's bytes -/
def entB (e : EntV) : List Nat := [e.kind.toNat, e.mode.toNat / 256, e.mode.toNat % 256] ++ textB e.path ++ if e.kind = 1 then textB e.body else []
def entsB (es : List EntV) : List Nat := es.flatMap entB
def encodeC (es : List EntV) : List Nat := [86, 76, 1] ++ varB es.length ++ entsB es
theorem entsB_snoc (es : List EntV) (e : EntV) : entsB (es ++ [e]) = entsB es ++ entB e := by simp [entsB]
theorem entB_len (e : EntV) (h : e.path.size < 2 ^ 29 ∧ e.body.size < 2 ^ 29) : (entB e).length < 2 ^ 31 := by
  have := textB_len e.path
  have := textB_len e.body
  unfold entB
  split <;> simp <;> omega
theorem entsB_len {es : List EntV} (h : Small es) : (entsB es).length ≤ es.length * 2 ^ 31 := by
  induction es with
  | nil => simp [entsB]
  | cons e es ih =>
    have := entB_len e (h e (by simp))
    have := ih fun x hx => h x (List.mem_cons_of_mem _ hx)
    show (entB e ++ entsB es).length ≤ _
    rw [List.length_append, List.length_cons, Nat.succ_mul]; omega
theorem shr8 (m : Nat) : shrI .i64 (m : Int) 8 = ((m / 256 : Nat) : Int) := by
  unfold shrI
  rw [show min ((8 : Int).toNat) IntKind.i64.bits = 8 from rfl]
  rw [Int.fdiv_eq_ediv_of_nonneg _ (by decide)]
  simp
theorem own_len {h0 h : Heap} {a : Option Addr} {l c : Nat} {bs : List Nat} (o : OwnAt 5 h0 h a l c (bs.map u8)) : bs.length = l := by
  have := o.len; rwa [List.length_map] at this

theorem encode_ok (a : Option Addr) (l c : Nat) (es : List EntV) (h : Heap) (w : Tab 4 h a l c (ents es)) (hs : Small es) (hl : l < 2 ^ 40) (hm : MaxAt h) :
    HEnt Tryd.prog 21 #[.slice a l c] h fun v h' => ∃ a' l' c', v = .tuple #[.slice a' l' c', .int .i64 (checkC es).2] ∧ Ext h h' ∧
      ((checkC es).2 = 0 → OwnAt 5 h h' a' l' c' ((encodeC es).map u8)) ∧ ((checkC es).2 ≠ 0 → a' = none ∧ l' = 0 ∧ c' = 0) := by
  have hlen : es.length = l := by have := w.len; rwa [ents_len] at this
  refine F21_ent _ _ _ _ _ ?_
  unfold F21
  refine HEnt.use (check_ok a l c es h w hs hl hm) ?_
  rintro _ h1 ⟨rfl, x1⟩
  refine ⟨_, _, rfl, br_of (fun g => ?_) (fun g => ?_)⟩
  · have g' : (checkC es).2 ≠ 0 := by simp at g; omega
    exact ⟨none, 0, 0, rfl, x1, fun e => absurd e g', fun _ => ⟨rfl, rfl, rfl⟩⟩
  have g' : (checkC es).2 = 0 := by simp at g; omega
  obtain ⟨hl64, hz, _⟩ := check_zero g'
  have hvl := varF_len 10 l
  have hvp := varF_pos 10 l
  unfold F21_k1
  refine ⟨by decide, newK_intro fun h2 n2 x2 _ => ⟨⟨_, _, _, n2⟩, ?_⟩⟩
  rintro h3 rfl
  have n3 : (h2.modify (at0 h1.size).block markO)[h1.size]? = some (.cells ([86, 76, 1].map u8).toArray 5 (3, 4)) := by
    rw [Array.getElem?_modify]
    have : (at0 h1.size).block = h1.size := rfl
    rw [if_pos this, n2]; rfl
  have o3 : Only h1.size h2 (h2.modify (at0 h1.size).block markO) := ⟨by simp, fun k hk => by
    rw [Array.getElem?_modify, if_neg (fun e => hk e.symm)]⟩
  generalize (h2.modify (at0 h1.size).block markO) = h3 at *
  have k3 : Keep (· = h1.size) h1 h3 := (x2.keep _).trans (o3.keep rfl)
  have x3 : Ext h1 h3 := k3.ext fun k hk e => by omega
  rw [u64_lt _ (by omega) (by omega)]
  refine HEnt.use (var_ok l (by omega) h3) ?_
  rintro _ h4 ⟨a4, c4, rfl, o4⟩
  refine ⟨_, _, _, rfl, ?_⟩
  refine app5_grow (h0 := h) (bs := [86, 76, 1]) (new := varB l) ((x1.trans x3).trans o4.ext) rfl (fun ad e => by cases e; exact (cells_blk0 n3).ext o4.ext) (by rintro ⟨⟩) o4.src rfl (by unfold varB; omega) (by unfold varB; omega) fun a5 c5 h5 o5 x5 => ?_
  refine ⟨fun a l' c x hh => ∃ k : Nat, x = k ∧ k ≤ l ∧ OwnAt 5 h hh a l' c (([86, 76, 1] ++ varB l ++ entsB (es.take k)).map u8), fun _ _ _ x _ => ((l : Int) - x).toNat, ⟨0, rfl, by omega, by simpa [entsB] using o5⟩, ?_⟩
  rintro h6 a6 l6 c6 _ ⟨k, rfl, hk, o6⟩
  have hl6 := own_len o6
  rw [List.length_append, List.length_append] at hl6
  have hel := entsB_len (small_take hs k)
  have htk : (es.take k).length ≤ 64 := by rw [List.length_take]; omega
  have hmul := Nat.mul_le_mul_right (2 ^ 31) htk
  simp only [List.length_cons, List.length_nil] at hl6
  have hl6b : l6 < 2 ^ 37 + 100 := by unfold varB at hl6; omega
  unfold F21_b2
  refine br_of (fun gk => ?_) (fun gk => ?_)
  case refine_2 =>
    have hk' : k = l := by
      have : ¬ (k : Int) < (l : Int) := by simpa using gk
      omega
    unfold F21_k5
    refine ⟨a6, l6, c6, by rw [g']; rfl, o6.ext, fun _ => ?_, fun e => absurd g' e⟩
    rw [hk', List.take_of_length_le (by omega)] at o6
    unfold encodeC; rw [hlen]; exact o6
  have hk' : k < l := by simpa using gk
  obtain ⟨q, eq, _, c0, c1, c2, c3⟩ := ent_get (w.grow o6.ext) (en_get (i := k) (by omega))
  have hsm := hs _ (en_mem (es := es) (i := k) (by omega))
  obtain ⟨_, f1, f2, f3, f4, _, _, f5⟩ := stA_zero (st_zero (hz k (by omega))).1
  unfold F21_k3
  refine ⟨q, eq, by omega, by omega, _, _, _, _, by rw [Int.toNat_natCast]; exact c0, by rw [Int.toNat_natCast]; exact c1, by rw [Int.toNat_natCast]; exact c2, by rw [Int.toNat_natCast]; exact c3, rfl, ?_⟩
  refine ((St.start h).grow o6.ext).new fun b h7 s7 x7 hb7 => ?_
  refine fill (vs := entA (en es k)) s7 zero30 (entA_size _) (entA_one _) fun h8 s8 on8 => ?_
  have x68 : Ext h6 h8 := s7.only (i := 0) rfl on8 x7 hb7
  refine ⟨_, s8.cell 0 rfl rfl, _, s8.cell 0 rfl rfl, by decide, _, s8.cell 0 rfl rfl, by decide, newK_intro fun h9 n9 x9 _ => ?_⟩
  have ek : (IntKind.u8.wrap (en es k).kind : Int) = ((en es k).kind.toNat : Nat) := by
    rw [show (en es k).kind = ((en es k).kind.toNat : Int) by omega, u8_wrap, Nat.mod_eq_of_lt (by omega)]; simp
  have em : (en es k).mode = ((en es k).mode.toNat : Int) := by omega
  have em1 : (IntKind.u8.wrap (shrI .i64 (en es k).mode 8) : Int) = ((en es k).mode.toNat / 256 : Nat) := by
    rw [em, shr8, u8_wrap, Nat.mod_eq_of_lt (by omega), Int.toNat_natCast]
  have em2 : (IntKind.u8.wrap (en es k).mode : Int) = ((en es k).mode.toNat % 256 : Nat) := by
    rw [em, u8_wrap, Int.toNat_natCast]
  rw [ek, em1, em2] at n9
  have s9 := s8.grow x9
  have hbne : ∀ j, a6 = some ⟨j, 0, none⟩ → j ≠ b := fun j e hj => by have := own_lt o6 j e; omega
  refine app5 (h0 := h) (m := 3) (new := [(en es k).kind.toNat, (en es k).mode.toNat / 256, (en es k).mode.toNat % 256]) ((o6.grow x68).grow x9) (srcK_slice rfl (fun ad e => by cases e; exact cells_blk0 n9) (by rintro ⟨⟩)) rfl (by omega) fun a10 c10 h10 o10 k10 d10 => ?_
  have lo9 := s9.lt (i := 0) rfl
  simp only at lo9
  have s10 := s9.keep k10 (fun j hj e => by
    rcases e with e | e
    · have := o6.new j e; omega
    · have := s9.ext.size; omega) (fun i x hx e => by
    match i, hx with
    | 0, hx =>
      cases hx
      rcases e with e | e
      · exact hbne b e rfl
      · simp only at e; omega)
  have hb10 : ∀ j, a10 = some ⟨j, 0, none⟩ → j ≠ b := fun j e hj => by
    rcases d10 j e with e | e
    · exact hbne j e hj
    · omega
  refine ⟨_, s10.cell 0 rfl rfl, HEnt.use (text_ok a10 (l6 + 3) c10 _ (en es k).path h10 o10 (by omega) (by omega)) ?_⟩
  rintro _ h11 ⟨a11, c11, rfl, o11, k11, d11⟩
  have lo10 := s10.lt (i := 0) rfl
  simp only at lo10
  have s11 := s10.keep k11 (fun j hj e => by
    rcases e with e | e
    · have := o10.new j e; omega
    · have := s10.ext.size; omega) (fun i x hx e => by
    match i, hx with
    | 0, hx =>
      cases hx
      rcases e with e | e
      · exact hb10 b e rfl
      · simp only at e; omega)
  have htb := textB_len (en es k).path
  have done : ∀ (a' : Option Addr) (l' c' : Nat) (h' : Heap), OwnAt 5 h h' a' l' c' (([86, 76, 1] ++ varB l ++ entsB (es.take k) ++ entB (en es k)).map u8) → F21_k4 (fun a l' c x hh => ∃ k : Nat, x = k ∧ k ≤ l ∧ OwnAt 5 h hh a l' c (([86, 76, 1] ++ varB l ++ entsB (es.take k)).map u8)) (fun _ _ _ x _ => ((l : Int) - x).toNat) ((l : Int) - (k : Int)).toNat a' l' c' a l c l k h' (fun v h' => ∃ a' l' c', v = .tuple #[.slice a' l' c', .int .i64 (checkC es).2] ∧ Ext h h' ∧
      ((checkC es).2 = 0 → OwnAt 5 h h' a' l' c' ((encodeC es).map u8)) ∧ ((checkC es).2 ≠ 0 → a' = none ∧ l' = 0 ∧ c' = 0)) := by
    intro a' l' c' h' o'
    unfold F21_k4
    rw [i64_lt _ (by omega) (by omega)]
    refine ⟨⟨k + 1, by omega, by omega, ?_⟩, by show ((l : Int) - ((k : Int) + 1)).toNat < ((l : Int) - k).toNat; omega⟩
    rw [take_en (by omega), entsB_snoc, ← List.append_assoc]
    exact o'
  refine ⟨_, _, _, rfl, _, s11.cell 0 rfl rfl, br_of (fun gf => ?_) (fun gf => ?_)⟩
  · have gf' : (en es k).kind = 1 := by simpa using gf
    refine ⟨_, s11.cell 0 rfl rfl, HEnt.use (text_ok a11 _ c11 _ (en es k).body h11 o11 (by omega) (by omega)) ?_⟩
    rintro _ h12 ⟨a12, c12, rfl, o12, _, _⟩
    refine ⟨_, _, _, rfl, done _ _ _ _ ?_⟩
    unfold entB
    rw [if_pos gf']
    simpa only [List.append_assoc] using o12
  · have gf' : (en es k).kind ≠ 1 := by simpa using gf
    refine done _ _ _ _ ?_
    unfold entB
    rw [if_neg gf', List.append_nil]
    simpa only [List.append_assoc] using o11
end Go.Proofs.YtnahhdkekchmfaaDoor
