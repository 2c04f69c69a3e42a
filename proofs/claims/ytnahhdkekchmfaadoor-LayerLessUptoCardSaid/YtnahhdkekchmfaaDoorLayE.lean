import Derived.Test.YtnahhdkekchmfaaDoorLayD

namespace Go.Proofs.YtnahhdkekchmfaaDoor
open Go.Vc Go.Sha Go.Trail Go.Lay
set_option linter.unusedVariables false
def u8 (n : Nat) : Value := .int .u8 n
theorem u8_one (bs : List Nat) : ∀ u ∈ bs.map u8, one u = true := by
  intro u hu
  obtain ⟨n, _, rfl⟩ := List.mem_map.1 hu
  rfl
theorem bytesV_lst (s : ByteArray) : bytesV s = (lst s).map u8 := by
  have := bytesV_str (lst s) (lst_lt s)
  rw [str_lst] at this; exact this
theorem cells5 : Tryd.prog.cellsOf 5 = 1 := by kernel_rfl
theorem zero5 : (((Tryd.prog.info? 5).bind (·.zero)).getD undef).cells.size = 1 := by kernel_rfl
theorem bytes5 : Tryd.prog.bytesOf 5 = 1 := by kernel_rfl
/-- an append to a slice of one's own, what it keeps told sharply -/
theorem app5 {h0 h : Heap} {l c m : Nat} {a : Option Addr} {x : Value} {bs new : List Nat} {K : Option Addr → Nat → Nat → Heap → Prop}
    (o : OwnAt 5 h0 h a l c (bs.map u8)) (src : srcK h 1 x m (new.map u8)) (hnew : new.length = m) (room : l + m < 2 ^ 40)
    (hK : ∀ a' c' h', OwnAt 5 h0 h' a' (l + m) c' ((bs ++ new).map u8) → Keep (fun k => a = some ⟨k, 0, none⟩ ∨ h.size ≤ k) h h' → (∀ k, a' = some ⟨k, 0, none⟩ → a = some ⟨k, 0, none⟩ ∨ h.size ≤ k) → K a' (l + m) c' h') : appK Tryd.prog 5 h a l c x K := by
  refine appK_ownN cells5 zero5 o.own src (by rw [List.length_map, hnew]) (u8_one _) (by rw [bytes5]; omega) fun a' c' h' o' k' d' => hK a' c' h' ⟨by rw [List.map_append]; exact o', fun k e => ?_, ?_⟩ k' d'
  · rcases d' k e with e | e
    · exact o.new k e
    · have := o.ext.size; omega
  · have : Keep (h0.size ≤ ·) h0 h' := (o.ext.keep _).trans (k'.mono fun i _ e => by
      rcases e with e | e
      · exact o.new _ e
      · have := o.ext.size; omega)
    exact this.ext fun i hi e => by omega
/-- an append that must move -/
theorem app5_grow {h0 h : Heap} {l c m : Nat} {a : Option Addr} {x : Value} {bs new : List Nat} {K : Option Addr → Nat → Nat → Heap → Prop}
    (hx : Ext h0 h) (hl : bs.length = l) (hc : ∀ ad, a = some ad → CellsAt h ad (bs.map u8)) (hn : a = none → bs = []) (src : srcK h 1 x m (new.map u8)) (hnew : new.length = m) (hgt : c < l + m) (room : l + m < 2 ^ 40)
    (hK : ∀ a' c' h', OwnAt 5 h0 h' a' (l + m) c' ((bs ++ new).map u8) → Ext h h' → K a' (l + m) c' h') : appK Tryd.prog 5 h a l c x K := by
  refine ⟨m, new.map u8, by rw [cells5]; exact src, fun hle => by omega, fun _ => ⟨bs.map u8, by rw [cells5, List.length_map]; omega, hc, fun e => by rw [hn e]; rfl, growslice_fits hgt (by rw [bytes5]; omega), ?_⟩⟩
  rintro c' b' h' hc' ⟨rfl, rfl⟩
  refine hK _ _ _ ⟨.inr ⟨by simp; omega, hc', h.size, _, rfl, Nat.zero_le _, Array.getElem?_push_size, ?_, ?_⟩, fun k e => by cases e; exact hx.size, hx.trans (Ext.push _ _)⟩ (Ext.push _ _)
  · simp [Builtin.zeroCells, zero5, hnew, hl]; omega
  · simp only [Array.toList_append, List.map_append]
    rw [List.take_append_of_le_length (by simp [hnew, hl]), List.take_of_length_le (by simp [hnew, hl])]

/-- a number by sevens of bits -/
def varF : Nat → Nat → List Nat
  | 0, n => [n]
  | f + 1, n => if n < 128 then [n] else (n % 128 + 128) :: varF f (n / 128)
def varB (n : Nat) : List Nat := varF 10 n
theorem varF_len : ∀ f n, (varF f n).length ≤ f + 1
  | 0, n => by simp [varF]
  | f + 1, n => by
    unfold varF
    split
    · simp
    · have := varF_len f (n / 128)
      simp only [List.length_cons]; omega
theorem varF_pos : ∀ f n, 0 < (varF f n).length
  | 0, n => by simp [varF]
  | f + 1, n => by
    unfold varF
    split <;> simp
theorem or128 : ∀ m : Nat, m < 256 → m ||| 128 = m % 128 + 128 := by decide +kernel
theorem orI128 (m : Nat) : orI .u8 (IntKind.u8.wrap (m : Int)) 128 = ((m % 128 + 128 : Nat) : Int) := by
  rw [u8_wrap]
  have h2 : m % 256 ||| 128 = m % 128 + 128 := by rw [or128 _ (Nat.mod_lt _ (by decide))]; omega
  have e : (BitVec.ofInt 8 ((m % 256 : Nat) : Int) ||| BitVec.ofInt 8 (128 : Int)).toNat = m % 256 ||| 128 := by
    rw [BitVec.ofInt_natCast, BitVec.toNat_or, BitVec.toNat_ofNat, Nat.mod_eq_of_lt (show m % 256 < 2 ^ 8 by omega)]
    rfl
  show IntKind.u8.wrap ((BitVec.ofInt 8 ((m % 256 : Nat) : Int) ||| BitVec.ofInt 8 (128 : Int)).toNat : Int) = _
  rw [e, h2, u8_wrap, Nat.mod_eq_of_lt (by omega)]
theorem shr7 (m : Nat) : shrI .u64 (m : Int) 7 = ((m / 128 : Nat) : Int) := by
  unfold shrI
  rw [show min ((7 : Int).toNat) IntKind.u64.bits = 7 from rfl]
  rw [Int.fdiv_eq_ediv_of_nonneg _ (by decide)]
  simp
theorem var_ok (n : Nat) (hn : n < 2 ^ 64) (h : Heap) : HEnt Tryd.prog 35 #[.int .u64 n] h fun v h' => ∃ a c, v = .slice a (varB n).length c ∧ OwnAt 5 h h' a (varB n).length c ((varB n).map u8) := by
  refine F35_ent _ _ _ ?_
  unfold F35
  refine ⟨fun x a l c hh => ∃ (f m : Nat) (bs : List Nat), x = m ∧ 1 ≤ f ∧ f ≤ 10 ∧ m < 128 ^ f ∧ bs.length = 10 - f ∧ bs ++ varF f m = varB n ∧ OwnAt 5 h hh a l c (bs.map u8), fun x _ _ _ _ => x.toNat, ⟨10, n, [], rfl, by omega, by omega, Nat.lt_of_lt_of_le hn (by decide), rfl, rfl, OwnAt.nil 5 (Ext.refl h)⟩, ?_⟩
  rintro h1 _ a l c ⟨f, m, bs, rfl, hf, hf2, hm, hbl, hb, o⟩
  have hol := o.len
  rw [List.length_map] at hol
  obtain ⟨f, rfl⟩ : ∃ g, f = g + 1 := ⟨f - 1, by omega⟩
  unfold F35_b1
  refine br_of (fun g => ?_) (fun g => ?_)
  · have hm' : 128 ≤ m := by simp at g; omega
    have hf' : 1 ≤ f := by
      refine Nat.pos_of_ne_zero fun e => ?_
      subst e; simp at hm; omega
    unfold F35_k2
    refine ⟨by decide, newK_intro fun h2 n2 x2 _ => ?_⟩
    rw [orI128] at n2
    refine app5 (m := 1) (new := [m % 128 + 128]) (o.grow x2) (srcK_slice rfl (fun ad e => by cases e; exact cells_blk0 n2) (by rintro ⟨⟩)) rfl (by omega) fun a' c' h3 o3 _ _ => ⟨by decide, ?_⟩
    rintro _ rfl
    rw [shr7]
    refine ⟨⟨f, m / 128, bs ++ [m % 128 + 128], rfl, hf', by omega, ?_, by simp; omega, ?_, o3⟩, by show ((m / 128 : Nat) : Int).toNat < (m : Int).toNat; omega⟩
    · rw [Nat.pow_succ] at hm; omega
    · rw [← hb]
      conv => rhs; unfold varF
      rw [if_neg (by omega)]
      simp
  · have hm' : m < 128 := by simp at g; omega
    unfold F35_k3
    refine ⟨by decide, newK_intro fun h2 n2 x2 _ => ?_⟩
    rw [u8_wrap, Nat.mod_eq_of_lt (by omega)] at n2
    refine app5 (m := 1) (new := [m]) (o.grow x2) (srcK_slice rfl (fun ad e => by cases e; exact cells_blk0 n2) (by rintro ⟨⟩)) rfl (by omega) fun a' c' h3 o3 _ _ => ?_
    have e : varB n = bs ++ [m] := by
      rw [← hb]
      conv => lhs; unfold varF
      rw [if_pos hm']
    have e2 : (varB n).length = l + 1 := by rw [e]; simp; omega
    exact ⟨a', c', by rw [e2], by rw [e2, e]; exact o3⟩
/-- a text with its length ahead -/
def textB (s : ByteArray) : List Nat := varB s.size ++ lst s
theorem textB_len (s : ByteArray) : (textB s).length ≤ s.size + 11 := by
  have := varF_len 10 s.size
  have := lst_len s
  unfold textB varB
  rw [List.length_append]; omega
theorem text_ok {h0 : Heap} (a : Option Addr) (l c : Nat) (bs : List Nat) (s : ByteArray) (h : Heap) (o : OwnAt 5 h0 h a l c (bs.map u8)) (hs : s.size < 2 ^ 30) (hl : l < 2 ^ 38) :
    HEnt Tryd.prog 36 #[.slice a l c, .string s] h fun v h' => ∃ a' c', v = .slice a' (l + (textB s).length) c' ∧ OwnAt 5 h0 h' a' (l + (textB s).length) c' ((bs ++ textB s).map u8) ∧
      Keep (fun k => a = some ⟨k, 0, none⟩ ∨ h.size ≤ k) h h' ∧ (∀ k, a' = some ⟨k, 0, none⟩ → a = some ⟨k, 0, none⟩ ∨ h.size ≤ k) := by
  have ht := textB_len s
  have htl : (textB s).length = (varB s.size).length + s.size := by unfold textB; rw [List.length_append, lst_len]
  refine F36_ent _ _ _ _ _ _ ?_
  unfold F36
  rw [u64_lt _ (by omega) (by omega)]
  refine HEnt.use (var_ok s.size (by omega) h) ?_
  rintro _ h1 ⟨a1, c1, rfl, o1⟩
  refine ⟨_, _, _, rfl, ?_⟩
  refine app5 (o.grow o1.ext) (o1.src) (by rfl) (by omega) fun a2 c2 h2 o2 k2 d2 => ?_
  have hxs := o1.ext.size
  refine app5 (m := s.size) (new := lst s) o2 ⟨rfl, (bytesV_lst s).symm⟩ (lst_len s) (by omega) fun a3 c3 h3 o3 k3 d3 => ?_
  refine ⟨a3, c3, ?_, ?_, ?_, fun k e => ?_⟩
  · rw [htl, Nat.add_assoc]
  · rw [htl, ← Nat.add_assoc]; unfold textB; rw [← List.append_assoc]; exact o3
  · refine ((o1.ext.keep _).trans (k2.mono fun k _ e => ?_)).trans (k3.mono fun k _ e => ?_)
    · rcases e with e | e
      · exact .inl e
      · exact .inr (by omega)
    · rcases e with e | e
      · rcases d2 k e with e | e
        · exact .inl e
        · exact .inr (by omega)
      · have := k2.size
        exact .inr (by omega)
  · rcases d3 k e with e | e
    · rcases d2 k e with e | e
      · exact .inl e
      · exact .inr (by omega)
    · have := k2.size
      exact .inr (by omega)
end Go.Proofs.YtnahhdkekchmfaaDoor
