import Derived.Test.YtpnbbgcaaogpdaaDoorManA

namespace Go.Proofs.YtpnbbgcaaogpdaaDoor
open Go.Vc Go.Sha Go.Trail Go.RowKit Go.Man
set_option linter.unusedVariables false
set_option maxRecDepth 4000
def u8 (n : Nat) : Value := .int .u8 n
theorem u8_one (bs : List Nat) : ∀ u ∈ bs.map u8, one u = true := by
  intro u hu
  obtain ⟨n, _, rfl⟩ := List.mem_map.1 hu
  rfl
theorem bytesV_lst (s : ByteArray) : bytesV s = (lst s).map u8 := by
  have := bytesV_str (lst s) (lst_lt s)
  rw [str_lst] at this; exact this
theorem cells5 : Tryd.prog.cellsOf 5 = 1 := by kernel_rfl
theorem zero5 : (((Tryd.prog.info? 5).bind (·.zero)).getD undef).cells.size = 1 := by kernel_rfl
theorem bytes5 : Tryd.prog.bytesOf 5 = 1 := by kernel_rfl
/-- an append to a slice of one's own, what it keeps told sharply -/
theorem app5 {h0 h : Heap} {l c m : Nat} {a : Option Addr} {x : Value} {bs new : List Nat} {K : Option Addr → Nat → Nat → Heap → Prop}
    (o : OwnAt 5 h0 h a l c (bs.map u8)) (src : srcK h 1 x m (new.map u8)) (hnew : new.length = m) (room : l + m < 2 ^ 40)
    (hK : ∀ a' c' h', OwnAt 5 h0 h' a' (l + m) c' ((bs ++ new).map u8) → Keep (fun k => a = some ⟨k, 0, none⟩ ∨ h.size ≤ k) h h' → (∀ k, a' = some ⟨k, 0, none⟩ → a = some ⟨k, 0, none⟩ ∨ h.size ≤ k) → K a' (l + m) c' h') : appK Tryd.prog 5 h a l c x K := by
  refine appK_ownN cells5 zero5 o.own src (by rw [List.length_map, hnew]) (u8_one _) (by rw [bytes5]; omega) fun a' c' h' o' k' d' => hK a' c' h' ⟨by rw [List.map_append]; exact o', fun k e => ?_, ?_⟩ k' d'
  · rcases d' k e with e | e
    · exact o.new k e
    · have := o.ext.size; omega
  · have : Keep (h0.size ≤ ·) h0 h' := (o.ext.keep _).trans (k'.mono fun i _ e => by
      rcases e with e | e
      · exact o.new _ e
      · have := o.ext.size; omega)
    exact this.ext fun i hi e => by omega
/-- an append that must move -/
theorem app5_grow {h0 h : Heap} {l c m : Nat} {a : Option Addr} {x : Value} {bs new : List Nat} {K : Option Addr → Nat → Nat → Heap → Prop}
    (hx : Ext h0 h) (hl : bs.length = l) (hc : ∀ ad, a = some ad → CellsAt h ad (bs.map u8)) (hn : a = none → bs = []) (src : srcK h 1 x m (new.map u8)) (hnew : new.length = m) (hgt : c < l + m) (room : l + m < 2 ^ 40)
    (hK : ∀ a' c' h', OwnAt 5 h0 h' a' (l + m) c' ((bs ++ new).map u8) → Ext h h' → K a' (l + m) c' h') : appK Tryd.prog 5 h a l c x K := by
  refine ⟨m, new.map u8, by rw [cells5]; exact src, fun hle => by omega, fun _ => ⟨bs.map u8, by rw [cells5, List.length_map]; omega, hc, fun e => by rw [hn e]; rfl, growslice_fits hgt (by rw [bytes5]; omega), ?_⟩⟩
  rintro c' b' h' hc' ⟨rfl, rfl⟩
  refine hK _ _ _ ⟨.inr ⟨by simp; omega, hc', h.size, _, rfl, Nat.zero_le _, Array.getElem?_push_size, ?_, ?_⟩, fun k e => by cases e; exact hx.size, hx.trans (Ext.push _ _)⟩ (Ext.push _ _)
  · simp [Builtin.zeroCells, zero5, hnew, hl]; omega
  · simp only [Array.toList_append, List.map_append]
    rw [List.take_append_of_le_length (by simp [hnew, hl]), List.take_of_length_le (by simp [hnew, hl])]

/-- a number by sevens of bits -/
def varF : Nat → Nat → List Nat
  | 0, n => [n]
  | f + 1, n => if n < 128 then [n] else (n % 128 + 128) :: varF f (n / 128)
def varB (n : Nat) : List Nat := varF 10 n
theorem varF_len : ∀ f n, (varF f n).length ≤ f + 1
  | 0, n => by simp [varF]
  | f + 1, n => by
    unfold varF
    split
    · simp
    · have := varF_len f (n / 128)
      simp only [List.length_cons]; omega
theorem varF_pos : ∀ f n, 0 < (varF f n).length
  | 0, n => by simp [varF]
  | f + 1, n => by
    unfold varF
    split <;> simp
theorem or128 : ∀ m : Nat, m < 256 → m ||| 128 = m % 128 + 128 := by decide +kernel
theorem orI128 (m : Nat) : orI .u8 (IntKind.u8.wrap (m : Int)) 128 = ((m % 128 + 128 : Nat) : Int) := by
  rw [u8_wrap]
  have h2 : m % 256 ||| 128 = m % 128 + 128 := by rw [or128 _ (Nat.mod_lt _ (by decide))]; omega
  have e : (BitVec.ofInt 8 ((m % 256 : Nat) : Int) ||| BitVec.ofInt 8 (128 : Int)).toNat = m % 256 ||| 128 := by
    rw [BitVec.ofInt_natCast, BitVec.toNat_or, BitVec.toNat_ofNat, Nat.mod_eq_of_lt (show m % 256 < 2 ^ 8 by omega)]
    rfl
  show IntKind.u8.wrap ((BitVec.ofInt 8 ((m % 256 : Nat) : Int) ||| BitVec.ofInt 8 (128 : Int)).toNat : Int) = _
  rw [e, h2, u8_wrap, Nat.mod_eq_of_lt (by omega)]
theorem shr7 (m : Nat) : shrI .u64 (m : Int) 7 = ((m / 128 : Nat) : Int) := by
  unfold shrI
  rw [show min ((7 : Int).toNat) IntKind.u64.bits = 7 from rfl]
  rw [Int.fdiv_eq_ediv_of_nonneg _ (by decide)]
  simp
theorem var_ok (n : Nat) (hn : n < 2 ^ 64) (h : Heap) : HEnt Tryd.prog 36 #[.int .u64 n] h fun v h' => ∃ a c, v = .slice a (varB n).length c ∧ OwnAt 5 h h' a (varB n).length c ((varB n).map u8) := by
  refine F36_ent _ _ _ ?_
  unfold F36
  refine ⟨fun x a l c hh => ∃ (f m : Nat) (bs : List Nat), x = m ∧ 1 ≤ f ∧ f ≤ 10 ∧ m < 128 ^ f ∧ bs.length = 10 - f ∧ bs ++ varF f m = varB n ∧ OwnAt 5 h hh a l c (bs.map u8), fun x _ _ _ _ => x.toNat, ⟨10, n, [], rfl, by omega, by omega, Nat.lt_of_lt_of_le hn (by decide), rfl, rfl, OwnAt.nil 5 (Ext.refl h)⟩, ?_⟩
  rintro h1 _ a l c ⟨f, m, bs, rfl, hf, hf2, hm, hbl, hb, o⟩
  have hol := o.len
  rw [List.length_map] at hol
  obtain ⟨f, rfl⟩ : ∃ g, f = g + 1 := ⟨f - 1, by omega⟩
  unfold F36_b1
  refine br_of (fun g => ?_) (fun g => ?_)
  · have hm' : 128 ≤ m := by simp at g; omega
    have hf' : 1 ≤ f := by
      refine Nat.pos_of_ne_zero fun e => ?_
      subst e; simp at hm; omega
    unfold F36_k2
    refine ⟨by decide, newK_intro fun h2 n2 x2 _ => ?_⟩
    rw [orI128] at n2
    refine app5 (m := 1) (new := [m % 128 + 128]) (o.grow x2) (srcK_slice rfl (fun ad e => by cases e; exact cells_blk0 n2) (by rintro ⟨⟩)) rfl (by omega) fun a' c' h3 o3 _ _ => ⟨by decide, ?_⟩
    rintro _ rfl
    rw [shr7]
    refine ⟨⟨f, m / 128, bs ++ [m % 128 + 128], rfl, hf', by omega, ?_, by simp; omega, ?_, o3⟩, by show ((m / 128 : Nat) : Int).toNat < (m : Int).toNat; omega⟩
    · rw [Nat.pow_succ] at hm; omega
    · rw [← hb]
      conv => rhs; unfold varF
      rw [if_neg (by omega)]
      simp
  · have hm' : m < 128 := by simp at g; omega
    unfold F36_k3
    refine ⟨by decide, newK_intro fun h2 n2 x2 _ => ?_⟩
    rw [u8_wrap, Nat.mod_eq_of_lt (by omega)] at n2
    refine app5 (m := 1) (new := [m]) (o.grow x2) (srcK_slice rfl (fun ad e => by cases e; exact cells_blk0 n2) (by rintro ⟨⟩)) rfl (by omega) fun a' c' h3 o3 _ _ => ?_
    have e : varB n = bs ++ [m] := by
      rw [← hb]
      conv => lhs; unfold varF
      rw [if_pos hm']
    have e2 : (varB n).length = l + 1 := by rw [e]; simp; omega
    exact ⟨a', c', by rw [e2], by rw [e2, e]; exact o3⟩

theorem own_len {h0 h : Heap} {a : Option Addr} {l c : Nat} {bs : List Nat} (o : OwnAt 5 h0 h a l c (bs.map u8)) : bs.length = l := by
  have := o.len; rwa [List.length_map] at this
theorem own_cells {h0 h : Heap} {a : Option Addr} {l c : Nat} {bs : List Nat} (o : OwnAt 5 h0 h a l c (bs.map u8)) : (∀ ad, a = some ad → CellsAt h ad (bs.map u8)) ∧ (a = none → bs = []) := by
  rcases o.own with ⟨rfl, rfl, rfl, e⟩ | o
  · exact ⟨fun ad e' => (by cases e'), fun _ => List.map_eq_nil_iff.1 e⟩
  · refine ⟨fun ad e => ?_, fun e => ?_⟩
    · obtain ⟨b, rfl, _, _, h⟩ := o.cells ad e
      exact h
    · obtain ⟨b, cs, e2, _⟩ := o.ex
      rw [e] at e2; cases e2
theorem mkCells_size (z : Array Value) (n : Nat) : (mkCells z n).size = n := by simp [mkCells]
theorem padded_ok (s : ByteArray) (n : Nat) (hs : s.size ≤ n) (hn : n < 2 ^ 40) (h : Heap) : HEnt Tryd.prog 34 #[.string s, .int .i64 n] h fun v h' => v = .string (str (pad (lst s) n)) ∧ Ext h h' := by
  refine F34_ent _ _ _ _ ?_
  have ls := lst_len s
  unfold F34
  rw [Int.toNat_natCast, Nat.mul_one]
  refine ⟨by omega, by omega, by omega, by omega, newK_intro fun h1 hb1 x1 _ => ?_⟩
  rintro _ rfl
  have o1 : OwnAt 5 h h1 (some (at0 h.size)) 0 n (([] : List Nat).map u8) := ⟨.inr ⟨rfl, Nat.zero_le _, h.size, _, rfl, Nat.zero_le _, hb1, by rw [mkCells_size]; exact Nat.le_refl _, by simp⟩, fun k e => by cases e; exact Nat.le_refl _, x1⟩
  refine ⟨fun a l c x h' => ∃ k : Nat, x = k ∧ s.size ≤ k ∧ k ≤ n ∧ OwnAt 5 h h' a l c ((List.replicate (k - s.size) 48).map u8), fun _ _ _ x _ => (n - x).toNat, ⟨s.size, rfl, Nat.le_refl _, hs, by rw [Nat.sub_self]; exact o1⟩, ?_⟩
  rintro h2 a l c _ ⟨k, rfl, hk1, hk2, o⟩
  have hol := own_len o
  rw [List.length_replicate] at hol
  unfold F34_b1
  refine br_of (fun ht => ?_) (fun hf => ?_)
  · have hk' : k < n := by
      have : (k : Int) < (n : Int) := by simpa using ht
      omega
    have e1 : IntKind.i64.wrap ((k : Int) + 1) = ((k + 1 : Nat) : Int) := by rw [i64_lt _ (by omega) (by omega)]; omega
    unfold F34_k2
    refine ⟨by decide, newK_intro fun h3 n3 x3 _ => ?_⟩
    refine app5 (m := 1) (new := [48]) (o.grow x3) (srcK_slice rfl (fun ad e => by cases e; exact cells_blk0 n3) (by rintro ⟨⟩)) rfl (by omega) fun a' c' h4 o4 _ _ => ?_
    rintro _ rfl
    rw [e1]
    refine ⟨⟨k + 1, rfl, by omega, by omega, ?_⟩, by show ((n : Int) - ((k + 1 : Nat) : Int)).toNat < ((n : Int) - (k : Int)).toNat; omega⟩
    rw [show k + 1 - s.size = (k - s.size) + 1 by omega, List.replicate_succ']
    exact o4
  · have hk' : k = n := by
      have : ¬ (k : Int) < (n : Int) := by simpa using hf
      omega
    subst hk'
    unfold F34_k3
    refine app5 (m := s.size) (new := lst s) o ⟨rfl, (bytesV_lst s).symm⟩ ls (by omega) fun a' c' h4 o4 _ _ => ?_
    have hc := own_cells o4
    have hl := own_len o4
    have e : List.replicate (k - s.size) 48 ++ lst s = pad (lst s) k := by unfold pad; rw [ls]
    rw [e] at hc hl
    refine ⟨str (pad (lst s) k), by rw [str_size]; exact hl, fun ad e => ?_, fun e => by rw [← hl, hc.2 e]; rfl, rfl, o4.ext⟩
    rw [bytesV_str]
    · exact hc.1 ad e
    · intro x hx
      unfold pad at hx
      rcases List.mem_append.1 hx with hx | hx
      · rw [(List.mem_replicate.1 hx).2]; decide
      · exact lst_lt s x hx
end Go.Proofs.YtpnbbgcaaogpdaaDoor
