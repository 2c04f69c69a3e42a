/- Chapter 3: the law ShaPieces: contract. -/
import Derived.Test.YtoheacfggalcbaaDoorShaL
namespace Go.Proofs.YtoheacfggalcbaaDoor
open Go.Vc Go.Sha
set_option linter.unusedVariables false

theorem copy_ok (p : Nat) (bs : List Nat) (h : Heap) (hr : Rep h p bs) : HEnt Tryd.prog 21 #[.pointer (some ⟨p, 0, none⟩)] h fun v h' => v = .pointer (some ⟨h.size, 0, none⟩) ∧ Rep h' h.size bs ∧ Ext h h' := by
  refine F21_ent _ _ _ ?_
  obtain ⟨L, hL, hL8, hp, hLt⟩ := hr
  have cl := comp_len bs (bs.length / 64)
  unfold F21
  refine br_of (fun ht => by simp at ht) (fun _ => ⟨_, rfl, true, ?_, ?_⟩)
  · rw [add_mk, cell_blk hp]; simp [hash]
  unfold F21_k1
  refine br_of (fun ht => by simp at ht) (fun _ => ?_)
  unfold F21_k2
  have z48 : (zeroC Tryd.prog 48).size = 74 := by kernel_rfl
  refine ⟨_, rfl, (hash (comp bs (bs.length / 64)) L bs.length).toArray, hash_len cl hL, cells_blk0 hp, newK_intro fun h1 n1 x1 s1 => ?_⟩
  refine storeK_whole n1 (hash_len cl hL) z48 (by intro u hu; simp [hash] at hu; rcases hu with rfl | ⟨_, _, rfl⟩ | ⟨_, _, rfl⟩ | rfl <;> rfl) fun h2 b2 o2 => ?_
  refine ⟨rfl, ⟨L, hL, hL8, b2, hLt⟩, ?_⟩
  exact ⟨by rw [o2.size]; exact x1.size, fun i hi => (o2.block i (by omega)).trans (x1.block i hi)⟩

/-- the pieces that came in -/
structure Pc (h0 : Heap) (a : Option Addr) (l : Nat) (ps : List (List Nat)) : Prop where
  len : ps.length = l
  at_ : ∀ i (hi : i < ps.length), ∃ b o, a = some ⟨b, o, none⟩ ∧ (∃ a' l' c', Vc.cell h0 ⟨b, o + i * 3, none⟩ = some (.slice a' l' c') ∧ In h0 a' l' c' ps[i]) ∧ ps[i].length ≤ 1048576 ∧
    (∃ x, Vc.cell h0 ⟨b, o + i * 3 + 1, none⟩ = some (.bool x)) ∧ ∃ x, Vc.cell h0 ⟨b, o + i * 3 + 2, none⟩ = some (.bool x)

theorem OwnN.in_ {h : Heap} {a : Option Addr} {l c : Nat} {bs : List Nat} (o : OwnN 5 h a l c (bs.map u8)) (hb : ∀ x ∈ bs, x < 256) : In h a l c bs := by
  have hl := OwnN.len o
  rw [List.length_map] at hl
  rcases o with ⟨rfl, rfl, rfl, hv⟩ | o
  · exact ⟨hl, Nat.le_refl _, hb, (fun ad e => by cases e), fun _ => List.eq_nil_of_length_eq_zero hl⟩
  · refine ⟨hl, o.cap, hb, fun ad e _ => ?_, fun e => ?_⟩
    · obtain ⟨b, e1, e2, e3, e4⟩ := o.cells ad e
      exact ⟨b, 0, e1, e3, e4⟩
    · obtain ⟨_, _, b, cs, e1, _⟩ := o
      rw [e] at e1; cases e1

/-- where the loop stands: the Hash at p, all that was written -/
structure St (h0 h : Heap) (p : Nat) (a : Option Addr) (l c : Nat) (bs : List Nat) : Prop where
  ext : Ext h0 h
  lt : ∀ x ∈ bs, x < 256
  old : h0.size ≤ p
  rep : Rep h p bs
  own : OwnN 5 h a l c (bs.map u8)
  apart : a ≠ some ⟨p, 0, none⟩
  new : ∀ k, a = some ⟨k, 0, none⟩ → h0.size ≤ k

theorem finish_ok (h0 h : Heap) (p : Nat) (a : Option Addr) (l c : Nat) (bs : List Nat) (hK : KAt h0) (s : St h0 h p a l c bs) (hlen : bs.length < 2 ^ 40) :
    F7_k12 (some ⟨p, 0, none⟩) a l c h fun v h' => v = .bool true ∧ Ext h0 h' := by
  have sL := sum_len bs
  unfold F7_k12
  refine HEnt.use (hsum_ok p bs h (hK.ext s.ext) s.rep (by omega)) ?_
  rintro _ h1 ⟨rfl, x1⟩
  have i1 : In h a l c bs := OwnN.in_ s.own s.lt
  refine ⟨_, by simp [sL], rfl, HEnt.use (refSum_ok a l c bs h h1 i1 x1 hlen) ?_⟩
  rintro _ h2 ⟨rfl, x2⟩
  refine ⟨_, by simp [sL], rfl, true, fun w => by rw [eq_dig _ _ sL sL]; simp, guard24, br_of (fun _ => ?_) (fun hb => by simp at hb)⟩
  refine HEnt.use (len_ok p bs h2 (s.rep.of ((x1.trans x2).block _ s.rep.lt))) ?_
  rintro _ _ ⟨rfl, rfl⟩
  refine ⟨_, rfl, br_of (fun _ => ?_) (fun hb => ?_)⟩
  · refine HEnt.use (works_ok _ (hK.ext ((s.ext.trans x1).trans x2))) ?_
    rintro _ h3 ⟨rfl, x3⟩
    exact ⟨true, rfl, rfl, ((s.ext.trans x1).trans x2).trans x3⟩
  · rw [i1.len] at hb; simp at hb

theorem pieces_ok (a : Option Addr) (l c : Nat) (ps : List (List Nat)) (h : Heap) (hK : KAt h) (ip : Pc h a l ps) (hl63 : l < 2 ^ 62) :
    HEnt Tryd.prog 7 #[.slice a l c] h fun v h' => v = .bool true ∧ Ext h h' := by
  refine F7_ent _ _ _ _ _ ?_
  have hpl := ip.len
  unfold F7
  refine HEnt.use (new_ok h) ?_
  rintro _ h1 ⟨rfl, r1, x1, s1⟩
  refine ⟨_, rfl, br_of (fun ht => by simp at ht) (fun _ => ?_)⟩
  unfold F7_k1
  refine ⟨fun p3 a4 l4 c4 x h' => ∃ k p, x = ((k : Nat) : Int) ∧ k ≤ l ∧ k ≤ 60 ∧ p3 = some ⟨p, 0, none⟩ ∧ (∃ bs, bs.length ≤ k * 1048576 ∧ St h h' p a4 l4 c4 bs), fun _ _ _ _ x _ => (60 - x).toNat,
    ⟨0, h.size, rfl, by omega, by omega, rfl, [], by simp, x1, by simp, Nat.le_refl _, r1, .inl ⟨rfl, rfl, rfl, rfl⟩, by rintro ⟨⟩, by rintro k ⟨⟩⟩, ?_⟩
  rintro h2 _ a4 l4 c4 _ ⟨k, p, rfl, hkl, hk60, rfl, bs, hbl, st⟩
  have fin : F7_k12 (some ⟨p, 0, none⟩) a4 l4 c4 h2 fun v h' => v = .bool true ∧ Ext h h' := finish_ok h h2 p a4 l4 c4 bs hK st (by omega)
  unfold F7_b2
  refine br_of (fun ht => ?_) (fun hf => ?_)
  case refine_2 => unfold F7_k3; exact br_of (fun ht => by simp at ht) (fun _ => fin)
  have hkl' : k < l := by
    have : (k : Int) < (l : Int) := by simpa using ht
    omega
  unfold F7_k3
  refine br_of (fun ht2 => ?_) (fun hf2 => fin)
  have hk60' : k < 60 := by
    have : (k : Int) < 60 := by simpa using ht2
    omega
  obtain ⟨b, o, rfl, ⟨a', l', c', hc0, hi⟩, hpl20, ⟨look, hlook⟩, ⟨fork, hfork⟩⟩ := ip.at_ k (by omega)
  generalize ps[k] = ds at *
  have hil := hi.len
  unfold F7_k4
  refine ⟨by decide, newK_intro fun h3 n3 x3 s3 => ⟨_, rfl, by omega, by omega, a', l', c', ?_, ?_⟩⟩
  · rw [Int.toNat_natCast, add_mk, add_mk, Nat.add_zero]; exact (st.ext.trans x3).some hc0
  have o3 : Own 5 h3 h2.size (some ⟨h2.size, 0, none⟩) 0 0 [] := Own.new (cs := #[]) n3 (Nat.le_refl _)
  have ple := st.rep.lt
  refine appK_own cells5 zero5 o3 (by omega) (hi.src (st.ext.trans x3)) (by simp [hil]) (by simp [u8, one]) (by rw [bytes5]; omega) fun a5 c5 h5 o5 k35 => ?_
  have k25 : Keep (h2.size ≤ ·) h2 h5 := (x3.keep _).trans k35
  have x25 : Ext h2 h5 := k25.ext fun i hi e => by omega
  have o5' : Own 5 h5 h2.size a5 (0 + l') c5 (ds.map u8) := by simpa using o5
  refine HEnt.use (write_ok p a5 (0 + l') c5 bs ds h5 ((hK.ext st.ext).ext x25) (st.rep.of (x25.block _ ple)) (Bytes.of_own o5' hi.lt ple) (by omega)) ?_
  rintro _ h6 ⟨rfl, r6, k56⟩
  have sz25 := x25.size
  have hold := st.old
  have x06 : Ext h h6 := by
    have : Keep (h.size ≤ ·) h h6 := ((st.ext.trans x25).keep _).trans (k56.mono fun i _ e => by omega)
    exact this.ext fun i hi e => by omega
  refine ⟨rfl, _, rfl, by omega, by omega, a', l', c', ?_, ?_⟩
  · rw [Int.toNat_natCast, add_mk, add_mk, Nat.add_zero]; exact x06.some hc0
  have own6 : OwnN 5 h6 a4 l4 c4 (bs.map u8) := OwnN.keep (OwnN.keep st.own (x25.keep fun _ => False) (fun _ _ h => h)) k56 (fun b' e1 e2 => st.apart (by rw [e1, e2]))
  have hl4 := OwnN.len st.own
  rw [List.length_map] at hl4
  refine appK_ownN cells5 zero5 own6 (hi.src x06) (by simp [hil]) (by simp [u8, one]) (by rw [bytes5]; omega) fun a7 c7 h7 o7 k67 d7 => ?_
  have sz56 := k56.size
  have hnewa := st.new
  have x07 : Ext h h7 := by
    have : Keep (h.size ≤ ·) h h7 := (x06.keep _).trans (k67.mono fun i _ e => by
      rcases e with e | e
      · exact hnewa _ e
      · have := x06.size; omega)
    exact this.ext fun i hi e => by omega
  have r7 : Rep h7 p (bs ++ ds) := r6.of (k67.block _ r6.lt (fun e => by
    rcases e with e | e
    · exact st.apart e
    · have := r6.lt; omega))
  have hds : ∀ x ∈ bs ++ ds, x < 256 := by
    intro x hx
    rcases List.mem_append.1 hx with h | h
    · exact st.lt x h
    · exact hi.lt x h
  have st7 : St h h7 p a7 (l4 + l') c7 (bs ++ ds) := by
    refine ⟨x07, hds, hold, r7, by rw [List.map_append]; exact o7, fun e => ?_, fun k e => ?_⟩
    · rcases d7 _ e with e | e
      · exact st.apart e
      · have := r6.lt; omega
    · rcases d7 _ e with e | e
      · exact hnewa _ e
      · have := x06.size; omega
  -- the own copy's block
  obtain ⟨ob, ocs, rfl, hob, hocs, hoc, hot⟩ := o5'.ex
  have hobn : ob ≠ p := by omega
  have obl := blk_lt hocs
  have hocs6 := k56.blk hocs hobn
  have ha4ob : a4 ≠ some ⟨ob, 0, none⟩ := fun e => by
    rcases st.own with ⟨e1, _⟩ | o
    · rw [e1] at e; cases e
    · obtain ⟨bb, e1, _, e3, _⟩ := o.cells _ e
      cases e1; omega
  have hocs7 := k67.blk hocs6 (fun e => by
    rcases e with e | e
    · exact ha4ob e
    · omega)
  have a7ob : a7 ≠ some ⟨ob, 0, none⟩ := fun e => by
    rcases d7 _ e with e | e
    · exact ha4ob e
    · omega
  have hu8 : ∀ i, i < l' → ∃ z, ocs[i]? = some (.int .u8 z) := fun i hi' => by
    have h1 : (ocs.toList.take (0 + l'))[i]? = (ds.map u8)[i]? := by rw [hot]
    rw [List.getElem?_take, if_pos (by omega), get_map u8 (by omega)] at h1
    rw [Array.getElem?_toList] at h1
    exact ⟨_, h1⟩
  refine ⟨fun x h' => ∃ (n : Nat) (cs' : Array Value), x = n ∧ n ≤ l' ∧ h'[ob]? = some (.cells cs' 5 (0, 0)) ∧ cs'.size = ocs.size ∧ (∀ i, i < l' → ∃ z, cs'[i]? = some (.int .u8 z)) ∧ Keep (· = ob) h7 h', fun x _ => (l' - x).toNat,
    ⟨0, ocs, rfl, by omega, hocs7, rfl, hu8, Keep.refl _ _⟩, ?_⟩
  rintro h8 _ ⟨n, cs', rfl, hn, hb8, hsz8, hz8, k8⟩
  unfold F7_b5
  refine br_of (fun ht3 => ?_) (fun hf3 => ?_)
  · have hnl : n < l' := by
      have : (n : Int) < ((0 + l' : Nat) : Int) := by simpa using ht3
      omega
    unfold F7_k6
    obtain ⟨z, hz⟩ := hz8 n hnl
    have e1 : IntKind.i64.wrap ((n : Int) + 1) = ((n + 1 : Nat) : Int) := by rw [i64_lt _ (by omega) (by omega)]; omega
    rw [e1, Int.toNat_natCast, Nat.mul_one]
    have hcs0 : n < cs'.size := (Array.getElem?_eq_some_iff.1 hz).1
    refine ⟨_, rfl, by omega, by omega, z, by rw [add_mk, Nat.zero_add, cell_blk hb8]; exact hz, _, rfl, by omega, by omega, ?_⟩
    rw [add_mk, Nat.zero_add]
    refine storeK_one hb8 hcs0 (.inr (Nat.zero_le _)) rfl fun h9 b9 o9 => ⟨⟨n + 1, _, rfl, by omega, b9, by simp [hsz8], fun i hi' => ?_, k8.trans (o9.keep rfl)⟩, by show ((l' : Int) - ((n + 1 : Nat) : Int)).toNat < ((l' : Int) - (n : Int)).toNat; omega⟩
    rw [Array.getElem?_setIfInBounds]
    split
    · exact ⟨_, rfl⟩
    · exact hz8 i hi'
  -- the round's end
  have st8 : St h h8 p a7 (l4 + l') c7 (bs ++ ds) := by
    have x8 : Ext h h8 := by
      have : Keep (h.size ≤ ·) h h8 := (x07.keep _).trans (k8.mono fun i _ e => by have := st.ext.size; omega)
      exact this.ext fun i hi e => by omega
    exact ⟨x8, hds, hold, r7.of (k8.block _ r7.lt (Ne.symm hobn)), OwnN.keep st7.own k8 (fun b' e1 e2 => a7ob (by rw [e1, e2])), st7.apart, st7.new⟩
  have hlen8 : (bs ++ ds).length ≤ (k + 1) * 1048576 := by rw [List.length_append]; omega
  clear st7 r7 x07 o7 k67 d7 own6 x06 k56 r6 o5' o5 k25 x25 n3 x3 k8 hb8 hz8 hocs hocs6 hocs7 hot hu8
  generalize bs ++ ds = us at *
  have e1 : IntKind.i64.wrap ((k : Int) + 1) = ((k + 1 : Nat) : Int) := by rw [i64_lt _ (by omega) (by omega)]; omega
  have hus : us.length < 2 ^ 40 := by omega
  have next : ∀ p' h', St h h' p' a7 (l4 + l') c7 us → F7_k11 (fun p3 a4 l4 c4 x h' => ∃ k p, x = ((k : Nat) : Int) ∧ k ≤ l ∧ k ≤ 60 ∧ p3 = some ⟨p, 0, none⟩ ∧ (∃ bs, bs.length ≤ k * 1048576 ∧ St h h' p a4 l4 c4 bs)) (fun _ _ _ _ x _ => (60 - x).toNat) ((60 - (k : Int)).toNat)
      (some ⟨b, o, none⟩) l c (some ⟨p', 0, none⟩) a7 (l4 + l') c7 (k : Int) h' (fun v h' => v = .bool true ∧ Ext h h') := fun p' h' s' => by
    unfold F7_k11
    rw [e1]
    exact ⟨⟨k + 1, p', rfl, by omega, by omega, rfl, us, hlen8, s'⟩, by show (60 - ((k + 1 : Nat) : Int)).toNat < (60 - (k : Int)).toNat; omega⟩
  have goOn : ∀ h', St h h' p a7 (l4 + l') c7 us → F7_k9 (fun p3 a4 l4 c4 x h' => ∃ k p, x = ((k : Nat) : Int) ∧ k ≤ l ∧ k ≤ 60 ∧ p3 = some ⟨p, 0, none⟩ ∧ (∃ bs, bs.length ≤ k * 1048576 ∧ St h h' p a4 l4 c4 bs)) (fun _ _ _ _ x _ => (60 - x).toNat) ((60 - (k : Int)).toNat)
      (some ⟨b, o, none⟩) l c (some ⟨p, 0, none⟩) a7 (l4 + l') c7 (k : Int) h' (fun v h' => v = .bool true ∧ Ext h h') := fun h' s' => by
    unfold F7_k9
    refine ⟨_, rfl, by omega, by omega, fork, by rw [Int.toNat_natCast, add_mk, add_mk]; exact s'.ext.some hfork, br_of (fun _ => ?_) (fun _ => next p h' s')⟩
    refine HEnt.use (copy_ok p us h' s'.rep) ?_
    rintro _ h9 ⟨rfl, r9, x9⟩
    refine ⟨_, rfl, br_of (fun hb => by simp at hb) (fun _ => ?_)⟩
    unfold F7_k10
    refine ⟨by decide, newK_intro fun h10 n10 x10 s10 => ⟨⟨_, _, _, n10⟩, ?_⟩⟩
    rintro h11 rfl
    have n11 : (h10.modify (at0 h9.size).block markO)[h9.size]? = some (.cells ([109, 111, 114, 101].map u8).toArray 5 (4, 5)) := by
      rw [Array.getElem?_modify]
      have : (at0 h9.size).block = h9.size := rfl
      rw [if_pos this, n10]; rfl
    have o11 : Only h9.size h10 (h10.modify (at0 h9.size).block markO) := ⟨by simp, fun k hk => by
      rw [Array.getElem?_modify, if_neg (fun e => hk e.symm)]⟩
    generalize (h10.modify (at0 h9.size).block markO) = h11 at *
    have k911 : Keep (· = h9.size) h9 h11 := (x10.keep _).trans (o11.keep rfl)
    have x911 : Ext h9 h11 := k911.ext fun k hk e => by omega
    have pl := s'.rep.lt
    have sz9 := x9.size
    have rl9 := r9.lt
    have x11 : Ext h' h11 := x9.trans x911
    refine HEnt.use (write_ok p (some ⟨h9.size, 0, none⟩) 4 4 us [109, 111, 114, 101] h11 (hK.ext (s'.ext.trans x11)) (s'.rep.of (x11.block _ pl)) ⟨rfl, by omega, by decide, ?_, by rintro ⟨⟩⟩ (by simp; omega)) ?_
    · rintro ad ⟨⟩ _
      exact ⟨h9.size, 0, rfl, by omega, cells_blk0 n11⟩
    rintro _ h12 ⟨rfl, r12, k12⟩
    refine ⟨rfl, next h'.size h12 ⟨?_, s'.lt, s'.ext.size, r9.of ((k12.block _ (by have := x911.size; omega) (by omega)).trans (x911.block _ rl9)), OwnN.keep (OwnN.keep s'.own (x11.keep fun _ => False) (fun _ _ h => h)) k12 (fun b' e1 e2 => s'.apart (by rw [e1, e2])), fun e => ?_, s'.new⟩⟩
    · have : Keep (h.size ≤ ·) h h12 := ((s'.ext.trans x11).keep _).trans (k12.mono fun i _ e => by omega)
      exact this.ext fun i hi e => by omega
    · rcases s'.own with ⟨e1, _⟩ | o
      · rw [e1] at e; cases e
      · obtain ⟨bb, e1, _, e3, _⟩ := o.cells _ e
        cases e1; omega
  unfold F7_k7
  refine ⟨_, rfl, by omega, by omega, look, by rw [Int.toNat_natCast, add_mk, add_mk]; exact st8.ext.some hlook, br_of (fun _ => ?_) (fun _ => ?_)⟩
  · refine HEnt.use (hsum_ok p us h8 (hK.ext st8.ext) st8.rep (by omega)) ?_
    rintro _ h9 ⟨rfl, x9⟩
    have sL := sum_len us
    have i8 : In h8 a7 (l4 + l') c7 us := OwnN.in_ st8.own st8.lt
    refine ⟨_, by simp [sL], rfl, HEnt.use (refSum_ok a7 (l4 + l') c7 us h8 h9 i8 x9 hus) ?_⟩
    rintro _ h10 ⟨rfl, x10⟩
    have x810 := x9.trans x10
    have st10 : St h h10 p a7 (l4 + l') c7 us := ⟨st8.ext.trans x810, st8.lt, st8.old, st8.rep.of (x810.block _ st8.rep.lt), OwnN.keep st8.own (x810.keep fun _ => False) (fun _ _ h => h), st8.apart, st8.new⟩
    refine ⟨_, by simp [sL], rfl, true, fun w => by rw [eq_dig _ _ sL sL]; simp, guard24, br_of (fun hb => by simp at hb) (fun _ => ?_)⟩
    refine HEnt.use (len_ok p us h10 st10.rep) ?_
    rintro _ _ ⟨rfl, rfl⟩
    refine ⟨_, rfl, ?_⟩
    unfold F7_k8
    refine br_of (fun hb => ?_) (fun _ => goOn _ st10)
    rw [i8.len] at hb; simp at hb
  · unfold F7_k8
    exact br_of (fun hb => by simp at hb) (fun _ => goOn _ st8)
end Go.Proofs.YtoheacfggalcbaaDoor
