/- Chapter 3: the laws ShaNobody, ShaLooks, ShaNested: contracts. -/
import Derived.Test.YtoheacfggalcbaaDoorShaE
import Derived.Test.YtoheacfggalcbaaDoorVcS
import Derived.Test.YtoheacfggalcbaaDoorVcT
namespace Go.Proofs.YtoheacfggalcbaaDoor
open Go.Vc Go.Sha
set_option linter.unusedVariables false

theorem eq_dig (D E : List Nat) (hD : D.length = 32) (hE : E.length = 32) (w : World) : (Op.equal 24 (.agg (D.map u8).toArray) (.agg (E.map u8).toArray)).run Tryd.prog w = .ok (decide (D = E)) w := by
  have e : ∀ L : List Nat, L.map u8 = (L.map Int.ofNat).map fun z => Value.int .u8 z := fun L => by rw [List.map_map]; rfl
  rw [e D, e E, run_equal_ints Tryd.underlying24 Tryd.underlying5 (by kernel_rfl) _ _ (by simp [hD]) (by simp [hE])]
  congr 1
  have : D.map Int.ofNat = E.map Int.ofNat ↔ D = E := ⟨fun h => by
    have := congrArg (List.map Int.toNat) h
    rw [List.map_map, List.map_map, show (Int.toNat ∘ Int.ofNat) = id from rfl, List.map_id, List.map_id] at this
    exact this, fun h => by rw [h]⟩
  exact decide_eq_decide.2 this
theorem guard24 : Tryd.prog.eqGuardType Tryd.prog.depth 24 = false := by kernel_rfl

/-! ### a Hash that no call made -/
def Dead (h : Heap) (p : Option Addr) : Prop := p = none ∨ ∃ b, p = some ⟨b, 0, none⟩ ∧ Vc.cell h ⟨b, 0, none⟩ = some (.bool false)
theorem Dead.ext {h h' : Heap} {p : Option Addr} (d : Dead h p) (x : Ext h h') : Dead h' p := d.imp id fun ⟨b, e, hc⟩ => ⟨b, e, x.some hc⟩

theorem write_dead (p : Option Addr) (a : Option Addr) (l c : Nat) (h : Heap) (d : Dead h p) : HEnt Tryd.prog 15 #[.pointer p, .slice a l c] h fun v h' => v = .tuple #[] ∧ h' = h := by
  refine F15_ent _ _ _ _ _ _ ?_
  unfold F15
  rcases d with rfl | ⟨b, rfl, hc⟩
  · refine br_of (fun _ => ?_) (fun hf => by simp at hf)
    unfold F15_k1
    exact br_of (fun _ => ⟨rfl, rfl⟩) (fun hf => by simp at hf)
  · refine br_of (fun ht => by simp at ht) (fun _ => ⟨_, rfl, false, by rw [add_mk]; exact hc, ?_⟩)
    unfold F15_k1
    exact br_of (fun _ => ⟨rfl, rfl⟩) (fun hf => by simp at hf)
theorem len_dead (p : Option Addr) (h : Heap) (d : Dead h p) : HEnt Tryd.prog 17 #[.pointer p] h fun v h' => v = .int .i64 0 ∧ h' = h := by
  refine F17_ent _ _ _ ?_
  unfold F17
  rcases d with rfl | ⟨b, rfl, hc⟩
  · refine br_of (fun _ => ?_) (fun hf => by simp at hf)
    unfold F17_k1
    exact br_of (fun _ => ⟨rfl, rfl⟩) (fun hf => by simp at hf)
  · refine br_of (fun ht => by simp at ht) (fun _ => ⟨_, rfl, false, by rw [add_mk]; exact hc, ?_⟩)
    unfold F17_k1
    exact br_of (fun _ => ⟨rfl, rfl⟩) (fun hf => by simp at hf)
theorem copy_dead (p : Option Addr) (h : Heap) (d : Dead h p) : HEnt Tryd.prog 21 #[.pointer p] h fun v h' => v = .pointer none ∧ h' = h := by
  refine F21_ent _ _ _ ?_
  unfold F21
  rcases d with rfl | ⟨b, rfl, hc⟩
  · refine br_of (fun _ => ?_) (fun hf => by simp at hf)
    unfold F21_k1
    exact br_of (fun _ => ⟨rfl, rfl⟩) (fun hf => by simp at hf)
  · refine br_of (fun ht => by simp at ht) (fun _ => ⟨_, rfl, false, by rw [add_mk]; exact hc, ?_⟩)
    unfold F21_k1
    exact br_of (fun _ => ⟨rfl, rfl⟩) (fun hf => by simp at hf)
theorem hsum_dead (p : Option Addr) (h : Heap) (d : Dead h p) : HEnt Tryd.prog 16 #[.pointer p] h fun v h' => v = .agg ((List.replicate 32 0).map u8).toArray ∧ Ext h h' := by
  refine F16_ent _ _ _ ?_
  unfold F16
  refine newK_intro fun h1 n1 x1 s1 => newK_intro fun h2 n2 x2 s2 => ?_
  rw [z24] at n1 n2
  have fin : F16_k1 p (at0 h.size) (at0 h1.size) true h2 (fun v h' => v = .agg ((List.replicate 32 0).map u8).toArray ∧ Ext h h') := by
    unfold F16_k1
    refine br_of (fun _ => ?_) (fun hf => by simp at hf)
    refine ⟨_, by simp, cells_blk0 n2, storeK_whole (x2.blk n1) (by simp) (by simp) (by simp [u8, one]) fun h3 b3 o3 => ⟨_, by simp, cells_blk0 b3, rfl, ?_⟩⟩
    have x02 := x1.trans x2
    exact ⟨by rw [o3.size]; exact x02.size, fun i hi => (o3.block i (by omega)).trans (x02.block i hi)⟩
  have d2 := d.ext (x1.trans x2)
  rcases d2 with rfl | ⟨b, rfl, hc⟩
  · exact br_of (fun _ => fin) (fun hf => by simp at hf)
  · exact br_of (fun ht => by simp at ht) (fun _ => ⟨_, rfl, false, by rw [add_mk]; exact hc, fin⟩)

theorem nobody_ok (a : Option Addr) (l c : Nat) (h : Heap) (hK : KAt h) : HEnt Tryd.prog 8 #[.slice a l c] h fun v h' => v = .bool true ∧ Ext h h' := by
  refine F8_ent _ _ _ _ _ ?_
  unfold F8
  refine newK_intro fun h1 n1 x1 s1 => ⟨by decide, newK_intro fun h2 n2 x2 s2 => ?_⟩
  have z48 : (zeroC Tryd.prog 48)[0]? = some (.bool false) := by kernel_rfl
  have x02 := x1.trans x2
  refine ⟨fun x h' => ∃ k : Nat, x = k ∧ k ≤ 2 ∧ Ext h2 h', fun x _ => (2 - x).toNat, ⟨0, rfl, by omega, Ext.refl _⟩, ?_⟩
  rintro h3 _ ⟨k, rfl, hk, x3⟩
  unfold F8_b1
  refine br_of (fun ht => ?_) (fun hf => ?_)
  · have hk2 : k < 2 := by
      have : (k : Int) < 2 := by simpa using ht
      omega
    unfold F8_k2
    obtain ⟨p, hp, hd⟩ : ∃ p, Vc.cell h3 ((at0 h1.size).add ((k : Int).toNat * 1)) = some (.pointer p) ∧ Dead h3 p := by
      rw [at0_mk, add_mk, Int.toNat_natCast, Nat.mul_one, Nat.zero_add, cell_blk (x3.blk n2)]
      have : k = 0 ∨ k = 1 := by omega
      rcases this with rfl | rfl
      · exact ⟨_, rfl, .inl rfl⟩
      · refine ⟨_, rfl, .inr ⟨h.size, rfl, ?_⟩⟩
        rw [cell_blk (x3.blk (x2.blk n1))]; exact z48
    refine ⟨_, rfl, by omega, by omega, p, hp, ?_⟩
    refine HEnt.use (write_dead p a l c h3 hd) ?_
    rintro _ _ ⟨rfl, rfl⟩
    refine ⟨rfl, HEnt.use (hsum_dead p _ hd) ?_⟩
    rintro _ h4 ⟨rfl, x4⟩
    refine ⟨_, by simp, rfl, true, fun w => ?_, guard24, br_of (fun ht => by simp at ht) (fun _ => ?_)⟩
    · rw [z24, eq_dig _ _ (by simp) (by simp)]; simp
    refine HEnt.use (len_dead p h4 (hd.ext x4)) ?_
    rintro _ _ ⟨rfl, rfl⟩
    refine ⟨0, rfl, br_of (fun ht => by simp at ht) (fun _ => ?_)⟩
    refine HEnt.use (copy_dead p _ (hd.ext x4)) ?_
    rintro _ _ ⟨rfl, rfl⟩
    refine ⟨none, rfl, ?_⟩
    unfold F8_k3
    refine br_of (fun ht => by simp at ht) (fun _ => ?_)
    unfold F8_k4
    have e1 : IntKind.i64.wrap ((k : Int) + 1) = ((k + 1 : Nat) : Int) := by rw [i64_lt _ (by omega) (by omega)]; omega
    rw [e1]
    exact ⟨⟨k + 1, rfl, by omega, x3.trans x4⟩, by show (2 - ((k + 1 : Nat) : Int)).toNat < (2 - (k : Int)).toNat; omega⟩
  · unfold F8_k5
    refine HEnt.use (works_ok h3 (hK.ext (x02.trans x3))) ?_
    rintro _ h4 ⟨rfl, x4⟩
    exact ⟨true, rfl, rfl, x02.trans (x3.trans x4)⟩

/-! ### a Hash asked, and gone on with -/
theorem len_ok (p : Nat) (bs : List Nat) (h : Heap) (hr : Rep h p bs) : HEnt Tryd.prog 17 #[.pointer (some ⟨p, 0, none⟩)] h fun v h' => v = .int .i64 bs.length ∧ h' = h := by
  refine F17_ent _ _ _ ?_
  have hn := hr.n
  obtain ⟨L, hL, hL8, hp, hLt⟩ := hr
  unfold F17
  refine br_of (fun ht => by simp at ht) (fun _ => ⟨_, rfl, true, ?_, ?_⟩)
  · rw [add_mk, cell_blk hp]; simp [hash]
  unfold F17_k1
  refine br_of (fun ht => by simp at ht) (fun _ => ?_)
  unfold F17_k2
  exact ⟨_, rfl, _, by rw [add_mk]; exact hn, rfl, rfl⟩

/-- a slice of bytes that came in -/
structure In (h0 : Heap) (a : Option Addr) (l c : Nat) (bs : List Nat) : Prop where
  len : bs.length = l
  cap : l ≤ c
  lt : ∀ x ∈ bs, x < 256
  at_ : ∀ ad, a = some ad → bs ≠ [] → ∃ b o, ad = ⟨b, o, none⟩ ∧ b < h0.size ∧ CellsAt h0 ⟨b, o, none⟩ (bs.map u8)
  nil : a = none → bs = []
theorem In.bytes {h0 h : Heap} {a : Option Addr} {l c p : Nat} {bs : List Nat} (i : In h0 a l c bs) (x : Ext h0 h) (hp : h0.size ≤ p) : Bytes h p a l c bs :=
  ⟨i.len, i.cap, i.lt, fun ad e hne => by
    obtain ⟨b, o, e1, e2, e3⟩ := i.at_ ad e hne
    exact ⟨b, o, e1, by omega, e3.ext x⟩, i.nil⟩
theorem In.src {h0 h : Heap} {a : Option Addr} {l c : Nat} {bs : List Nat} (i : In h0 a l c bs) (x : Ext h0 h) : srcK h 1 (.slice a l c) l (bs.map u8) := by
  refine srcK_slice (by simp [i.len]) (fun ad e => ?_) (fun e => by simp [i.nil e])
  by_cases hne : bs = []
  · subst hne; intro j v hv; simp at hv
  obtain ⟨b, o, rfl, e2, e3⟩ := i.at_ ad e hne
  exact e3.ext x
theorem Bytes.of_own {h : Heap} {B p : Nat} {a : Option Addr} {l c : Nat} {bs : List Nat} (o : Own 5 h B a l c (bs.map u8)) (hb : ∀ x ∈ bs, x < 256) (hp : p < B) : Bytes h p a l c bs := by
  have hl := o.len
  rw [List.length_map] at hl
  refine ⟨hl, o.cap, hb, fun ad e _ => ?_, fun e => ?_⟩
  · obtain ⟨b, e1, e2, e3, e4⟩ := o.cells ad e
    exact ⟨b, 0, e1, by omega, e4⟩
  · obtain ⟨_, _, b, cs, e1, _⟩ := o
    rw [e] at e1; cases e1
theorem cells5 : Tryd.prog.cellsOf 5 = 1 := by kernel_rfl
theorem zero5 : (((Tryd.prog.info? 5).bind (·.zero)).getD undef).cells.size = 1 := by kernel_rfl
theorem bytes5 : Tryd.prog.bytesOf 5 = 1 := by kernel_rfl
theorem sum_len (bs : List Nat) : (Sha.sum bs).length = 32 := by simp [Sha.sum, digest]
theorem sum_lt (bs : List Nat) : ∀ x ∈ Sha.sum bs, x < 256 := by
  intro x hx
  simp only [Sha.sum, digest, List.mem_map] at hx
  obtain ⟨i, _, rfl⟩ := hx
  exact Nat.mod_lt _ (by decide)

theorem looks_ok (a : Option Addr) (la ca : Nat) (us : List Nat) (b : Option Addr) (lb cb : Nat) (bs : List Nat) (h : Heap) (hK : KAt h) (ia : In h a la ca us) (ib : In h b lb cb bs) (hs : us.length + bs.length < 2 ^ 40) :
    HEnt Tryd.prog 4 #[.slice a la ca, .slice b lb cb] h fun v h' => v = .bool true ∧ Ext h h' := by
  refine F4_ent _ _ _ _ _ _ _ _ ?_
  have hla := ia.len
  have hlb := ib.len
  unfold F4
  refine HEnt.use (new_ok h) ?_
  rintro _ h1 ⟨rfl, r1, x1, s1⟩
  refine ⟨_, rfl, HEnt.use (new_ok h1) ?_⟩
  rintro _ h2 ⟨rfl, r2, x2, s2⟩
  refine ⟨_, rfl, br_of (fun ht => by simp at ht) (fun _ => ?_)⟩
  unfold F4_k1
  refine br_of (fun ht => by simp at ht) (fun _ => ?_)
  have r1' : Rep h2 h.size [] := r1.of (x2.block _ (by omega))
  have hx2 := x1.trans x2
  have k2 : Keep (h.size ≤ ·) h h2 := hx2.keep _
  have ke : ∀ {h'}, Keep (h.size ≤ ·) h h' → Ext h h' := fun k => k.ext fun i hi hs => by omega
  unfold F4_k2
  refine HEnt.use (write_ok h.size a la ca [] us h2 (hK.ext hx2) r1' (ia.bytes hx2 (Nat.le_refl _)) (by simp; omega)) ?_
  rintro _ h3 ⟨rfl, r3, k23⟩
  have k3 := k2.trans (k23.mono fun i _ e => by omega)
  have r3' : Rep h3 h1.size [] := r2.of (k23.block _ (by omega) (by omega))
  refine ⟨rfl, HEnt.use (hsum_ok h.size us h3 (hK.ext (ke k3)) r3 (by omega)) ?_⟩
  rintro _ h4 ⟨rfl, x4⟩
  have k4 := k3.trans (x4.keep _)
  have z32 : (zeroC Tryd.prog 24).size = 32 := by rw [z24]; rfl
  refine ⟨_, by simp [sum_len], rfl, newK_intro fun h5 n5 x5 s5 => storeK_whole n5 (by simp [sum_len]) z32 (by simp [u8, one]) fun h6 b6 o6 => ?_⟩
  have k46 : Keep (· = h4.size) h4 h6 := (x5.keep _).trans (o6.keep rfl)
  have e46 : Ext h4 h6 := k46.ext fun i hi e => by omega
  have k6 := k4.trans (e46.keep _)
  have r6 : Rep h6 h.size us := r3.of ((e46.block _ (by have := r3.lt; have := x4.size; omega)).trans (x4.block _ r3.lt))
  refine HEnt.use (hsum_ok h.size us h6 (hK.ext (ke k6)) r6 (by omega)) ?_
  rintro _ h7 ⟨rfl, x7⟩
  have k7 := k6.trans (x7.keep _)
  refine ⟨_, by simp [sum_len], rfl, newK_intro fun h8 n8 x8 s8 => storeK_whole n8 (by simp [sum_len]) z32 (by simp [u8, one]) fun h9 b9 o9 => ?_⟩
  have k79 : Keep (· = h7.size) h7 h9 := (x8.keep _).trans (o9.keep rfl)
  have e79 : Ext h7 h9 := k79.ext fun i hi e => by omega
  have k9 := k7.trans (e79.keep _)
  have sz2 : h.size < h2.size ∧ h1.size < h2.size := ⟨by omega, by omega⟩
  have sz3 := k23.size
  have sz4 := x4.size
  have sz6 := e46.size
  have sz7 := x7.size
  have sz9 := e79.size
  have hb6 := blk_lt b6
  have hb9 := blk_lt b9
  have e69 := x7.trans e79
  have r9 : Rep h9 h.size us := r6.of (e69.block _ (by omega))
  have r9' : Rep h9 h1.size [] := r3'.of ((e69.block _ (by omega)).trans ((e46.block _ (by omega)).trans (x4.block _ (by omega))))
  have d9 := e69.blk b6
  refine HEnt.use (write_ok h.size b lb cb us bs h9 (hK.ext (ke k9)) r9 (ib.bytes (ke k9) (Nat.le_refl _)) (by omega)) ?_
  rintro _ h10 ⟨rfl, r10, k910⟩
  have k10 := k9.trans (k910.mono fun i _ e => by omega)
  have r10' : Rep h10 h1.size [] := r9'.of (k910.block _ (by omega) (by omega))
  have d10 := k910.blk d9 (by omega)
  have f10 := k910.blk b9 (by omega)
  have sz10 := k910.size
  refine ⟨rfl, by decide, newK_intro fun h11 n11 x11 s11 => ?_⟩
  have o11 : Own 5 h11 h10.size (some ⟨h10.size, 0, none⟩) 0 0 [] := Own.new (cs := #[]) n11 (Nat.le_refl _)
  have k11 := k10.trans (x11.keep _)
  refine appK_own cells5 zero5 o11 (by omega) (ia.src (ke k11)) (by simp [hla]) (by simp [u8, one]) (by rw [bytes5]; omega) fun a12 c12 h12 o12 k1112 => ?_
  have k12 := k11.trans (k1112.mono fun i _ e => by omega)
  have sz12 := k1112.size
  refine appK_own cells5 zero5 o12 (by omega) (ib.src (ke k12)) (by simp [hlb]) (by simp [u8, one]) (by rw [bytes5]; omega) fun a13 c13 h13 o13 k1213 => ?_
  have k13 := k12.trans (k1213.mono fun i _ e => by omega)
  have sz13 := k1213.size
  have k1113 := k1112.trans k1213
  have e1013 : Ext h10 h13 := (Keep.trans (x11.keep _) k1113).ext fun i hi e => by omega
  have o13' : Own 5 h13 h10.size a13 (0 + la + lb) c13 ((us ++ bs).map u8) := by
    simpa using o13
  have hab : ∀ x ∈ us ++ bs, x < 256 := by
    intro x hx
    rcases List.mem_append.1 hx with h | h
    · exact ia.lt x h
    · exact ib.lt x h
  refine HEnt.use (write_ok h1.size a13 (0 + la + lb) c13 [] (us ++ bs) h13 (hK.ext (ke k13)) (r10'.of (e1013.block _ (by omega))) (Bytes.of_own o13' hab (by omega)) (by simp; omega)) ?_
  rintro _ h14 ⟨rfl, r14, k1314⟩
  have k14 := k13.trans (k1314.mono fun i _ e => by omega)
  have d14 := k1314.blk (e1013.blk d10) (by omega)
  have f14 := k1314.blk (e1013.blk f10) (by omega)
  have r14' : Rep h14 h.size (us ++ bs) := r10.of ((k1314.block _ (by omega) (by omega)).trans (e1013.block _ (by omega)))
  have hK14 := hK.ext (ke k14)
  have sL := sum_len
  have done : ∀ h15, Ext h14 h15 → (Value.bool true = .bool true ∧ Ext h h15) := fun h15 x => ⟨rfl, (ke k14).trans x⟩
  refine ⟨rfl, _, by simp [sL], cells_blk0 d14, _, by simp [sL], fun h15 x15 => sum_ok a la ca us h15 (hK14.ext x15) (fun p hp => ia.bytes ((ke k14).trans x15) (by have := (ke k14).size; have := Ext.size x15; omega)) (by omega),
    true, fun w => by rw [eq_dig _ _ (sL _) (sL _)]; simp, guard24, br_of (fun _ => ?_) (fun hf => by simp at hf)⟩
  refine ⟨_, by simp [sL], cells_blk0 f14, _, by simp [sL], cells_blk0 d14, true, fun w => by rw [eq_dig _ _ (sL _) (sL _)]; simp, guard24, br_of (fun _ => ?_) (fun hf => by simp at hf)⟩
  refine ⟨_, by simp [sL], fun h15 x15 => hsum_ok h.size (us ++ bs) h15 (hK14.ext x15) (r14'.of (Ext.block x15 _ r14'.lt)) (by simp; omega), _, by simp [sL], fun h15 x15 => hsum_ok h1.size (us ++ bs) h15 (hK14.ext x15) (r14.of (Ext.block x15 _ r14.lt)) (by simp; omega),
    true, fun w => by rw [eq_dig _ _ (sL _) (sL _)]; simp, guard24, br_of (fun _ => ?_) (fun hf => by simp at hf)⟩
  refine ⟨_, fun h15 x15 => (len_ok h.size (us ++ bs) h15 (r14'.of (Ext.block x15 _ r14'.lt))).mono fun v h' ⟨e1, e2⟩ => ⟨e1, e2 ▸ Ext.refl _⟩, br_of (fun _ => ?_) (fun hf => ?_)⟩
  · exact ⟨true, fun h15 x15 => works_ok h15 (hK14.ext x15), fun h15 x15 => done h15 x15⟩
  · exfalso
    rw [i64_lt _ (by omega) (by omega)] at hf
    simp at hf
    omega
end Go.Proofs.YtoheacfggalcbaaDoor
