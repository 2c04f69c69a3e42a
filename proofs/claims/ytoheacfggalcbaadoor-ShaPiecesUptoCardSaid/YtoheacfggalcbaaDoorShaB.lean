/- Chapter 3: what block computes. -/
import Derived.Test.YtoheacfggalcbaaDoorShaA
namespace Go.Proofs.YtoheacfggalcbaaDoor
open Go.Vc Go.Sha
set_option linter.unusedVariables false

/-- the cells of a Hash -/
def hash (H L : List Nat) (n : Int) : List Value := Value.bool true :: (H.map u32 ++ (L.map u8 ++ [.int .i64 n]))
/-- a Hash lies at block p -/
def HashAt (h : Heap) (p : Nat) (H L : List Nat) (n : Int) : Prop := h[p]? = some (.cells (hash H L n).toArray 48 (0, 0))
theorem hash_len {H L : List Nat} {n : Int} (h1 : H.length = 8) (h2 : L.length = 64) : (hash H L n).length = 74 := by simp [hash, h1, h2]
theorem hash_h {H L : List Nat} {n : Int} (i : Nat) (hi : i < H.length) : (hash H L n)[1 + i]? = some (u32 (H.getD i 0)) := by
  unfold hash
  rw [show 1 + i = i + 1 by omega, List.getElem?_cons_succ, List.getElem?_append_left (by simpa using hi)]
  exact get_map u32 hi
theorem hash_l {H L : List Nat} {n : Int} (h1 : H.length = 8) (i : Nat) (hi : i < L.length) : (hash H L n)[9 + i]? = some (u8 (L.getD i 0)) := by
  unfold hash
  rw [show 9 + i = (8 + i) + 1 by omega, List.getElem?_cons_succ, List.getElem?_append_right (by simp [h1]), List.getElem?_append_left (by simp [h1]; omega)]
  simpa [h1] using get_map u8 hi
theorem hash_n {H L : List Nat} {n : Int} (h1 : H.length = 8) (h2 : L.length = 64) : (hash H L n)[73]? = some (.int .i64 n) := by
  unfold hash
  rw [List.getElem?_cons_succ, List.getElem?_append_right (by simp [h1]), List.getElem?_append_right (by simp [h1, h2])]
  simp [h1, h2]
theorem hash_set_h {H L : List Nat} {n : Int} (i : Nat) (hi : i < H.length) (v : Nat) : (hash H L n).set (1 + i) (u32 v) = hash (H.set i v) L n := by
  unfold hash
  rw [show 1 + i = i + 1 by omega, List.set_cons_succ, List.set_append, if_pos (by simpa using hi), List.map_set]
theorem hash_set_n {H L : List Nat} {n m : Int} (h1 : H.length = 8) (h2 : L.length = 64) : (hash H L n).set 73 (.int .i64 m) = hash H L m := by
  unfold hash
  rw [List.set_cons_succ, List.set_append, if_neg (by simp [h1]), List.set_append, if_neg (by simp [h1, h2])]
  simp [h1, h2]
theorem addTo_len (s H : List Nat) (i : Nat) : (addTo s i H).length = H.length := by induction i <;> simp [addTo, *]
theorem addTo_lt (s H : List Nat) (hH : ∀ x ∈ H, x < 4294967296) (i : Nat) : ∀ x ∈ addTo s i H, x < 4294967296 := by
  induction i with
  | zero => exact hH
  | succ i ih => exact set_lt ih _ _ (Nat.mod_lt _ (by decide))
theorem rounds_len (w H : List Nat) (h1 : H.length = 8) (i : Nat) : (rounds w H i).length = 8 := by cases i <;> simp [rounds, rnd, h1]
theorem tOf_lt (w s : List Nat) (i : Nat) : tOf w s i < 4294967296 := Nat.mod_lt _ (by decide)
theorem rnd_lt (w s : List Nat) (hs : ∀ x ∈ s, x < 4294967296) (i : Nat) : ∀ x ∈ rnd w s i, x < 4294967296 := by
  have g := fun j => getD_lt hs (by decide) j
  intro x hx
  simp only [rnd, List.mem_cons, List.not_mem_nil, or_false] at hx
  rcases hx with h | h | h | h | h | h | h | h <;> subst h <;> first | exact g _ | exact Nat.mod_lt _ (by decide)
theorem rounds_lt (w H : List Nat) (hH : ∀ x ∈ H, x < 4294967296) (i : Nat) : ∀ x ∈ rounds w H i, x < 4294967296 := by
  induction i with
  | zero => exact hH
  | succ i ih => exact rnd_lt w _ ih i

/-- the table k lies at block 0 -/
def KAt (h : Heap) : Prop := ∃ t fr, h[0]? = some (.cells (Sha.K.map u32).toArray t fr)
theorem KAt.lt {h : Heap} (k : KAt h) : 0 < h.size := by obtain ⟨t, fr, e⟩ := k; exact blk_lt e
theorem KAt.ext {h h' : Heap} (k : KAt h) (x : Ext h h') : KAt h' := by obtain ⟨t, fr, e⟩ := k; exact ⟨t, fr, x.blk e⟩
theorem KAt.keep {S : Nat → Prop} {h h' : Heap} (k : KAt h) (x : Keep S h h') (hs : ¬ S 0) : KAt h' := by obtain ⟨t, fr, e⟩ := k; exact ⟨t, fr, x.blk e hs⟩
theorem KAt.cell {h : Heap} (k : KAt h) {i : Nat} (hi : i < 64) : Vc.cell h ⟨0, i, none⟩ = some (u32 (Sha.K.getD i 0)) := by
  obtain ⟨t, fr, e⟩ := k
  rw [cell_blk e]; simpa using get_map u32 (l := Sha.K) hi
theorem KAt.ne {h : Heap} (k : KAt h) {p : Nat} {H L : List Nat} {n : Int} (hp : HashAt h p H L n) : p ≠ 0 := by
  rintro rfl
  obtain ⟨t, fr, e⟩ := k
  rw [HashAt, e] at hp
  have h1 : (Sha.K.map u32).toArray = (hash H L n).toArray := by simp only [Option.some.injEq, Obj.cells.injEq] at hp; exact hp.1
  have h2 := congrArg (fun a => a[0]?) h1
  revert h2
  show some (u32 1116352408) = some (Value.bool true) → False
  intro h; cases h

theorem block_ok (p b o c : Nat) (H L bk : List Nat) (n : Int) (h1 : H.length = 8) (h2 : L.length = 64) (hH : ∀ x ∈ H, x < 4294967296) (hl : bk.length = 64) (hb : ∀ x ∈ bk, x < 256)
    (h : Heap) (hc : CellsAt h ⟨b, o, none⟩ (bk.map u8)) (hK : KAt h) (hp : HashAt h p H L n) :
    HEnt Tryd.prog 27 #[.pointer (some ⟨p, 0, none⟩), .slice (some ⟨b, o, none⟩) 64 c] h fun v h' => v = .tuple #[] ∧ HashAt h' p (block H bk) L n ∧ Keep (· = p) h h' := by
  refine F27_ent _ _ _ _ _ _ ?_
  unfold F27
  have hp0 : p ≠ 0 := hK.ne hp
  refine HEnt.use (words_ok b o c bk hl hb h hc) ?_
  rintro _ h3 ⟨rfl, x3⟩
  have wl := w2_len bk 48
  have wlt := w2_lt bk hb 48
  refine ⟨_, by simp [words, wl], rfl, newK_intro fun h4 n4 x4 s4 => ?_⟩
  have z : (zeroC Tryd.prog 59).size = 64 := by kernel_rfl
  refine storeK_whole n4 (by simp [words, wl]) z (by simp [u32, one]) fun h5 b5 o5 => ?_
  have bp4 : h5[p]? = _ := o5.blk (x4.blk (x3.blk hp)) (by have := blk_lt (x3.blk hp); omega)
  refine ⟨_, rfl, (H.map u32).toArray, by simp [h1], ?_, newK_intro fun h6 n6 x6 s6 => ?_⟩
  · rw [add_mk]
    refine cells_blk bp4 fun i v hv => ?_
    simp only [List.getElem?_map, Option.map_eq_some_iff] at hv
    obtain ⟨x, hx, rfl⟩ := hv
    have hi : i < H.length := (List.getElem?_eq_some_iff.1 hx).1
    rw [List.getElem?_toArray, hash_h i hi]
    simp [List.getD_eq_getElem?_getD, hx]
  have z8 : (zeroC Tryd.prog 45).size = 8 := by kernel_rfl
  refine storeK_whole n6 (by simp [h1]) z8 (by simp [u32, one]) fun h7 b7 o7 => ?_
  have k5 : Keep (fun k => k = h3.size) h3 h5 := (x4.keep _).trans (o5.keep rfl)
  have x5 : Ext h3 h5 := k5.ext fun k hk e => by omega
  have k7 : Keep (fun k => k = h5.size) h5 h7 := (x6.keep _).trans (o7.keep rfl)
  have x7 : Ext h5 h7 := k7.ext fun k hk e => by omega
  have s5 : h3.size < h5.size := blk_lt b5
  have x07 : Ext h h7 := x3.trans (x5.trans x7)
  refine ⟨fun i h' => ∃ k : Nat, i = k ∧ k ≤ 64 ∧ Row32 h' h5.size 45 (rounds (words bk) H k) ∧ Row32 h' h3.size 59 (words bk) ∧ Ext h h', fun i _ => (64 - i).toNat,
    ⟨0, rfl, by omega, b7, x7.blk b5, x07⟩, ?_⟩
  rintro h8 _ ⟨k, rfl, hk, hs, hw, hx⟩
  have hsz := blk_lt hp
  have x3s := x3.size
  unfold F27_b1
  refine br_of (fun ht => ?_) (fun hf => ?_)
  · have hk64 : k < 64 := by
      have : (k : Int) < 64 := by simpa using ht
      omega
    have len := rounds_len (words bk) H h1 k
    have slt := rounds_lt (words bk) H hH k
    have g := fun i => getD_lt slt (by decide) i
    have hK8 : KAt h8 := hK.ext hx
    have e1 : IntKind.i64.wrap ((k : Int) + 1) = ((k + 1 : Nat) : Int) := by rw [i64_lt _ (by omega) (by omega)]; omega
    unfold F27_k2
    simp only [e1, Int.toNat_natCast, mul1, add_mk, at0_mk, Nat.zero_add]
    generalize hS : rounds (words bk) H k = S at *
    refine ⟨by omega, by omega, _, hs.cell (by omega), by omega, by omega, _, hs.cell (by omega), ?_⟩
    intro h9 hcl; obtain rfl := hcl.eq
    refine ⟨by omega, by omega, _, hs.cell (by omega),
      _, fun h6 _ => rot_ok _ 6 (g _) (by decide) (by decide) h6, _, fun h6 _ => rot_ok _ 11 (g _) (by decide) (by decide) h6, _, fun h6 _ => rot_ok _ 25 (g _) (by decide) (by decide) h6,
      by omega, by omega, _, hs.cell (by omega), by omega, by omega, _, hs.cell (by omega), by omega, by omega, _, hK8.cell (by omega), by omega, by omega, _, hw.cell (by rw [words, wl]; omega), ?_⟩
    intro h9 hcl; obtain rfl := hcl.eq
    refine ⟨_, fun h6 _ => rot_ok _ 2 (g _) (by decide) (by decide) h6, _, fun h6 _ => rot_ok _ 13 (g _) (by decide) (by decide) h6, _, fun h6 _ => rot_ok _ 22 (g _) (by decide) (by decide) h6,
      by omega, by omega, _, hs.cell (by omega), by omega, by omega, _, hs.cell (by omega), by omega, by omega, _, hs.cell (by omega), by omega, by omega, _, hs.cell (by omega), ?_⟩
    intro h9 hcl; obtain rfl := hcl.eq
    refine ⟨by omega, by omega, _, hs.cell (by omega), by omega, by omega, _, hs.cell (by omega), by omega, by omega, _, hs.cell (by omega), by omega, by omega, _, hs.cell (by omega), by omega, by omega, _, hs.cell (by omega), by omega, by omega, _, hs.cell (by omega), by omega, by omega, _, hs.cell (by omega), ?_⟩
    have x32 : ∀ a b, a < 4294967296 → b < 4294967296 → a ^^^ b < 4294967296 := fun a b h1 h2 => Nat.xor_lt_two_pow (n := 32) h1 h2
    have a32 : ∀ a b, b < 4294967296 → a &&& b < 4294967296 := fun a b h2 => Nat.and_lt_two_pow (n := 32) _ h2
    have n32 : ∀ a, a < 4294967296 → 4294967295 ^^^ a < 4294967296 := fun a h => x32 _ _ (by decide) h
    have r32 := fun i n => rotr_lt _ n (g i)
    have ev : (Value.agg #[Value.int .u32 (IntKind.u32.wrap ((IntKind.u32.wrap ((IntKind.u32.wrap ((IntKind.u32.wrap ((IntKind.u32.wrap ((S.getD 7 0 : Nat) + (xorI .u32 (xorI .u32 (rotr (S.getD 4 0) 6 : Nat) (rotr (S.getD 4 0) 11 : Nat)) (rotr (S.getD 4 0) 25 : Nat)))) + (xorI .u32 (andI .u32 (S.getD 4 0 : Nat) (S.getD 5 0 : Nat)) (andI .u32 (notI .u32 (S.getD 4 0 : Nat)) (S.getD 6 0 : Nat))))) + (Sha.K.getD k 0 : Nat))) + ((words bk).getD k 0 : Nat))) + (IntKind.u32.wrap ((xorI .u32 (xorI .u32 (rotr (S.getD 0 0) 2 : Nat) (rotr (S.getD 0 0) 13 : Nat)) (rotr (S.getD 0 0) 22 : Nat)) + (xorI .u32 (xorI .u32 (andI .u32 (S.getD 0 0 : Nat) (S.getD 1 0 : Nat)) (andI .u32 (S.getD 0 0 : Nat) (S.getD 2 0 : Nat))) (andI .u32 (S.getD 1 0 : Nat) (S.getD 2 0 : Nat))))))), Value.int .u32 (S.getD 0 0 : Nat), Value.int .u32 (S.getD 1 0 : Nat), Value.int .u32 (S.getD 2 0 : Nat), Value.int .u32 (IntKind.u32.wrap ((S.getD 3 0 : Nat) + (IntKind.u32.wrap ((IntKind.u32.wrap ((IntKind.u32.wrap ((IntKind.u32.wrap ((S.getD 7 0 : Nat) + (xorI .u32 (xorI .u32 (rotr (S.getD 4 0) 6 : Nat) (rotr (S.getD 4 0) 11 : Nat)) (rotr (S.getD 4 0) 25 : Nat)))) + (xorI .u32 (andI .u32 (S.getD 4 0 : Nat) (S.getD 5 0 : Nat)) (andI .u32 (notI .u32 (S.getD 4 0 : Nat)) (S.getD 6 0 : Nat))))) + (Sha.K.getD k 0 : Nat))) + ((words bk).getD k 0 : Nat))))), Value.int .u32 (S.getD 4 0 : Nat), Value.int .u32 (S.getD 5 0 : Nat), Value.int .u32 (S.getD 6 0 : Nat)]) = .agg ((rnd (words bk) S k).map u32).toArray := by
      rw [xor32 _ _ (r32 4 6) (r32 4 11), xor32 _ _ (x32 _ _ (r32 4 6) (r32 4 11)) (r32 4 25), and32 _ _ (g 4) (g 5), not32 _ (g 4), and32 _ _ (n32 _ (g 4)) (g 6), xor32 _ _ (a32 _ _ (g 5)) (a32 _ _ (g 6)),
        xor32 _ _ (r32 0 2) (r32 0 13), xor32 _ _ (x32 _ _ (r32 0 2) (r32 0 13)) (r32 0 22), and32 _ _ (g 0) (g 1), and32 _ _ (g 0) (g 2), and32 _ _ (g 1) (g 2), xor32 _ _ (a32 _ _ (g 1)) (a32 _ _ (g 2)), xor32 _ _ (x32 _ _ (a32 _ _ (g 1)) (a32 _ _ (g 2))) (a32 _ _ (g 2))]
      simp only [add32]
      rfl
    refine Eq.mpr (congrArg (fun v => storeK 8 _ _ v _) ev) ?_
    refine storeK_whole hs (by simp [rnd]) (by simp [len]) (by simp [u32, one]) fun h10 b10 o10 => ⟨⟨k + 1, rfl, by omega, ?_, o10.blk hw (by omega), ?_⟩, by omega⟩
    · unfold Row32; rw [b10, ← hS]; rfl
    · exact ⟨by rw [o10.size]; exact hx.size, fun j hj => (o10.block j (by omega)).trans (hx.block j hj)⟩
  · have hk64 : k = 64 := by
      have : ¬ ((k : Int) < 64) := by simpa using hf
      omega
    subst hk64
    unfold F27_k3
    have len := rounds_len (words bk) H h1 64
    generalize hS : rounds (words bk) H 64 = S at *
    refine ⟨fun i h' => ∃ k : Nat, i = k ∧ k ≤ 8 ∧ Row32 h' h5.size 45 S ∧ HashAt h' p (addTo S k H) L n ∧ Keep (· = p) h h', fun i _ => (8 - i).toNat,
      ⟨0, rfl, by omega, hs, hx.blk hp, hx.keep _⟩, ?_⟩
    rintro h9 _ ⟨k, rfl, hk, hs, hp, hx⟩
    unfold F27_b4
    refine br_of (fun ht => ?_) (fun hf => ?_)
    · have hk8 : k < 8 := by
        have : (k : Int) < 8 := by simpa using ht
        omega
      have e1 : IntKind.i64.wrap ((k : Int) + 1) = ((k + 1 : Nat) : Int) := by rw [i64_lt _ (by omega) (by omega)]; omega
      have al := addTo_len S H k
      unfold F27_k5
      simp only [e1, Int.toNat_natCast, mul1, add_mk, at0_mk, Nat.zero_add]
      refine ⟨_, rfl, by omega, by omega, ((addTo S k H).getD k 0 : Nat), ?_, by omega, by omega, _, hs.cell (by omega), _, rfl, by omega, by omega, ?_⟩
      · rw [add_mk, add_mk, Nat.zero_add, cell_blk hp, List.getElem?_toArray, hash_h k (by omega)]; rfl
      intro h10 hcl; obtain rfl := hcl.eq
      rw [add_mk, add_mk, Nat.zero_add, add32]
      refine storeK_one hp (by rw [List.size_toArray, hash_len (by omega) h2]; omega) (.inr (Nat.zero_le _)) rfl fun h11 b11 o11 => ⟨⟨k + 1, rfl, by omega, o11.blk hs (by omega), ?_, hx.trans (o11.keep rfl)⟩, by omega⟩
      unfold HashAt
      rw [b11, List.setIfInBounds_toArray, show (Value.int IntKind.u32 (((addTo S k H).getD k 0 + S.getD k 0) % 4294967296 : Nat)) = u32 (((addTo S k H).getD k 0 + S.getD k 0) % 4294967296) from rfl, hash_set_h k (by omega)]
      rfl
    · have hk8 : k = 8 := by
        have : ¬ ((k : Int) < 8) := by simpa using hf
        omega
      subst hk8
      refine ⟨rfl, ?_, hx⟩
      rw [← hS] at hp; exact hp
end Go.Proofs.YtoheacfggalcbaaDoor
