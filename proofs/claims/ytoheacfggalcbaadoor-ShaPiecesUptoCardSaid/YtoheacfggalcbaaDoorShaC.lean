/- Chapter 3: what New and Write compute. -/
import Derived.Test.YtoheacfggalcbaaDoorShaB
import Derived.Test.YtoheacfggalcbaaDoorVcN
namespace Go.Proofs.YtoheacfggalcbaaDoor
open Go.Vc Go.Sha
set_option linter.unusedVariables false

theorem H0_len : H0.length = 8 := rfl
theorem block_len (H bk : List Nat) : (Sha.block H bk).length = H.length := addTo_len _ _ _
theorem block_lt (H bk : List Nat) (hH : ∀ x ∈ H, x < 4294967296) : ∀ x ∈ Sha.block H bk, x < 4294967296 := addTo_lt _ _ hH _
theorem comp_len (bs : List Nat) (i : Nat) : (comp bs i).length = 8 := by induction i <;> simp [comp, H0_len, block_len, *]
theorem comp_lt (bs : List Nat) (i : Nat) : ∀ x ∈ comp bs i, x < 4294967296 := by
  induction i with
  | zero => simp [comp, H0]
  | succ i ih => exact block_lt _ _ ih
theorem comp_append (bs es : List Nat) (i : Nat) (hi : 64 * i ≤ bs.length) : comp (bs ++ es) i = comp bs i := by
  induction i with
  | zero => rfl
  | succ i ih =>
    rw [comp, comp, ih (by omega), List.drop_append_of_le_length (by omega), List.take_append_of_le_length (by simp; omega)]

/-- The Hash at block p stands behind these bytes. -/
def Rep (h : Heap) (p : Nat) (bs : List Nat) : Prop :=
  ∃ L : List Nat, L.length = 64 ∧ (∀ x ∈ L, x < 256) ∧ HashAt h p (comp bs (bs.length / 64)) L bs.length ∧ L.take (bs.length % 64) = bs.drop (64 * (bs.length / 64))
theorem Rep.of {h h' : Heap} {p : Nat} {bs : List Nat} (r : Rep h p bs) (e : h'[p]? = h[p]?) : Rep h' p bs := by
  obtain ⟨L, h1, h2, h3, h4⟩ := r
  exact ⟨L, h1, h2, e.trans h3, h4⟩
theorem Rep.lt {h : Heap} {p : Nat} {bs : List Nat} (r : Rep h p bs) : p < h.size := by
  obtain ⟨L, h1, h2, h3, h4⟩ := r
  exact blk_lt h3

/-- A slice of bytes, not in block p. -/
structure Bytes (h : Heap) (p : Nat) (a : Option Addr) (l c : Nat) (bs : List Nat) : Prop where
  len : bs.length = l
  cap : l ≤ c
  lt : ∀ x ∈ bs, x < 256
  at_ : ∀ ad, a = some ad → bs ≠ [] → ∃ b o, ad = ⟨b, o, none⟩ ∧ b ≠ p ∧ CellsAt h ⟨b, o, none⟩ (bs.map u8)
  nil : a = none → bs = []

theorem CellsAt.other {h h' : Heap} {p b o : Nat} {l : List Value} (c : CellsAt h ⟨b, o, none⟩ l) (k : Keep (· = p) h h') (hb : b ≠ p) : CellsAt h' ⟨b, o, none⟩ l := by
  intro i v hv
  have := c i v hv
  rw [add_mk] at this ⊢
  have hlt : b < h.size := lt_of_cell this
  have e := k.block b hlt hb
  rw [← this]
  simp only [Vc.cell, e]
theorem Bytes.keep {h h' : Heap} {p : Nat} {a : Option Addr} {l c : Nat} {bs : List Nat} (x : Bytes h p a l c bs) (k : Keep (· = p) h h') : Bytes h' p a l c bs :=
  ⟨x.len, x.cap, x.lt, fun ad e hne => by
    obtain ⟨b, o, e1, e2, e3⟩ := x.at_ ad e hne
    exact ⟨b, o, e1, e2, CellsAt.other e3 k e2⟩, x.nil⟩
/-- what is left of it behind the first m -/
theorem Bytes.cut {h : Heap} {p : Nat} {a : Option Addr} {l c : Nat} {bs : List Nat} (x : Bytes h p a l c bs) (m : Nat) (hm : m ≤ l) : Bytes h p (cutAt c m 1 a) (l - m) (c - m) (bs.drop m) := by
  have hl := x.len
  have hc := x.cap
  refine ⟨by simp [x.len], by omega, fun y hy => x.lt y (List.mem_of_mem_drop hy), ?_, ?_⟩
  · intro ad e hd
    have hne : bs ≠ [] := fun h => hd (by rw [h]; simp)
    unfold cutAt at e
    split at e
    · rename_i hcm
      exact absurd (List.drop_of_length_le (by omega)) hd
    · cases a with
      | none => simp at e
      | some a0 =>
        obtain ⟨b, o, e1, e2, e3⟩ := x.at_ a0 rfl hne
        subst e1
        simp only [Option.map_some, Option.some.injEq] at e
        subst e
        rw [add_mk, Nat.mul_one]
        refine ⟨b, o + m, rfl, e2, fun i v hv => ?_⟩
        rw [List.map_drop, List.getElem?_drop] at hv
        have := e3 _ _ hv
        rw [add_mk] at this ⊢
        rw [← this, Nat.add_assoc]
  · intro e
    have : a = none := by
      unfold cutAt at e; split at e
      · exact e
      · cases a <;> simp_all
    simp [x.nil this]

theorem hash_put {H L news : List Nat} {n : Int} (h1 : H.length = 8) (h2 : L.length = 64) (at_ : Nat) (fit : at_ + news.length ≤ 64) :
    (hash H L n).take (9 + at_) ++ news.map u8 ++ (hash H L n).drop (9 + at_ + news.length) = hash H (L.take at_ ++ news ++ L.drop (at_ + news.length)) n := by
  have e : ∀ k, k ≤ 64 → (hash H L n).take (9 + k) = Value.bool true :: (H.map u32 ++ (L.take k).map u8) := fun k hk => by
    unfold hash
    rw [show 9 + k = (8 + k) + 1 by omega, List.take_succ_cons, List.take_append, List.take_of_length_le (by simp [h1]), List.length_map, h1, Nat.add_sub_cancel_left, List.take_append_of_le_length (by simp [h2]; omega), List.map_take]
  have d : ∀ k, k ≤ 64 → (hash H L n).drop (9 + k) = (L.drop k).map u8 ++ [.int .i64 n] := fun k hk => by
    unfold hash
    rw [show 9 + k = (8 + k) + 1 by omega, List.drop_succ_cons, List.drop_append, List.drop_of_length_le (by simp [h1]), List.length_map, h1, Nat.add_sub_cancel_left, List.drop_append_of_le_length (by simp [h2]; omega), List.map_drop, List.nil_append]
  rw [e _ (by omega), Nat.add_assoc, d _ fit]
  simp [hash]

theorem new_ok (h : Heap) : HEnt Tryd.prog 14 #[] h fun v h' => v = .pointer (some ⟨h.size, 0, none⟩) ∧ Rep h' h.size [] ∧ Ext h h' ∧ h'.size = h.size + 1 := by
  refine F14_ent _ _ ?_
  unfold F14
  refine ⟨rfl, newK_intro fun h1 n1 x1 s1 => ⟨rfl, ⟨List.replicate 64 0, rfl, by simp, ?_, rfl⟩, x1, s1⟩⟩
  exact n1

theorem write_ok (p : Nat) (a : Option Addr) (l c : Nat) (bs ds : List Nat) (h : Heap) (hK : KAt h) (hr : Rep h p bs) (hb : Bytes h p a l c ds) (hlen : bs.length + ds.length < 2 ^ 62) :
    HEnt Tryd.prog 15 #[.pointer (some ⟨p, 0, none⟩), .slice a l c] h fun v h' => v = .tuple #[] ∧ Rep h' p (bs ++ ds) ∧ Keep (· = p) h h' := by
  refine F15_ent _ _ _ _ _ _ ?_
  obtain ⟨L, hL, hL8, hp, hLt⟩ := hr
  have hp0 : p ≠ 0 := hK.ne hp
  have cl := comp_len bs (bs.length / 64)
  have hln := hb.len
  unfold F15
  refine br_of (fun ht => by simp at ht) (fun hf => ?_)

  refine ⟨_, rfl, true, ?_, ?_⟩
  · rw [add_mk, cell_blk hp]; simp [hash]
  unfold F15_k1
  refine br_of (fun ht => by simp at ht) (fun hf => ?_)
  unfold F15_k2
  refine ⟨_, rfl, bs.length, ?_, by decide, ?_⟩
  · rw [add_mk, cell_blk hp, List.getElem?_toArray, hash_n cl hL]
  rintro x4 hx4
  refine ⟨_, rfl, bs.length, ?_, _, rfl, ?_⟩
  · rw [add_mk, cell_blk hp, List.getElem?_toArray, hash_n cl hL]
  have en : IntKind.i64.wrap ((bs.length : Int) + (l : Int)) = ((bs.length + ds.length : Nat) : Int) := by rw [i64_lt _ (by omega) (by omega)]; omega
  have e4 : x4 = ((bs.length % 64 : Nat) : Int) := by
    rw [hx4, Int.tmod_eq_emod_of_nonneg (by omega)]; omega
  rw [en, add_mk, Nat.zero_add]
  refine storeK_one hp (by rw [List.size_toArray, hash_len cl hL]; omega) (.inr (Nat.zero_le _)) rfl fun h1 b1 o1 => ?_
  rw [List.setIfInBounds_toArray, hash_set_n cl hL] at b1
  subst e4
  refine ⟨fun a' l' c' x h' => ∃ es rest L', ds = es ++ rest ∧ x = (((bs ++ es).length % 64 : Nat) : Int) ∧ Bytes h' p a' l' c' rest ∧ List.length L' = 64 ∧ (∀ x ∈ L', x < 256) ∧
      HashAt h' p (comp (bs ++ es) ((bs ++ es).length / 64)) L' ((bs.length + ds.length : Nat) : Int) ∧ L'.take ((bs ++ es).length % 64) = (bs ++ es).drop (64 * ((bs ++ es).length / 64)) ∧ Keep (· = p) h h',
    fun _ l' _ _ _ => l', ⟨[], ds, L, rfl, by simp, hb.keep (o1.keep rfl), hL, hL8, by rw [List.append_nil]; exact b1, by simpa using hLt, o1.keep rfl⟩, ?_⟩
  rintro h2 a' l' c' _ ⟨es, rest, L', hds, rfl, hb', hL', hL8', hp', hLt', hk⟩
  have hl' := hb'.len
  have hc' := hb'.cap
  have cl' := comp_len (bs ++ es) ((bs ++ es).length / 64)
  have hdl : ds.length = es.length + rest.length := by rw [hds]; simp
  unfold F15_b3
  refine br_of (fun ht => ?_) (fun hf => ?_)
  · have hl0 : 0 < l' := by
      have : (l' : Int) > 0 := by simpa using ht
      omega
    generalize hcur : bs ++ es = cur at *
    have hcl : cur.length = bs.length + es.length := by rw [← hcur]; simp
    unfold F15_k4
    have hmod := Nat.mod_lt cur.length (show 0 < 64 by decide)
    generalize hat : cur.length % 64 = at_ at *
    refine ⟨_, rfl, by omega, by omega, by omega, ?_⟩
    rw [add_mk, Nat.zero_add, Int.toNat_natCast, cutAt_some _ _ _ _ (by omega), add_mk, Nat.mul_one]
    have e64 : (64 : Int).toNat = 64 := rfl
    rw [e64]
    refine copyK_blk (m := l') (all := rest.map u8) rfl ?_ (by simp [hl']) (by simp [u8, one]) hp' (by rw [List.size_toArray, hash_len cl' hL']; omega) (fun _ _ => .inr (Nat.zero_le _)) fun h3 b3 o3 => ?_
    · refine srcK_slice (by simp [hl']) (fun ad e => ?_) (fun e => by simp [hb'.nil e])
      obtain ⟨b, o, e1, e2, e3⟩ := hb'.at_ ad e (fun h => by rw [h] at hl'; simp at hl'; omega)
      rw [e1]; exact e3
    generalize hm : min l' (64 - at_) = m at *
    have hm1 : m ≤ l' := by omega
    have hm2 : at_ + m ≤ 64 := by omega
    have hm0 : 0 < m := by omega
    have htk : (rest.take m).length = m := by simp; omega
    have b3' : HashAt h3 p (comp cur (cur.length / 64)) (L'.take at_ ++ rest.take m ++ L'.drop (at_ + m)) ((bs.length + ds.length : Nat) : Int) := by
      have := hash_put (H := comp cur (cur.length / 64)) (news := rest.take m) (n := ((bs.length + ds.length : Nat) : Int)) cl' hL' at_ (by omega)
      rw [htk] at this
      rw [HashAt, b3, ← this, List.map_take]
    have k3 : Keep (· = p) h2 h3 := o3.keep rfl
    have hcut := (hb'.cut m hm1).keep k3
    have ex4 : IntKind.i64.wrap ((at_ : Int) + (m : Int)) = ((at_ + m : Nat) : Int) := by rw [i64_lt _ (by omega) (by omega)]; omega
    have hLn : (L'.take at_ ++ rest.take m ++ L'.drop (at_ + m)).length = 64 := by simp [hL']; omega
    have hLn8 : ∀ x ∈ (L'.take at_ ++ rest.take m ++ L'.drop (at_ + m)), x < 256 := by
      intro x hx
      simp only [List.mem_append] at hx
      rcases hx with (hx | hx) | hx
      · exact hL8' _ (List.mem_of_mem_take hx)
      · exact hb'.lt _ (List.mem_of_mem_take hx)
      · exact hL8' _ (List.mem_of_mem_drop hx)
    have hsplit : ds = (es ++ rest.take m) ++ rest.drop m := by rw [List.append_assoc, List.take_append_drop, hds]
    have hnext : bs ++ (es ++ rest.take m) = cur ++ rest.take m := by rw [← hcur, List.append_assoc]
    have hq : cur.length = 64 * (cur.length / 64) + at_ := by omega
    refine ⟨by omega, by omega, ?_⟩
    rintro x4' hx4'
    rw [ex4] at hx4'
    subst hx4'
    refine br_of (fun ht => ?_) (fun hf => ?_)
    · have h64 : at_ + m = 64 := by
        have : ((at_ + m : Nat) : Int) = 64 := by simpa using ht
        omega
      have hnl : (cur ++ rest.take m).length = 64 * (cur.length / 64 + 1) := by rw [List.length_append, htk]; omega
      have hbk : L'.take at_ ++ rest.take m ++ L'.drop (at_ + m) = ((cur ++ rest.take m).drop (64 * (cur.length / 64))).take 64 := by
        rw [h64, List.drop_of_length_le (by omega), List.append_nil, hLt', List.drop_append_of_le_length (by omega), List.take_of_length_le (i := 64)]
        rw [List.length_append, List.length_drop, htk]; omega
      refine ⟨_, rfl, by omega, by omega, by omega, ?_⟩
      rw [cutAt_some _ _ _ _ (by decide), add_mk, add_mk, Nat.zero_add, Nat.zero_mul, Nat.add_zero]
      refine HEnt.use (block_ok p p 9 _ _ _ _ _ cl' hLn (comp_lt _ _) hLn hLn8 h3 ?_ (hK.keep (hk.trans k3) (Ne.symm hp0)) b3') ?_
      · refine cells_blk b3' fun i v hv => ?_
        have hi : i < (L'.take at_ ++ rest.take m ++ L'.drop (at_ + m)).length := by
          have := (List.getElem?_eq_some_iff.1 hv).1
          simpa using this
        rw [List.getElem?_toArray, hash_l cl' i hi, ← hv]
        exact (get_map u8 hi).symm
      rintro _ h4 ⟨rfl, b4, k4⟩
      refine ⟨rfl, ?_⟩
      rintro _ rfl
      refine ⟨⟨es ++ rest.take m, rest.drop m, _, hsplit, ?_, hcut.keep k4, hLn, hLn8, ?_, ?_, hk.trans (k3.trans k4)⟩, by show l' - ((m : Int).toNat) < l'; omega⟩
      · rw [hnext, hnl, Nat.mul_mod_right]; rfl
      · rw [hnext, hnl, Nat.mul_div_cancel_left _ (by decide), comp, comp_append cur _ _ (by omega), ← hbk]; exact b4
      · rw [hnext, hnl, Nat.mul_mod_right, Nat.mul_div_cancel_left _ (by decide), List.drop_of_length_le (l := cur ++ rest.take m) (by omega), List.take_zero]
    · have h64 : at_ + m < 64 := by
        have : ¬ ((at_ + m : Nat) : Int) = 64 := by simpa using hf
        omega
      have hnl : (cur ++ rest.take m).length = 64 * (cur.length / 64) + (at_ + m) := by rw [List.length_append, htk]; omega
      have hnd : (cur ++ rest.take m).length / 64 = cur.length / 64 := by omega
      have hnm : (cur ++ rest.take m).length % 64 = at_ + m := by omega
      refine ⟨⟨es ++ rest.take m, rest.drop m, _, hsplit, ?_, hcut, hLn, hLn8, ?_, ?_, hk.trans k3⟩, by show l' - ((m : Int).toNat) < l'; omega⟩
      · rw [hnext, hnm]
      · rw [hnext, hnd, comp_append cur _ _ (by omega)]; exact b3'
      · rw [hnext, hnm, hnd, List.take_append_of_le_length (by simp; omega), List.take_of_length_le (by simp; omega), hLt', List.drop_append_of_le_length (by omega)]
  · have hl0 : l' = 0 := by
      have : ¬ ((l' : Int) > 0) := by simpa using hf
      omega
    have hr0 : rest = [] := List.eq_nil_of_length_eq_zero (by omega)
    subst hr0
    rw [List.append_nil] at hds
    subst hds
    refine ⟨rfl, ⟨L', hL', hL8', ?_, hLt'⟩, hk⟩
    rw [List.length_append] at *
    exact hp'
end Go.Proofs.YtoheacfggalcbaaDoor
