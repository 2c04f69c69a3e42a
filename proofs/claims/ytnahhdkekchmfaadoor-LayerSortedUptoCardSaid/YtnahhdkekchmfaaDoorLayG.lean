import Derived.Test.YtnahhdkekchmfaaDoorLayF

namespace Go.Proofs.YtnahhdkekchmfaaDoor
open Go.Vc Go.Sha Go.Trail Go.Lay
set_option linter.unusedVariables false
/-- how two entries of a layer stand to one another -/
def Stand (e f : EntV) : Prop := lexK (lst e.path) (lst f.path) = true ∧ (hides e → inP (lst e.path) (lst f.path) = false)
def Good (es : List EntV) : Prop := es.length ≤ 64 ∧ (∀ e ∈ es, stA e = 0) ∧ es.Pairwise Stand
theorem en_eq {es : List EntV} {i : Nat} (h : i < es.length) : es[i] = en es i := by
  have := en_get h
  rw [List.getElem?_eq_getElem h] at this
  exact Option.some.inj this
theorem good_check (es : List EntV) : (checkC es).2 = 0 ↔ Good es := by
  constructor
  · intro h
    obtain ⟨h1, h2, _⟩ := check_zero h
    refine ⟨h1, fun e he => ?_, List.pairwise_iff_getElem.2 fun i j hi hj hij => ?_⟩
    · obtain ⟨i, hi, rfl⟩ := List.mem_iff_getElem.1 he
      rw [en_eq hi]; exact (st_zero (h2 i hi)).1
    · rw [en_eq hi, en_eq hj]
      exact ⟨sorted (k := es.length) (fun i h0 hi => (st_zero (h2 i hi)).2.1 h0) i j hij hj, (st_zero (h2 j hj)).2.2 i hij⟩
  · rintro ⟨h1, h2, h3⟩
    rw [List.pairwise_iff_getElem] at h3
    rw [check_fine h1]
    intro i hi
    unfold st
    rw [if_neg (by have := h2 _ (en_mem hi); omega), if_neg, if_neg]
    · rintro ⟨j, hj, g1, g2⟩
      have := h3 j i (by omega) hi hj
      rw [en_eq (by omega), en_eq hi] at this
      have := this.2 g1
      rw [show pa es j = lst (en es j).path from rfl, show pa es i = lst (en es i).path from rfl, this] at g2
      cases g2
    · rintro ⟨h0, g⟩
      have := h3 (i - 1) i (by omega) hi (by omega)
      rw [en_eq (by omega), en_eq hi] at this
      rw [show pa es (i - 1) = lst (en es (i - 1)).path from rfl, show pa es i = lst (en es i).path from rfl, this.1] at g
      cases g
theorem Good.sub {es fs : List EntV} (h : Good es) (s : List.Sublist fs es) : Good fs :=
  ⟨Nat.le_trans s.length_le h.1, fun e he => h.2.1 e (s.subset he), h.2.2.sublist s⟩

theorem works_ok (h : Heap) (hm : MaxAt h) : HEnt Tryd.prog 11 #[] h fun v h' => v = .bool true ∧ Ext h h' := by
  let e : EntV := ⟨⟨#[97, 47, 98]⟩, 1, 420, ⟨#[104, 105]⟩⟩
  have hgood : (checkC [e]).2 = 0 := by
    rw [good_check]
    refine ⟨by decide, ?_, List.pairwise_singleton _ _⟩
    intro x hx
    simp only [List.mem_cons, List.not_mem_nil, or_false] at hx
    subst hx
    have hp : ¬ badP e.path := by
      rw [badP_clean, show clean (lst e.path) = ([97, 47, 98], 0) from by decide +kernel]
      decide
    unfold stA aloneC
    rw [if_neg hp, if_neg (by show ¬ ((1 : Int) < 1 ∨ (1 : Int) > 4); decide), if_neg (by show ¬ ((420 : Int) < 0 ∨ (420 : Int) > 511 ∨ ((1 : Int) = 3 ∧ (420 : Int) ≠ 0)); decide), if_neg (by show ¬ ((1 : Int) ≠ 1 ∧ _); rintro ⟨h, _⟩; exact h rfl), if_neg (by show ¬ (2 > 256); decide)]
  have henc : str (encodeC [e]) = (⟨#[86, 76, 1, 1, 1, 1, 164, 3, 97, 47, 98, 2, 104, 105]⟩ : ByteArray) := by decide +kernel
  have hel : (encodeC [e]).length = 14 := by decide +kernel
  have hlt : ∀ x ∈ encodeC [e], x < 256 := by decide +kernel
  refine F11_ent _ _ ?_
  unfold F11
  refine ⟨rfl, by decide, newK_intro fun h1 n1 x1 _ => ?_⟩
  have o1 : OwnR 30 4 h h1 (some (at0 h.size)) 1 1 (ents [e]) := OwnR.new_ (rows := ents [e]) n1 x1 (Nat.le_refl _) (ents_row _) rfl
  refine HEnt.use (encode_ok _ _ _ [e] h1 o1.rows (by
    intro x hx
    simp only [List.mem_cons, List.not_mem_nil, or_false] at hx
    subst hx
    decide) (by decide) (hm.ext x1)) ?_
  rintro _ h2 ⟨a, l, c, rfl, x2, hown, _⟩
  have o := hown hgood
  have hol := own_len o
  rw [hel] at hol
  subst hol
  refine ⟨_, _, _, _, rfl, str (encodeC [e]), by rw [str_size, hel], fun ad ea => ?_, fun ea => ?_, ?_⟩
  · rw [bytesV_lst, lst_str _ hlt]
    rcases o.own with ⟨e2, _⟩ | o'
    · rw [ea] at e2; cases e2
    · obtain ⟨b, rfl, _, _, hc⟩ := o'.cells ad ea
      exact hc
  · rcases o.own with ⟨_, e2, _⟩ | o'
    · cases e2
    · obtain ⟨_, _, b, cs, e2, _⟩ := o'
      rw [ea] at e2; cases e2
  · rw [henc, hgood]
    refine br_of (fun _ => ⟨rfl, x1.trans x2⟩) (fun hb => ?_)
    rw [seq_lst] at hb; simp at hb

theorem cut200 {a : Option Addr} {l c : Nat} {es : List EntV} {h : Heap} (w : Tab 4 h a l c (ents es)) (hl : l > 200) : Tab 4 h a 200 c (ents (es.take 200)) := by
  have := w.take 200 (by omega)
  rwa [show (ents es).take 200 = ents (es.take 200) from (List.map_take ..).symm] at this

theorem checks_ok (a : Option Addr) (l c : Nat) (es : List EntV) (h : Heap) (w : Tab 4 h a l c (ents es)) (hs : Small es) (hm : MaxAt h) : HEnt Tryd.prog 4 #[.slice a l c] h fun v h' => v = .bool true ∧ Ext h h' := by
  have main : ∀ (l c : Nat) (es : List EntV), Tab 4 h a l c (ents es) → Small es → l ≤ 200 → F4_k1 a l c h fun v h' => v = .bool true ∧ Ext h h' := by
    intro l c es w hs hl
    unfold F4_k1
    refine HEnt.use (own_ok a l c es h w (by omega)) ?_
    rintro _ h1 ⟨a1, c1, rfl, w1, x1⟩
    refine ⟨_, _, _, rfl, HEnt.use (check_ok a1 l c1 es h1 w1 hs (by omega) (hm.ext x1)) ?_⟩
    rintro _ h2 ⟨rfl, x2⟩
    refine ⟨_, _, rfl, HEnt.use (refCheck_ok a l c es h2 (w.grow (x1.trans x2)) hs (by omega)) ?_⟩
    rintro _ h3 ⟨rfl, x3⟩
    refine ⟨_, _, rfl, br_of (fun _ => br_of (fun _ => ?_) (fun hb => by simp at hb)) (fun hb => by simp at hb)⟩
    refine HEnt.use (size_ok a1 l c1 es h3 (w1.grow (x2.trans x3)) hs (by omega)) ?_
    rintro _ h4 ⟨rfl, x4⟩
    refine ⟨_, rfl, HEnt.use (refSize_ok a l c es h4 (w.grow (((x1.trans x2).trans x3).trans x4)) hs (by omega)) ?_⟩
    rintro _ h5 ⟨rfl, x5⟩
    refine ⟨_, rfl, br_of (fun _ => ?_) (fun hb => by simp at hb)⟩
    have x05 := (((x1.trans x2).trans x3).trans x4).trans x5
    refine HEnt.use (same_ok a1 l c1 es a l c es h5 (w1.grow (((x2.trans x3).trans x4).trans x5)) (w.grow x05) (by omega)) ?_
    rintro _ _ ⟨⟨b, rfl, hb⟩, rfl⟩
    refine ⟨_, rfl, br_of (fun _ => ?_) (fun hf => by rw [hb.2 rfl] at hf; cases hf)⟩
    refine HEnt.use (works_ok _ (hm.ext x05)) ?_
    rintro _ h7 ⟨rfl, x7⟩
    exact ⟨_, rfl, rfl, x05.trans x7⟩
  refine F4_ent _ _ _ _ _ ?_
  unfold F4
  refine br_of (fun g => ?_) (fun g => ?_)
  · have g' : l > 200 := by simp at g; omega
    have := w.cap
    rw [cutAt0]
    exact ⟨by omega, by omega, by omega, main _ _ _ (cut200 w g') (small_take hs _) (by omega)⟩
  · exact main _ _ _ w hs (by simp at g; omega)

theorem sorted_ok (a : Option Addr) (l c : Nat) (es : List EntV) (h : Heap) (w : Tab 4 h a l c (ents es)) (hs : Small es) (hm : MaxAt h) : HEnt Tryd.prog 3 #[.slice a l c] h fun v h' => v = .bool true ∧ Ext h h' := by
  have main : ∀ (l c : Nat) (es : List EntV), Tab 4 h a l c (ents es) → Small es → l ≤ 200 → F3_k1 a l c h fun v h' => v = .bool true ∧ Ext h h' := by
    intro l c es w hs hl
    have hlen : es.length = l := by have := w.len; rwa [ents_len] at this
    unfold F3_k1
    refine HEnt.use (check_ok a l c es h w hs (by omega) hm) ?_
    rintro _ h1 ⟨rfl, x1⟩
    refine ⟨_, _, rfl, br_of (fun g => ?_) (fun g => ?_)⟩
    · refine HEnt.use (works_ok _ (hm.ext x1)) ?_
      rintro _ h7 ⟨rfl, x7⟩
      exact ⟨_, rfl, rfl, x1.trans x7⟩
    have g' : (checkC es).2 = 0 := by simp at g; omega
    obtain ⟨hl64, hz, _⟩ := check_zero g'
    obtain ⟨_, _, hpw⟩ := (good_check es).1 g'
    rw [List.pairwise_iff_getElem] at hpw
    unfold F3_k2
    refine ⟨fun x hh => ∃ k : Nat, x = k ∧ k ≤ l ∧ Ext h hh, fun x _ => ((l : Int) - x).toNat, ⟨0, rfl, by omega, x1⟩, ?_⟩
    rintro h2 _ ⟨k, rfl, hk, x2⟩
    unfold F3_b3
    refine br_of (fun g => ?_) (fun g => ?_)
    · have hk' : k < l := by simpa using g
      have hsm := hs _ (en_mem (es := es) (i := k) (by omega))
      obtain ⟨q, eq, _, c0, c1, c2, c3⟩ := ent_get (w.grow x2) (en_get (i := k) (by omega))
      obtain ⟨hbp, _, _, _, _, _, hbody, _⟩ := stA_zero (st_zero (hz k (by omega))).1
      have hne : lst (en es k).path ≠ [] := fun e => hbp (.inl e)
      have hgd : good (lst (en es k).path) := Classical.byContradiction fun e => hbp (.inr e)
      unfold F3_k4
      refine ⟨q, eq, by omega, by omega, _, by rw [Int.toNat_natCast]; exact c0, HEnt.use (clean_ok _ (by omega) h2 (hm.ext x2)) ?_⟩
      rw [clean_good hgd]
      rintro _ h3 ⟨rfl, x3⟩
      have x03 := x2.trans x3
      obtain ⟨q', eq', _, d0, d1, d2, d3⟩ := ent_get (w.grow x03) (en_get (i := k) (by omega))
      rw [eq] at eq'; cases eq'
      refine ⟨_, _, rfl, br_of (fun hb => by simp at hb) (fun _ => ⟨q, eq, by omega, by omega, _, by rw [Int.toNat_natCast]; exact d0, ?_⟩)⟩
      simp only [str_lst]
      refine br_of (fun hb => by rw [seq_lst] at hb; simp at hb) (fun _ => ?_)
      refine br_of (fun hb => by rw [seq_nil] at hb; exact absurd (of_decide_eq_true hb) hne) (fun _ => ⟨q, eq, by omega, by omega, _, by rw [Int.toNat_natCast]; exact d1, ?_⟩)
      have k5 : ∀ bb : Bool, bb = false → F3_k5 (fun x hh => ∃ k : Nat, x = k ∧ k ≤ l ∧ Ext h hh) (fun x _ => ((l : Int) - x).toNat) ((l : Int) - (k : Int)).toNat a l c k (en es k).path l k bb h3 fun v h' => v = .bool true ∧ Ext h h' := by
        rintro _ rfl
        unfold F3_k5
        refine br_of (fun hb => by cases hb) (fun _ => ?_)
        unfold F3_k6
        refine ⟨fun x hh => ∃ j : Nat, x = j ∧ j ≤ k ∧ Ext h hh, fun x _ => ((k : Int) - x).toNat, ⟨0, rfl, by omega, x03⟩, ?_⟩
        rintro h4 _ ⟨j, rfl, hj, x4⟩
        unfold F3_b7
        refine br_of (fun g => ?_) (fun g => ?_)
        · have hj' : j < k := by simpa using g
          have hsj := hs _ (en_mem (es := es) (i := j) (by omega))
          obtain ⟨q', eq', _, d0, d1, d2, d3⟩ := ent_get (w.grow x4) (en_get (i := j) (by omega))
          rw [eq] at eq'; cases eq'
          have hst := hpw j k (by omega) (by omega) hj'
          rw [en_eq (by omega), en_eq (by omega)] at hst
          unfold F3_k8
          refine ⟨q, eq, by omega, by omega, _, by rw [Int.toNat_natCast]; exact d0, HEnt.use (less_ok _ _ (by omega) h4) ?_⟩
          rintro _ h5 ⟨rfl, e5⟩
          replace e5 := e5.symm
          subst e5
          rw [hst.1]
          have k9 : ∀ bb : Bool, bb = false → F3_k9 (fun x hh => ∃ k : Nat, x = k ∧ k ≤ l ∧ Ext h hh) (fun x _ => ((l : Int) - x).toNat) ((l : Int) - (k : Int)).toNat (fun x hh => ∃ j : Nat, x = j ∧ j ≤ k ∧ Ext h hh) (fun x _ => ((k : Int) - x).toNat) ((k : Int) - (j : Int)).toNat a l c (en es k).path l k k j bb h4 fun v h' => v = .bool true ∧ Ext h h' := by
            rintro _ rfl
            unfold F3_k9
            refine br_of (fun hb => by cases hb) (fun _ => ?_)
            unfold F3_k10
            rw [i64_lt _ (by omega) (by omega)]
            exact ⟨⟨j + 1, by omega, by omega, x4⟩, by show ((k : Int) - ((j : Int) + 1)).toNat < ((k : Int) - j).toNat; omega⟩
          have asks : hides (en es j) → ∃ q97 : Addr, a = some q97 ∧ (0 : Int) ≤ j ∧ (j : Int) < (l : Int) ∧ ∃ s99 : ByteArray, Vc.cell h4 ((q97.add ((j : Int).toNat * 4)).add 0) = some (Value.string s99) ∧ HCalls Tryd.prog 14 #[Value.string s99, Value.string (en es k).path] h4 fun r101 h2 => ∃ b101 : Bool, r101 = Value.bool b101 ∧ F3_k9 (fun x hh => ∃ k : Nat, x = k ∧ k ≤ l ∧ Ext h hh) (fun x _ => ((l : Int) - x).toNat) ((l : Int) - (k : Int)).toNat (fun x hh => ∃ j : Nat, x = j ∧ j ≤ k ∧ Ext h hh) (fun x _ => ((k : Int) - x).toNat) ((k : Int) - (j : Int)).toNat a l c (en es k).path l k k j b101 h2 fun v h' => v = .bool true ∧ Ext h h' := by
            intro hh
            refine ⟨q, eq, by omega, by omega, _, by rw [Int.toNat_natCast]; exact d0, HEnt.use (in_ok _ _ (by omega) h4) ?_⟩
            rintro _ _ ⟨rfl, rfl⟩
            exact ⟨_, rfl, k9 _ (hst.2 hh)⟩
          refine ⟨_, rfl, br_of (fun hb => by cases hb) (fun _ => ?_)⟩
          refine ⟨q, eq, by omega, by omega, _, by rw [Int.toNat_natCast]; exact d1, br_of (fun g2 => asks (.inl (by simpa using g2))) (fun _ => ?_)⟩
          exact ⟨q, eq, by omega, by omega, _, by rw [Int.toNat_natCast]; exact d1, br_of (fun g2 => asks (.inr (by simpa using g2))) (fun _ => k9 _ rfl)⟩
        · unfold F3_k11
          rw [i64_lt _ (by omega) (by omega)]
          exact ⟨⟨k + 1, by omega, by omega, x4⟩, by show ((l : Int) - ((k : Int) + 1)).toNat < ((l : Int) - k).toNat; omega⟩
      refine br_of (fun g2 => ⟨q, eq, by omega, by omega, _, by rw [Int.toNat_natCast]; exact d3, k5 _ ?_⟩) (fun _ => k5 _ rfl)
      have : (en es k).body.size = 0 := hbody (by simpa using g2)
      rw [seq0, this]; rfl
    · unfold F3_k12
      refine br_of (fun _ => ?_) (fun hb => ?_)
      · refine HEnt.use (works_ok _ (hm.ext x2)) ?_
        rintro _ h7 ⟨rfl, x7⟩
        exact ⟨_, rfl, rfl, x2.trans x7⟩
      · simp at hb; omega
  refine F3_ent _ _ _ _ _ ?_
  unfold F3
  refine br_of (fun g => ?_) (fun g => ?_)
  · have g' : l > 200 := by simp at g; omega
    have := w.cap
    rw [cutAt0]
    exact ⟨by omega, by omega, by omega, main _ _ _ (cut200 w g') (small_take hs _) (by omega)⟩
  · exact main _ _ _ w hs (by simp at g; omega)

/-! ### parts of a layer -/
def left (es : List EntV) (out : List Bool) : Nat → List EntV
  | 0 => []
  | k + 1 => if out.getD k false then left es out k else left es out k ++ [en es k]
def gone (es : List EntV) (out : List Bool) : Nat → Nat
  | 0 => 0
  | k + 1 => if out.getD k false then gone es out k + ((en es k).path.size + (en es k).body.size) else gone es out k
theorem left_sub (es : List EntV) (out : List Bool) : ∀ k, k ≤ es.length → List.Sublist (left es out k) (es.take k)
  | 0, _ => by simp [left]
  | k + 1, h => by
    have ih := left_sub es out k (by omega)
    rw [take_en (by omega)]
    unfold left
    split
    · exact ih.trans (List.sublist_append_left _ _)
    · exact ih.append (List.Sublist.refl _)
theorem left_size (es : List EntV) (out : List Bool) : ∀ k, k ≤ es.length → sizeC (left es out k) + gone es out k = sizeC (es.take k)
  | 0, _ => by simp [left, gone, sizeC]
  | k + 1, h => by
    have ih := left_size es out k (by omega)
    rw [take_en (by omega), sizeC_snoc]
    unfold left gone
    split
    · omega
    · rw [sizeC_snoc]; omega
def bools (out : List Bool) : List (List Value) := out.map fun b => [Value.bool b]
theorem part_ok' (a : Option Addr) (l c : Nat) (es : List EntV) (a1 : Option Addr) (l1 c1 : Nat) (out : List Bool) (h : Heap) (w : Tab 4 h a l c (ents es)) (w1 : Tab 1 h a1 l1 c1 (bools out)) (hs : Small es) (hm : MaxAt h) :
    HEnt Tryd.prog 5 #[.slice a l c, .slice a1 l1 c1] h fun v h' => v = .bool true ∧ Ext h h' := by
  have main : ∀ (l c : Nat) (es : List EntV), Tab 4 h a l c (ents es) → Small es → l ≤ 200 → F5_k1 a l c a1 l1 c1 h fun v h' => v = .bool true ∧ Ext h h' := by
    intro l c es w hs hl
    have hlen : es.length = l := by have := w.len; rwa [ents_len] at this
    have hlen1 : out.length = l1 := by have := w1.len; rwa [bools, List.length_map] at this
    unfold F5_k1
    refine HEnt.use (check_ok a l c es h w hs (by omega) hm) ?_
    rintro _ h1 ⟨rfl, x1⟩
    refine ⟨_, _, rfl, br_of (fun g => ?_) (fun g => ?_)⟩
    · refine HEnt.use (works_ok _ (hm.ext x1)) ?_
      rintro _ h7 ⟨rfl, x7⟩
      exact ⟨_, rfl, rfl, x1.trans x7⟩
    have g' : (checkC es).2 = 0 := by simp at g; omega
    unfold F5_k2
    refine ⟨fun a7 l7 c7 n x hh => ∃ k : Nat, x = k ∧ k ≤ l ∧ OwnR 30 4 h hh a7 l7 c7 (ents (left es out k)) ∧ n = (gone es out k : Nat), fun _ _ _ _ x _ => ((l : Int) - x).toNat, ⟨0, rfl, by omega, OwnR.nil 30 4 x1, rfl⟩, ?_⟩
    rintro h2 a7 l7 c7 _ _ ⟨k, rfl, hk, o7, rfl⟩
    have hl7 := o7.len
    rw [ents_len] at hl7
    have hsub := left_sub es out k (by omega)
    have hsl := hsub.length_le
    rw [List.length_take] at hsl
    unfold F5_b3
    refine br_of (fun g => ?_) (fun g => ?_)
    · have hk' : k < l := by simpa using g
      have k5 : ∀ (bb : Bool), bb = out.getD k false → F5_k5 (fun a7 l7 c7 n x hh => ∃ k : Nat, x = k ∧ k ≤ l ∧ OwnR 30 4 h hh a7 l7 c7 (ents (left es out k)) ∧ n = (gone es out k : Nat)) (fun _ _ _ _ x _ => ((l : Int) - x).toNat) ((l : Int) - (k : Int)).toNat a l c a1 l1 c1 a7 l7 c7 (gone es out k : Nat) k l k bb h2 fun v h' => v = .bool true ∧ Ext h h' := by
        rintro _ rfl
        have hsm := hs _ (en_mem (es := es) (i := k) (by omega))
        obtain ⟨q, eq, _, d0, d1, d2, d3⟩ := ent_get (w.grow o7.ext) (en_get (i := k) (by omega))
        unfold F5_k5
        have hsz := left_size es out (k + 1) (by omega)
        have hsb := size_bound hs (by omega) (k + 1)
        refine br_of (fun gb => ⟨q, eq, by omega, by omega, _, by rw [Int.toNat_natCast]; exact d0, q, eq, by omega, by omega, _, by rw [Int.toNat_natCast]; exact d3, fun h3 e3 => ?_⟩) (fun gb => ?_)
        · obtain rfl : h3 = h2 := e3
          have e1 : gone es out (k + 1) = gone es out k + ((en es k).path.size + (en es k).body.size) := by conv => lhs; unfold gone; rw [if_pos gb]
          have e2 : left es out (k + 1) = left es out k := by conv => lhs; unfold left; rw [if_pos gb]
          unfold F5_k6
          rw [i64_lt ((k : Int) + 1) (by omega) (by omega), i64_lt (((en es k).path.size : Int) + _) (by omega) (by omega), i64_lt _ (by omega) (by omega)]
          exact ⟨⟨k + 1, by omega, by omega, by rw [e2]; exact o7, by rw [e1]; omega⟩, by show ((l : Int) - ((k : Int) + 1)).toNat < ((l : Int) - k).toNat; omega⟩
        · have gb' : ¬ (out.getD k false = true) := by rw [gb]; decide
          have e1 : gone es out (k + 1) = gone es out k := by conv => lhs; unfold gone; rw [if_neg gb']
          have e2 : left es out (k + 1) = left es out k ++ [en es k] := by conv => lhs; unfold left; rw [if_neg gb']
          refine ⟨q, eq, by omega, by omega, _, _, _, _, by rw [Int.toNat_natCast]; exact d0, by rw [Int.toNat_natCast]; exact d1, by rw [Int.toNat_natCast]; exact d2, by rw [Int.toNat_natCast]; exact d3, rfl, rfl, by decide, newK_intro fun h3 n3 x3 _ => ?_⟩
          have o3 : OwnR 30 4 h2 h3 (some (at0 h2.size)) 1 1 (ents [en es k]) := OwnR.new_ (rows := ents [en es k]) n3 x3 (Nat.le_refl _) (ents_row _) rfl
          refine appK_R cells30 (o7.grow x3) o3.rows.src rfl (ents_row _) (ents_one _) (by rw [bytes30]; omega) zeroR30 fun a8 c8 h4 o4 k4 d4 => ?_
          unfold F5_k6
          rw [i64_lt ((k : Int) + 1) (by omega) (by omega)]
          refine ⟨⟨k + 1, by omega, by omega, ?_, by rw [e1]⟩, by show ((l : Int) - ((k : Int) + 1)).toNat < ((l : Int) - k).toNat; omega⟩
          rw [e2, ents, List.map_append]
          exact o4
      unfold F5_k4
      refine br_of (fun g2 => ?_) (fun g2 => ?_)
      · have hk1 : k < l1 := by simpa using g2
        obtain ⟨q1, eq1, _, hc1⟩ := (w1.grow o7.ext).get (i := k) (r := [.bool (out.getD k false)]) (by
          rw [bools, List.getElem?_map, List.getElem?_eq_getElem (by omega), List.getD_eq_getElem?_getD, List.getElem?_eq_getElem (by omega)]; rfl)
        refine ⟨q1, eq1, by omega, by omega, _, ?_, k5 _ rfl⟩
        have := hc1 0 _ rfl
        rw [Int.toNat_natCast]
        obtain ⟨b1, o1, s1⟩ := q1
        simpa [Addr.add] using this
      · have hk1 : ¬ k < l1 := by simpa using g2
        refine k5 _ ?_
        rw [List.getD_eq_getElem?_getD, List.getElem?_eq_none (by omega)]; rfl
    · have hk' : k = l := by
        have : ¬ (k : Int) < (l : Int) := by simpa using g
        omega
      subst hk'
      rw [List.take_of_length_le (by omega)] at hsub
      have hgl := ((good_check es).1 g').sub hsub
      have hcl := check_zero ((good_check _).2 hgl)
      have hsl' : Small (left es out k) := fun e he => hs e (hsub.subset he)
      have x02 := o7.ext
      unfold F5_k7
      refine HEnt.use (check_ok a7 l7 c7 _ h2 o7.rows hsl' (by omega) (hm.ext x02)) ?_
      rw [hcl.2.2]
      rintro _ h3 ⟨rfl, x3⟩
      refine ⟨_, _, rfl, br_of (fun _ => br_of (fun _ => ?_) (fun hb => by simp at hb)) (fun hb => by simp at hb)⟩
      refine HEnt.use (size_ok a7 l7 c7 _ h3 (o7.rows.grow x3) hsl' (by omega)) ?_
      rintro _ h4 ⟨rfl, x4⟩
      refine ⟨_, rfl, HEnt.use (size_ok a k c es h4 (w.grow ((x02.trans x3).trans x4)) hs (by omega)) ?_⟩
      rintro _ h5 ⟨rfl, x5⟩
      have hsz := left_size es out k (by omega)
      have hsb := size_bound hs (by omega) k
      rw [List.take_of_length_le (by omega)] at hsz hsb
      have x05 := ((x02.trans x3).trans x4).trans x5
      refine ⟨_, rfl, br_of (fun _ => ?_) (fun hb => ?_)⟩
      · refine HEnt.use (works_ok _ (hm.ext x05)) ?_
        rintro _ h7 ⟨rfl, x7⟩
        exact ⟨_, rfl, rfl, x05.trans x7⟩
      · rw [i64_lt _ (by omega) (by omega)] at hb
        simp at hb; omega
  refine F5_ent _ _ _ _ _ _ _ _ ?_
  unfold F5
  refine br_of (fun g => ?_) (fun g => ?_)
  · have g' : l > 200 := by simp at g; omega
    have := w.cap
    rw [cutAt0]
    exact ⟨by omega, by omega, by omega, main _ _ _ (cut200 w g') (small_take hs _) (by omega)⟩
  · exact main _ _ _ w hs (by simp at g; omega)
end Go.Proofs.YtnahhdkekchmfaaDoor
