import Derived.Test.YtcfegbpoailbdaaDoorOvlTj
import Derived.Test.YtcfegbpoailbdaaDoorVopA
import Derived.Test.YtcfegbpoailbdaaDoorVopD

set_option linter.unusedVariables false
set_option linter.unusedSimpArgs false
namespace Go.Proofs.YtcfegbpoailbdaaDoor
open Go.Vc Go.Sha Go.Trail Go.RowKit
/-- the paths on the way, behind the first, empty one -/
def pre : List Nat → List (List Nat)
  | [] => [[]]
  | c :: r => if c = 47 then [] :: (pre r).map (c :: ·) else (pre r).map (c :: ·)
def heads : List (List Nat) → List (List Nat)
  | [] => []
  | p :: ps => p :: (heads ps).map (fun x => p ++ 47 :: x)
theorem heads_pieces : ∀ l : List Nat, heads (pieces l) = pre l
  | [] => rfl
  | c :: r => by
    obtain ⟨p, ps, hp⟩ := pieces_ne r
    have ih := heads_pieces r
    rw [hp] at ih
    rw [pieces_cons c r p ps hp, pre]
    split
    · rename_i hc
      subst hc
      simp only [heads, List.nil_append]
      rw [← ih]; rfl
    · rw [← ih]
      simp only [heads, List.map_cons, List.map_map, List.cons_append]
      rfl
theorem heads_len : ∀ ps, (heads ps).length = ps.length
  | [] => rfl
  | p :: ps => by simp [heads, heads_len ps]
theorem heads_get : ∀ (ps : List (List Nat)) (i : Nat), i < ps.length → (heads ps)[i]? = some (joinT (ps.take (i + 1)))
  | [], i, h => by simp at h
  | p :: ps, 0, h => by simp [heads, joinT]
  | p :: q :: ps, i + 1, h => by
    have := heads_get (q :: ps) i (by simpa using h)
    simp only [heads, List.getElem?_cons_succ, List.getElem?_map]
    simp only [heads] at this
    rw [this]
    simp [joinT]
/-- the ways: what a loop over trail.Walk sees -/
def ways (l : List Nat) : List (List Nat) := if good l then [] :: heads (partsL l) else []
/-- behind i bytes: what is still to come -/
def rest (l : List Nat) (i : Nat) : List (List Nat) := if l = [] then [] else (pre (l.drop i)).map (l.take i ++ ·)
theorem ways_rest {l : List Nat} (h : good l) : ways l = [] :: rest l 0 := by
  unfold ways rest
  rw [if_pos h]
  split
  · rename_i h0; subst h0; simp [partsL, heads]
  · rename_i h0
    rw [parts_good h h0, heads_pieces]; simp
theorem rest_slash {l : List Nat} {i : Nat} (hi : i < l.length) (hc : l.getD i 0 = 47) : rest l i = l.take i :: rest l (i + 1) := by
  have h0 : l ≠ [] := by intro e; subst e; simp at hi
  have hd : l.drop i = 47 :: l.drop (i + 1) := by
    rw [List.drop_eq_getElem_cons hi]; simp [List.getD_eq_getElem?_getD, List.getElem?_eq_getElem hi] at hc; rw [hc]
  have ht : l.take (i + 1) = l.take i ++ [47] := by rw [take_succ_getD l i hi, hc]
  unfold rest
  rw [if_neg h0, if_neg h0, hd, pre, if_pos rfl, ht]
  simp [List.map_map, Function.comp_def]
theorem rest_other {l : List Nat} {i : Nat} (hi : i < l.length) (hc : l.getD i 0 ≠ 47) : rest l i = rest l (i + 1) := by
  have h0 : l ≠ [] := by intro e; subst e; simp at hi
  have hd : l.drop i = l.getD i 0 :: l.drop (i + 1) := by
    rw [List.drop_eq_getElem_cons hi]; simp [List.getD_eq_getElem?_getD, List.getElem?_eq_getElem hi]
  have ht : l.take (i + 1) = l.take i ++ [l.getD i 0] := take_succ_getD l i hi
  unfold rest
  rw [if_neg h0, if_neg h0, hd, pre, if_neg hc, ht]
  simp [List.map_map, Function.comp_def]
theorem rest_end {l : List Nat} (h0 : l ≠ []) : rest l l.length = [l] := by
  unfold rest; rw [if_neg h0]; simp [pre]

theorem own_take {el : TypeId} {h : Heap} {a : Option Addr} {l c k : Nat} {vs : List Value} (o : OwnN el h a l c vs) (hk : k ≤ l) : OwnN el h a k c (vs.take k) := by
  rcases o with ⟨rfl, rfl, rfl, rfl⟩ | ⟨h1, h2, b, cs, rfl, h3, h4, h5, h6⟩
  · exact .inl ⟨rfl, by omega, rfl, by simp⟩
  · refine .inr ⟨by simp [h1, hk], by omega, b, cs, rfl, h3, h4, h5, ?_⟩
    rw [← h6, List.take_take, Nat.min_eq_left hk]
theorem own_any {el : TypeId} {h : Heap} {a : Option Addr} {l c : Nat} {vs : List Value} (o : OwnN el h a l c vs) : OwnAt el #[] h a l c vs := ⟨o, fun _ _ => Nat.zero_le _, ⟨Nat.zero_le _, fun k hk => absurd hk (Nat.not_lt_zero _)⟩⟩
theorem own_blk {el : TypeId} {h : Heap} {a : Option Addr} {l c b : Nat} {vs : List Value} (o : OwnN el h a l c vs) (e : a = some ⟨b, 0, none⟩) : b < h.size := by
  rcases o with ⟨h0, _⟩ | ⟨_, _, b', cs, h0, _, hb, _⟩
  · rw [h0] at e; cases e
  · rw [h0] at e; cases e; exact blk_lt hb
theorem ways_len (l : List Nat) (h : good l) : (ways l).length = (partsL l).length + 1 := by unfold ways; rw [if_pos h]; simp [heads_len]
theorem ways_get {l : List Nat} (h : good l) {k : Nat} (hk : k < (partsL l).length) : (ways l)[k + 1]? = some (joinT ((partsL l).take (k + 1))) := by
  unfold ways; rw [if_pos h, List.getElem?_cons_succ]; exact heads_get _ _ hk
theorem take_snoc {α : Type} {l : List α} {k : Nat} {x : α} (h : l[k]? = some x) : l.take (k + 1) = l.take k ++ [x] := by
  rw [List.take_add_one, h]; rfl
theorem refWalk_ok (s : ByteArray) (hs : s.size < 2 ^ 30) (h : Heap) : HEnt Tryd.prog 30 #[.string s] h fun v h' => ∃ a l c, v = .slice a l c ∧ OwnAt 9 h h' a l c (vals (ways (lst s))) := by
  refine F30_ent _ _ _ ?_
  unfold F30
  refine HEnt.use (refIs_ok s hs h) ?_
  rintro _ h1 ⟨rfl, x1⟩
  refine ⟨_, rfl, br_of (fun hb => ?_) (fun hb => ?_)⟩
  · have hg : ¬ good (lst s) := by simpa using hb
    refine ⟨none, 0, 0, rfl, ?_⟩
    unfold ways; rw [if_neg hg]
    exact OwnAt.nil 9 x1
  have hg : good (lst s) := by simpa using hb
  unfold F30_k1
  refine ⟨by decide, newK_intro fun h2 hb2 x2 _ => ?_⟩
  refine HEnt.use (refParts_ok s hs h2) ?_
  rintro _ h3 ⟨a, l, c, rfl, o⟩
  refine ⟨a, l, c, rfl, ?_⟩
  rintro _ rfl
  have hl := o.len
  rw [vals_len] at hl
  have hp := parts_all (lst s)
  have hlt := blk_lt hb2
  have hW := ways_len (lst s) hg
  have hw0 : (ways (lst s)).take 1 = [[]] := by unfold ways; rw [if_pos hg]; simp
  refine ⟨fun a' l' c' x h' => ∃ k : Nat, x = k ∧ 1 ≤ k ∧ k ≤ l + 1 ∧ OwnN 9 h' a' l' c' (vals ((ways (lst s)).take k)) ∧ l' = k ∧ (∀ b, a' = some ⟨b, 0, none⟩ → b = h1.size ∨ h3.size ≤ b) ∧ OwnN 9 h' a l c (vals (partsL (lst s))) ∧ Ext h h' ∧ h3.size ≤ h'.size,
    fun _ _ _ x _ => (l + 2 - x).toNat, ⟨1, rfl, by omega, by omega, ?_, rfl, fun b e => by cases e; exact .inl rfl, o.own, (x1.trans x2).trans o.ext, Nat.le_refl _⟩, ?_⟩
  · have hb3 := o.ext.blk hb2
    have := Own.new hb3 (Nat.zero_le _)
    rw [hw0]
    exact .inr this
  rintro h4 a' l' c' _ ⟨k, rfl, hk1, hkl, ow, rfl, hnew, op, xx, hsz⟩
  unfold F30_b2
  refine br_of (fun ht => ?_) (fun hf => ?_)
  · have hk' : l' ≤ l := by
      have : (l' : Int) ≤ (l : Int) := by simpa using ht
      omega
    have hc : l ≤ c := by
      rcases op with ⟨_, e, _⟩ | op
      · omega
      · exact op.cap
    obtain ⟨pb, rfl⟩ : ∃ pb, a = some ⟨pb, 0, none⟩ := by
      rcases op with ⟨_, e, _⟩ | ⟨_, _, b, _, e, _⟩
      · omega
      · exact ⟨b, e⟩
    have hpb := o.new pb rfl
    have hpb3 := own_blk o.own rfl
    unfold F30_k3
    refine ⟨by omega, by omega, by omega, ?_⟩
    rw [cut0, Int.toNat_natCast, Nat.sub_zero, Nat.sub_zero]
    have ot := own_any (own_take op hk')
    rw [vals, ← List.map_take] at ot
    refine HEnt.use (text_ok _ l' c ((partsL (lst s)).take l') h4 ot (fun p hpm => hp.1 p (List.mem_of_mem_take hpm)) (by omega)) ?_
    rintro _ h4' ⟨rfl, e4⟩
    subst e4
    refine ⟨_, rfl, by decide, newK_intro fun h5 hb5 x5 e5 => ?_⟩
    have ow5 : OwnN 9 h5 a' l' c' (vals ((ways (lst s)).take l')) := OwnN.keep ow (x5.keep fun _ => False) fun _ _ h => h
    have src : srcK h5 1 (.slice (some (at0 h4'.size)) 1 1) 1 [.string (str (joinT ((partsL (lst s)).take l')))] :=
      srcK_slice rfl (fun ad e => by cases e; exact cells_blk0 hb5) (fun e => by cases e)
    refine appK_ownN cells9 zero9 ow5 src rfl (fun u hu => by rw [List.mem_singleton] at hu; subst hu; rfl) (by rw [bytes9]; omega) ?_
    intro a2 c2 h6 o6 k6 d6
    have ek : (ways (lst s)).take (l' + 1) = (ways (lst s)).take l' ++ [joinT ((partsL (lst s)).take l')] := by
      obtain ⟨k, rfl⟩ : ∃ k, l' = k + 1 := ⟨l' - 1, by omega⟩
      exact take_snoc (ways_get hg (by omega))
    have e1 : IntKind.i64.wrap ((l' : Int) + 1) = ((l' + 1 : Nat) : Int) := by rw [i64_lt _ (by omega) (by omega)]; omega
    rintro _ rfl
    refine ⟨⟨l' + 1, e1, by omega, by omega, ?_, rfl, ?_, ?_, ?_, ?_⟩, ?_⟩
    · rw [ek, vals_append]; exact o6
    · intro b e
      rcases d6 b e with e | e
      · exact hnew b e
      · have := x5.size; exact .inr (by omega)
    · refine OwnN.keep (OwnN.keep op (x5.keep fun _ => False) fun _ _ h => h) k6 ?_
      intro b e hS
      cases e
      rcases hS with e | e
      · rcases hnew _ e with e | e <;> omega
      · have := x5.size; omega
    · refine Keep.since (xx.trans x5) k6 fun b hb hS => ?_
      rcases hS with e | e
      · have := o.ext.size; have := x2.size; have := x1.size; rcases hnew _ e with e | e <;> omega
      · have := (xx.trans x5).size; omega
    · have := k6.size; have := x5.size; omega
    · rw [e1]; show ((l : Int) + 2 - ((l' + 1 : Nat) : Int)).toNat < ((l : Int) + 2 - (l' : Int)).toNat; omega
  · have hk' : l' = l + 1 := by
      have : ¬ (l' : Int) ≤ (l : Int) := by simpa using hf
      omega
    unfold F30_k4
    subst hk'
    rw [List.take_of_length_le (by rw [hW]; omega)] at ow
    exact ⟨_, _, _, rfl, ow, fun b e => by rcases hnew b e with e | e <;> have := x1.size <;> have := x2.size <;> have := o.ext.size <;> omega, xx⟩

theorem HYield.use {P : Program} {l : Nat} {args : Array Value} {h : Heap} {R R' : Value → Heap → Prop} (c : HYield P l args h R) (hr : ∀ v h', R v h' → R' v h') : HYield P l args h R' := fun w hw =>
  let ⟨f, t, a, b, h1, h2⟩ := c w hw
  ⟨f, t, a, b, h1, h2.mono fun e w' ⟨v, e1, e2, e3⟩ => ⟨v, e1, e2, hr _ _ e3⟩⟩
theorem walkIt_ok {l0 : Nat} {q : Addr} (s : ByteArray) (hs : s.size < 2 ^ 30) (St : Nat → Heap → Prop) (Done : Heap → Prop)
    (hc : ∀ k h, St k h → Vc.cell h q = some (.string s)) (hm : ∀ k h, St k h → MaxAt h) (hx : ∀ k h h', St k h → Ext h h' → St k h')
    (hy : ∀ k h x, St k h → (ways (lst s))[k]? = some x → HYield Tryd.prog l0 #[.string (str x)] h fun v h' => (v = .bool true ∧ St (k + 1) h') ∨ (v = .bool false ∧ Done h'))
    (h : Heap) (h0 : St 0 h) : HEnt Tryd.prog 59 #[.func (.yield l0) #[] #[], .pointer (some q)] h fun v h' => Done h' ∨ St (ways (lst s)).length h' := by
  refine F59_ent _ _ _ _ ?_
  unfold F59
  refine ⟨s, hc _ _ h0, HEnt.use (is_ok s hs h (hm _ _ h0)) ?_⟩
  rintro _ h1 ⟨rfl, x1⟩
  have h01 := hx _ _ _ h0 x1
  refine ⟨_, rfl, br_of (fun hb => ?_) (fun hb => ?_)⟩
  · have hg : ¬ good (lst s) := by simpa using hb
    unfold F59_k1
    refine br_of (fun _ => .inr ?_) (fun e => by cases e)
    unfold ways; rw [if_neg hg]; exact h01
  have hg : good (lst s) := by simpa using hb
  have hw := ways_rest hg
  refine HYield.use (hy 0 h1 [] h01 (by rw [hw]; rfl)) ?_
  rintro _ h2 (⟨rfl, h2s⟩ | ⟨rfl, hd⟩)
  rotate_left
  · refine ⟨_, rfl, ?_⟩
    unfold F59_k1
    exact br_of (fun _ => .inl hd) (fun e => by cases e)
  refine ⟨_, rfl, ?_⟩
  unfold F59_k1
  refine br_of (fun e => by cases e) (fun _ => ?_)
  unfold F59_k2
  refine ⟨s, hc _ _ h2s, fun x h' => ∃ i k : Nat, x = i ∧ i ≤ s.size ∧ k ≤ (ways (lst s)).length ∧ (ways (lst s)).drop k = rest (lst s) i ∧ St k h', fun x _ => (s.size - x).toNat, ⟨0, 1, rfl, by omega, by rw [hw]; simp, by rw [hw]; simp, h2s⟩, ?_⟩
  rintro h3 _ ⟨i, k, rfl, hi, hk, hd, h3s⟩
  unfold F59_b3
  refine br_of (fun ht => ?_) (fun hf => ?_)
  · have hi' : i < s.size := by
      have : (i : Int) < (s.size : Int) := by simpa using ht
      omega
    have hil : i < (lst s).length := by rw [lst_len]; exact hi'
    have e1 : IntKind.i64.wrap ((i : Int) + 1) = ((i + 1 : Nat) : Int) := by rw [i64_lt _ (by omega) (by omega)]; omega
    unfold F59_k4
    refine ⟨s, hc _ _ h3s, by omega, by omega, ?_⟩
    rw [bt_lst]
    refine br_of (fun hc47 => ?_) (fun hc47 => ?_)
    · have h47 : (lst s).getD i 0 = 47 := by
        have : (((lst s).getD i 0 : Nat) : Int) = 47 := by simpa using hc47
        omega
      rw [rest_slash hil h47] at hd
      have hg0 : (ways (lst s))[k]? = some ((lst s).take i) := by
        have := congrArg (·[0]?) hd
        simpa using this
      have hd1 : (ways (lst s)).drop (k + 1) = rest (lst s) (i + 1) := by
        rw [← List.drop_drop, hd]; rfl
      have hkl : k + 1 ≤ (ways (lst s)).length := (List.getElem?_eq_some_iff.1 hg0).1
      refine ⟨s, hc _ _ h3s, by omega, by omega, by omega, ?_⟩
      rw [Int.toNat_natCast, str_cut]
      simp only [List.drop_zero, Nat.sub_zero]
      refine HYield.use (hy k h3 _ h3s hg0) ?_
      rintro _ h4 (⟨rfl, h4s⟩ | ⟨rfl, hdn⟩)
      · refine ⟨_, rfl, ?_⟩
        unfold F59_k5
        refine br_of (fun e => by cases e) (fun _ => ?_)
        unfold F59_k6
        rw [e1]
        exact ⟨⟨i + 1, k + 1, rfl, by omega, hkl, hd1, h4s⟩, by show ((s.size : Int) - ((i + 1 : Nat) : Int)).toNat < ((s.size : Int) - (i : Int)).toNat; omega⟩
      · refine ⟨_, rfl, ?_⟩
        unfold F59_k5
        exact br_of (fun _ => .inl hdn) (fun e => by cases e)
    · have h47 : (lst s).getD i 0 ≠ 47 := by
        have : ¬ (((lst s).getD i 0 : Nat) : Int) = 47 := by simpa using hc47
        omega
      rw [rest_other hil h47] at hd
      unfold F59_k5
      refine br_of (fun e => by cases e) (fun _ => ?_)
      unfold F59_k6
      rw [e1]
      exact ⟨⟨i + 1, k, rfl, by omega, hk, hd, h3s⟩, by show ((s.size : Int) - ((i + 1 : Nat) : Int)).toNat < ((s.size : Int) - (i : Int)).toNat; omega⟩
  · have hi' : i = s.size := by
      have : ¬ (i : Int) < (s.size : Int) := by simpa using hf
      omega
    subst hi'
    unfold F59_k7
    refine ⟨s, hc _ _ h3s, ?_⟩
    rw [seq_nil]
    refine br_of (fun h0 => ?_) (fun h0 => ?_)
    · have h0' : lst s ≠ [] := by simpa using h0
      rw [← lst_len, rest_end h0'] at hd
      have hg0 : (ways (lst s))[k]? = some (lst s) := by
        have := congrArg (·[0]?) hd
        simpa using this
      have hkl : k + 1 = (ways (lst s)).length := by
        have := congrArg List.length hd
        simp at this
        omega
      refine ⟨s, hc _ _ h3s, ?_⟩
      have := hy k h3 _ h3s hg0
      rw [str_lst] at this
      refine HYield.use this ?_
      rintro _ h4 (⟨rfl, h4s⟩ | ⟨rfl, hdn⟩)
      · exact ⟨_, rfl, .inr (hkl ▸ h4s)⟩
      · exact ⟨_, rfl, .inl hdn⟩
    · have h0' : lst s = [] := by simpa using h0
      have hkl : k = (ways (lst s)).length := by
        have := congrArg List.length hd
        unfold rest at this; rw [if_pos h0'] at this
        simp at this
        omega
      exact .inr (hkl ▸ h3s)
end Go.Proofs.YtcfegbpoailbdaaDoor

set_option linter.unusedVariables false
set_option linter.unusedSimpArgs false
namespace Go.Proofs.YtcfegbpoailbdaaDoor
open Go.Vc Go.Sha Go.Trail Go.RowKit
theorem keep_set {h : Heap} {l : Nat} (o : Obj) : Keep (fun j => j = l) h (h.setIfInBounds l o) :=
  ⟨by simp, fun k hk hn => by rw [Array.getElem?_setIfInBounds_ne (fun e => hn e.symm)]⟩
theorem set_same {h : Heap} {l : Nat} {o o' : Obj} (hl : h[l]? = some o) : (h.setIfInBounds l o')[l]? = some o' := Array.getElem?_setIfInBounds_self_of_lt (blk_lt hl)
theorem cell_of {h : Heap} {b : Nat} {v : Value} {t : TypeId} {fr : Nat × Nat} (hb : h[b]? = some (.cells #[v] t fr)) : Vc.cell h (at0 b) = some v := by
  rw [at0_mk, cell_blk hb]; rfl
theorem store1 {h : Heap} {b : Nat} {v u : Value} {t : TypeId} {K : Heap → Prop} (hb : h[b]? = some (.cells #[u] t (0, 0))) (h1 : one v = true)
    (hK : ∀ h', Keep (fun j => j = b) h h' → h'.size = h.size → h'[b]? = some (.cells #[v] t (0, 0)) → K h') : storeK 1 h (at0 b) v K := by
  refine storeK_one hb (by simp) (.inr (Nat.le_refl _)) h1 ?_
  intro h' x y
  exact hK h' (y.keep rfl) y.size (by simpa using x)
theorem ways_small (l : List Nat) : (ways l).length ≤ 9 := by
  unfold ways
  split
  · have := (parts_all l).2; simp [heads_len]; omega
  · simp
theorem set_ext {h0 h : Heap} {b : Nat} (x : Ext h0 h) (hb : h0.size ≤ b) (o : Obj) : Ext h0 (h.setIfInBounds b o) :=
  Keep.since x (keep_set o) fun k hk e => by omega
end Go.Proofs.YtcfegbpoailbdaaDoor
