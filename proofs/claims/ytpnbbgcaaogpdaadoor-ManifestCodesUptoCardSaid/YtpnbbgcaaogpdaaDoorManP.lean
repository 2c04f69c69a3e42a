import Derived.Test.YtpnbbgcaaogpdaaDoorManN

namespace Go.Proofs.YtpnbbgcaaogpdaaDoor
open Go.Vc Go.Sha Go.Trail Go.RowKit Go.Man
set_option linter.unusedVariables false
set_option linter.unusedSimpArgs false
set_option maxRecDepth 8000
def splitV (a : Option Addr) (l c n : Nat) : Value := if n ≤ l then .tuple #[.slice a n c, .slice (cutAt c n 1 a) (l - n) (c - n), .bool true] else .tuple #[.slice none 0 0, .slice none 0 0, .bool false]
theorem split_ok (a : Option Addr) (l c n : Nat) (hc : l ≤ c) (h : Heap) : HEnt Tryd.prog 50 #[.slice a l c, .int .i64 n] h fun v h' => v = splitV a l c n ∧ h' = h := by
  refine F50_ent _ _ _ _ _ _ ?_
  unfold F50
  refine br_of (fun g => ⟨?_, rfl⟩) (fun g => ?_)
  · have g' : (n : Int) > (l : Int) := by simpa using g
    unfold splitV; rw [if_neg (by omega)]
  · have g' : ¬ (n : Int) > (l : Int) := by simpa using g
    unfold F50_k1
    refine ⟨by omega, by omega, by omega, by omega, by omega, fun h1 hcl => ?_⟩
    obtain rfl := hcl.eq
    refine ⟨?_, rfl⟩
    unfold splitV; rw [if_pos (by omega), cutAt0, Int.toNat_natCast, Nat.sub_zero, Nat.sub_zero]
theorem rows8_take (bs : List Nat) (k : Nat) : (rows8 bs).take k = rows8 (bs.take k) := (List.map_take ..).symm
theorem rows8_drop (bs : List Nat) (k : Nat) : (rows8 bs).drop k = rows8 (bs.drop k) := (List.map_drop ..).symm
def FailT (q2 : Addr) (b : Bool) (h : Heap) (R : Value → Heap → Prop) : Prop :=
  ∃ s30_0 : ByteArray, ∃ s30_1 : ByteArray, ∃ a30_2 : Option Addr, ∃ l30_2 : Nat, ∃ c30_2 : Nat, Vc.cell h (q2.add 0) = some (Value.string s30_0) ∧ Vc.cell h (q2.add 1) = some (Value.string s30_1) ∧ Vc.cell h (q2.add 2) = some (Value.slice a30_2 l30_2 c30_2) ∧ 3 = 3 ∧ storeK 3 h q2 (Value.agg #[Value.string s30_0, Value.string s30_1, Value.slice a30_2 l30_2 c30_2]) fun h1 => ∃ sr0_0 : ByteArray, ∃ sr0_1 : ByteArray, ∃ ar0_2 : Option Addr, ∃ lr0_2 : Nat, ∃ cr0_2 : Nat, Vc.cell h1 (q2.add 0) = some (Value.string sr0_0) ∧ Vc.cell h1 (q2.add 1) = some (Value.string sr0_1) ∧ Vc.cell h1 (q2.add 2) = some (Value.slice ar0_2 lr0_2 cr0_2) ∧ 3 = 3 ∧ R (Value.tuple #[Value.agg #[Value.string sr0_0, Value.string sr0_1, Value.slice ar0_2 lr0_2 cr0_2], Value.bool b]) h1
theorem failT {b2 : Nat} {b : Bool} {h : Heap} {R : Value → Heap → Prop} {m : ManV} {a : Option Addr} {l c : Nat} (hb : h[b2]? = some (.cells (manA m a l c) 24 (0, 0)))
    (hR : ∀ h1, Only b2 h h1 → R (.tuple #[.agg (manA m a l c), .bool b]) h1) : FailT (at0 b2) b h R := by
  refine ⟨m.name, m.ver, a, l, c, by rw [at_cell hb]; rfl, by rw [at_cell hb]; rfl, by rw [at_cell hb]; rfl, rfl, ?_⟩
  refine storeK_whole (vs := manA m a l c) hb rfl rfl (man_one m a l c) fun h1 hb1 o1 => ?_
  exact ⟨m.name, m.ver, a, l, c, by rw [at_cell hb1]; rfl, by rw [at_cell hb1]; rfl, by rw [at_cell hb1]; rfl, rfl, hR h1 o1⟩
theorem lst_vm : lst ⟨#[86, 77, 1]⟩ = [86, 77, 1] := rfl
theorem zero24 : zeroC Tryd.prog 24 = #[.string ByteArray.empty, .string ByteArray.empty, .slice none 0 0] := by kernel_rfl
def e0 : ManV := ⟨ByteArray.empty, ByteArray.empty, []⟩
theorem str_e : str [] = ByteArray.empty := rfl
/-- what the inner decode leaves -/
def DecR (h : Heap) (bs : List Nat) : Value → Heap → Prop := fun v h' => Ext h h' ∧
  ((∃ m a' l' c', decP bs = some m ∧ v = .tuple #[.agg (manA m a' l' c'), .bool true] ∧ OwnR 54 33 h h' a' l' c' (rowsR m.refs)) ∨ (decP bs = none ∧ ∃ m' a' l' c', v = .tuple #[.agg (manA m' a' l' c'), .bool false]))
theorem row_set {d : List Nat} {v : Nat} (hd : d.length = 32) (z : List Value) (hz : z.length = 33) (h32 : z.drop 32 = [.int .i64 0]) :
    (z.take 0 ++ (d.map fun n : Nat => Value.int .u8 (n : Int)) ++ z.drop 32).set 32 (.int .i64 v) = refC (d, (v : Int)) := by
  rw [h32, List.take_zero, List.nil_append, List.set_append]
  simp [hd, refC]
theorem first_byte {h : Heap} {a : Option Addr} {l c n : Nat} {r : List Nat} (w : Tab 1 h a l c (rows8 (n :: r))) : ∃ q, a = some q ∧ 0 < l ∧ Vc.cell h (q.add (0 * 1)) = some (.int .u8 (n : Nat)) := by
  obtain ⟨q, e, h1, h2⟩ := tab8_get w (i := 0) (by simp)
  exact ⟨q, e, h1, h2⟩
theorem decode35_ok (a : Option Addr) (l c : Nat) (bs : List Nat) (h : Heap) (w : Tab 1 h a l c (rows8 bs)) (hb : ∀ x ∈ bs, x < 256) (hl : l < 2 ^ 40) :
    HEnt Tryd.prog 35 #[.slice a l c] h (DecR h bs) := by
  have hlen : bs.length = l := by have := w.len; rwa [rows8_len] at this
  have hcap := w.cap
  refine F35_ent _ _ _ _ _ ?_
  unfold F35
  rw [zero24]
  refine newK_intro fun h1 hb1 x1 _ => ?_
  have hb1 : h1[h.size]? = some (.cells (manA e0 none 0 0) 24 (0, 0)) := hb1
  -- a way out without an answer
  have bad : ∀ (h' : Heap) (m : ManV) (a' : Option Addr) (l' c' : Nat), Ext h h' → h'[h.size]? = some (.cells (manA m a' l' c') 24 (0, 0)) → decP bs = none → FailT (at0 h.size) false h' (DecR h bs) := fun h' m a' l' c' x hb' hd =>
    failT hb' fun h1 o1 => ⟨Keep.since x (o1.keep rfl : Keep (fun j => j = h.size) h' h1) fun j hj e => by omega, .inr ⟨hd, m, a', l', c', rfl⟩⟩
  refine HEnt.use (split_ok a l c 3 hcap h1) ?_
  rintro _ h2 ⟨rfl, e2⟩
  subst e2
  -- ahead of the names
  have first : ∀ b29 : Bool, (b29 = true → decP bs = none) → (b29 = false → 3 ≤ l ∧ bs.take 3 = [86, 77, 1]) → ∀ (a1 : Option Addr) (l1 c1 : Nat), (b29 = false → Tab 1 h a1 l1 c1 (rows8 (bs.drop 3))) → F35_k1 a1 l1 c1 (at0 h.size) b29 h2 (DecR h bs) := by
    intro b29 hbad hgood a1 l1 c1 hw1
    unfold F35_k1
    refine br_of (fun e => bad h2 e0 none 0 0 x1 hb1 (hbad e)) (fun e => ?_)
    obtain ⟨hl3, ht3⟩ := hgood e
    have w1 := hw1 e
    have hP : parseM bs = (strP (bs.drop 3)).bind fun p => (strP p.2).bind fun q => tailP p.1 q.1 q.2 := by unfold parseM; rw [if_pos ⟨by omega, ht3⟩]
    have decN : parseM bs = none → decP bs = none := fun e => by unfold decP; rw [e]
    unfold F35_k2
    refine ⟨by decide, newK_intro fun h3 hb3 x3 _ => ?_⟩
    have z1 := x1.size
    have zb := blk_lt hb1
    have x13 := x1.trans x3
    refine ⟨fun a l c x h' => ∃ (k : Nat) (m : ManV) (r : List Nat), x = k ∧ k ≤ 2 ∧ l < 2 ^ 40 ∧ Tab 1 h a l c (rows8 r) ∧ (∀ y ∈ r, y < 256) ∧ Ext h h' ∧ h'[h.size]? = some (.cells (manA m none 0 0) 24 (0, 0)) ∧ h'[h2.size]? = some (.cells #[.pointer (some ((at0 h.size).add 0)), .pointer (some ((at0 h.size).add 1))] 83 (0, 0)) ∧
        ((k = 0 ∧ r = bs.drop 3 ∧ m = e0) ∨ (∃ s, k = 1 ∧ strP (bs.drop 3) = some (s, r) ∧ m = ⟨str s, ByteArray.empty, []⟩) ∨ (∃ s r1 t, k = 2 ∧ strP (bs.drop 3) = some (s, r1) ∧ strP r1 = some (t, r) ∧ m = ⟨str s, str t, []⟩)),
      fun _ _ _ x _ => (2 - x).toNat, ⟨0, e0, bs.drop 3, rfl, by omega, by have := w1.len; rw [rows8_len, List.length_drop] at this; omega, w1, fun y hy => hb y (List.mem_of_mem_drop hy), x13, x3.blk hb1, hb3, .inl ⟨rfl, rfl, rfl⟩⟩, ?_⟩
    rintro h4 a4 l4 c4 _ ⟨k, m, r, rfl, hk, hl4, w4, r256, x4, hb4, hp4, hst⟩
    have lr : r.length = l4 := by have := w4.len; rwa [rows8_len] at this
    have cap4 := w4.cap
    unfold F35_b3
    refine br_of (fun ht => ?_) (fun hf => ?_)
    · -- a name
      have hk2 : k < 2 := by
        have : (k : Int) < 2 := by simpa using ht
        omega
      have ek : IntKind.i64.wrap ((k : Int) + 1) = ((k + 1 : Nat) : Int) := by rw [i64_lt _ (by omega) (by omega)]; omega
      have none_of : strP r = none → decP bs = none := fun e => decN (by
        rw [hP]
        rcases hst with ⟨_, hr, _⟩ | ⟨s, _, hs, _⟩ | ⟨s, r1, t, hk', _⟩
        · rw [← hr, e]; rfl
        · rw [hs]; simp [e]
        · omega)
      unfold F35_k4
      refine ⟨at0 h2.size, rfl, by omega, by simpa using ht, some ((at0 h.size).add k), ?_, br_of (fun h0 => ?_) (fun h0 => ?_)⟩
      · rw [Int.toNat_natCast, Nat.mul_one, at_cell hp4]
        have : k = 0 ∨ k = 1 := by omega
        rcases this with rfl | rfl <;> rfl
      · have h0' : (l4 : Int) = 0 := by simpa using h0
        have : r = [] := List.eq_nil_of_length_eq_zero (by omega)
        exact bad h4 m none 0 0 x4 hb4 (none_of (by rw [this]; rfl))
      have h0' : ¬ (l4 : Int) = 0 := by simpa using h0
      cases r with
      | nil => simp at lr; omega
      | cons n q =>
        simp only [List.length_cons] at lr
        have n256 := r256 n (List.mem_cons_self ..)
        obtain ⟨q4, rfl, _, hcell⟩ := first_byte (w4.grow x4)
        have wd := tab_drop w4 1 (by omega)
        rw [rows8_drop] at wd
        have wd : Tab 1 h (cutAt c4 1 1 (some q4)) (l4 - 1) (c4 - 1) (rows8 q) := wd
        have lq : q.length = l4 - 1 := by omega
        unfold F35_k5
        refine ⟨by omega, by omega, q4, rfl, by omega, by omega, (n : Nat), hcell, ?_⟩
        rw [i64_lt _ (by omega) (by omega)]
        have hsv := splitV (cutAt c4 1 1 (some q4)) (l4 - 1) (c4 - 1) n
        by_cases hn : n ≤ l4 - 1
        · have esv : splitV (cutAt c4 1 1 (some q4)) (l4 - 1) (c4 - 1) n = .tuple #[.slice (cutAt c4 1 1 (some q4)) n (c4 - 1), .slice (cutAt (c4 - 1) n 1 (cutAt c4 1 1 (some q4))) (l4 - 1 - n) (c4 - 1 - n), .bool true] := by unfold splitV; rw [if_pos hn]
          refine ⟨cutAt c4 1 1 (some q4), n, c4 - 1, cutAt (c4 - 1) n 1 (cutAt c4 1 1 (some q4)), l4 - 1 - n, c4 - 1 - n, true, fun h5 x5 => ?_, fun h5 x5 => br_of (fun e => by cases e) (fun _ => ?_)⟩
          · refine HEnt.mono (split_ok _ _ _ n (by omega) h5) ?_
            rintro v _ ⟨rfl, rfl⟩
            exact ⟨esv, Ext.refl _⟩
          have x45 : Ext h h5 := x4.trans x5
          have hb5 := x5.blk hb4
          have wt := wd.take n hn
          rw [rows8_take] at wt
          have q256 : ∀ y ∈ q, y < 256 := fun y hy => r256 y (List.mem_cons_of_mem _ hy)
          have hsp : strP (n :: q) = some (q.take n, q.drop n) := by rw [strP, if_pos (by omega)]
          unfold F35_k6
          refine ⟨str (q.take n), by rw [str_size, List.length_take]; omega, fun ad e => tab8_cells (wt.grow x45) (fun y hy => q256 y (List.mem_of_mem_take hy)) ad e, fun e => ?_, (at0 h.size).add k, rfl, ?_⟩
          · have := wt.nil e
            have h0 : (rows8 (q.take n)).length = 0 := by rw [this]; rfl
            rw [rows8_len, List.length_take] at h0
            omega
          rw [add_at0]
          refine storeK_one hb5 (by simp [manA]; omega) (.inr (Nat.zero_le _)) rfl fun h6 hb6 o6 => ?_
          have x6 : Ext h h6 := Keep.since x45 (o6.keep rfl : Keep (fun j => j = h.size) h5 h6) fun j hj e => by omega
          have hp6 := o6.blk (x5.blk hp4) (show h2.size ≠ h.size by omega)
          have wr := tab_drop wd n hn
          rw [rows8_drop] at wr
          unfold F35_k7
          rw [ek]
          refine ⟨?_, by show ((2 : Int) - ((k + 1 : Nat) : Int)).toNat < ((2 : Int) - (k : Int)).toNat; omega⟩
          rcases hst with ⟨rfl, hr, rfl⟩ | ⟨s, rfl, hs, rfl⟩ | ⟨s, r1, t, hk', _⟩
          · exact ⟨1, ⟨str (q.take n), ByteArray.empty, []⟩, q.drop n, rfl, by omega, by omega, wr, fun y hy => q256 y (List.mem_of_mem_drop hy), x6, hb6, hp6, .inr (.inl ⟨q.take n, rfl, by rw [← hr, hsp], rfl⟩)⟩
          · exact ⟨2, ⟨str s, str (q.take n), []⟩, q.drop n, rfl, by omega, by omega, wr, fun y hy => q256 y (List.mem_of_mem_drop hy), x6, hb6, hp6, .inr (.inr ⟨s, n :: q, q.take n, rfl, hs, hsp, rfl⟩)⟩
          · omega
        · have esv : splitV (cutAt c4 1 1 (some q4)) (l4 - 1) (c4 - 1) n = .tuple #[.slice none 0 0, .slice none 0 0, .bool false] := by unfold splitV; rw [if_neg hn]
          refine ⟨none, 0, 0, none, 0, 0, false, fun h5 x5 => ?_, fun h5 x5 => br_of (fun _ => ?_) (fun e => by cases e)⟩
          · refine HEnt.mono (split_ok _ _ _ n (by omega) h5) ?_
            rintro v _ ⟨rfl, rfl⟩
            exact ⟨esv, Ext.refl _⟩
          exact bad h5 m none 0 0 (x4.trans x5) (x5.blk hb4) (none_of (by rw [strP, if_neg (by omega)]))
    · -- behind the names
      obtain rfl : k = 2 := by
        have : ¬ (k : Int) < 2 := by simpa using hf
        omega
      obtain ⟨s, r1, t, hs, hs2, rfl⟩ : ∃ s r1 t, strP (bs.drop 3) = some (s, r1) ∧ strP r1 = some (t, r) ∧ m = ⟨str s, str t, []⟩ := by
        rcases hst with ⟨hk', _⟩ | ⟨s, hk', _⟩ | ⟨s, r1, t, _, q1, q2, q3⟩
        · omega
        · omega
        · exact ⟨s, r1, t, q1, q2, q3⟩
      have hT : parseM bs = tailP s t r := by rw [hP, hs]; simp [hs2]
      unfold F35_k8
      refine br_of (fun h0 => ?_) (fun h0 => ?_)
      · have h0' : (l4 : Int) = 0 := by simpa using h0
        have : r = [] := List.eq_nil_of_length_eq_zero (by omega)
        exact bad h4 _ none 0 0 x4 hb4 (decN (by rw [hT, this]; rfl))
      have h0' : ¬ (l4 : Int) = 0 := by simpa using h0
      cases r with
      | nil => simp at lr; omega
      | cons n q =>
        simp only [List.length_cons] at lr
        have n256 := r256 n (List.mem_cons_self ..)
        obtain ⟨q4, rfl, _, hcell⟩ := first_byte (w4.grow x4)
        have wd := tab_drop w4 1 (by omega)
        rw [rows8_drop] at wd
        have wd : Tab 1 h (cutAt c4 1 1 (some q4)) (l4 - 1) (c4 - 1) (rows8 q) := wd
        have q256 : ∀ y ∈ q, y < 256 := fun y hy => r256 y (List.mem_cons_of_mem _ hy)
        unfold F35_k9
        refine ⟨q4, rfl, by omega, by omega, (n : Nat), hcell, by omega, by omega, ?_⟩
        rw [i64_lt _ (by omega) (by omega)]
        refine ⟨fun a l c x h' => ∃ (k : Nat) (rs : List RefV) (r : List Nat) (ar : Option Addr) (cr : Nat), x = k ∧ k ≤ n ∧ l < 2 ^ 40 ∧ Tab 1 h a l c (rows8 r) ∧ (∀ y ∈ r, y < 256) ∧ h'[h.size]? = some (.cells (manA ⟨str s, str t, rs⟩ ar k cr) 24 (0, 0)) ∧ OwnR 54 33 h h' ar k cr (rowsR rs) ∧
            refsP n q = (refsP (n - k) r).map fun p => (rs ++ p.1, p.2), fun _ _ _ x _ => (n - x).toNat, ⟨0, [], q, none, 0, rfl, by omega, by omega, wd, q256, hb4, OwnR.nil 54 33 x4, by simp⟩, ?_⟩
        rintro h5 a5 l5 c5 _ ⟨k, rs, r, ar, cr, rfl, hkn, hl5, w5, r256', hb5, o5, href⟩
        have x5 := o5.ext
        have lr5 : r.length = l5 := by have := w5.len; rwa [rows8_len] at this
        have cap5 := w5.cap
        have hrk : rs.length = k := by have := o5.len; rwa [rowsR_len] at this
        have hrow := o5.row
        have ek : IntKind.i64.wrap ((k : Int) + 1) = ((k + 1 : Nat) : Int) := by rw [i64_lt _ (by omega) (by omega)]; omega
        have bne : ∀ k', ar = some ⟨k', 0, none⟩ → k' ≠ h.size := fun k' e hh => by
          rcases o5.own with ⟨e2, _⟩ | ⟨b, cs, e2, _, g2, _⟩
          · rw [e] at e2; cases e2
          · rw [e] at e2; cases e2
            rw [hh, hb5] at g2; cases g2
        unfold F35_b10
        refine br_of (fun ht2 => ?_) (fun hf2 => ?_)
        rotate_left
        · obtain rfl : k = n := by
            have : ¬ (k : Int) < (n : Int) := by simpa using hf2
            omega
          rw [Nat.sub_self, refsP] at href
          unfold F35_k16
          have hd : parseM bs = some (⟨str s, str t, rs⟩, r) := by rw [hT, tailP, href]; simp
          refine failT (b := ((l5 : Int) == 0)) hb5 fun h6 o6 => ?_
          have k6 : Keep (fun j => j = h.size) h5 h6 := o6.keep rfl
          refine ⟨Keep.since x5 k6 fun j hj e => by omega, ?_⟩
          by_cases hl0 : l5 = 0
          · have : r = [] := List.eq_nil_of_length_eq_zero (by omega)
            subst this
            refine .inl ⟨⟨str s, str t, rs⟩, ar, k, cr, by unfold decP; rw [hd], by rw [hl0]; rfl, o5.keep k6 (fun j hj e => by omega) (fun j e hh => bne j e hh)⟩
          · refine .inr ⟨?_, ⟨str s, str t, rs⟩, ar, k, cr, ?_⟩
            · unfold decP; rw [hd]
              cases r with
              | nil => simp at lr5; omega
              | cons x xs => rfl
            · have : ((l5 : Int) == 0) = false := by simp [hl0]
              rw [this]
        have hkn' : k < n := by
          have : (k : Int) < (n : Int) := by simpa using ht2
          omega
        have hstep : refsP (n - k) r = if 32 ≤ r.length ∧ (readVar (r.drop 32)).2.2 = 0 ∧ (readVar (r.drop 32)).1 ≤ 2147483647 then
            (refsP (n - (k + 1)) ((r.drop 32).drop (readVar (r.drop 32)).2.1)).map fun p => ((r.take 32, ((readVar (r.drop 32)).1 : Int)) :: p.1, p.2) else none := by
          rw [show n - k = (n - (k + 1)) + 1 by omega, refsP]
        have no : ¬ (32 ≤ r.length ∧ (readVar (r.drop 32)).2.2 = 0 ∧ (readVar (r.drop 32)).1 ≤ 2147483647) → decP bs = none := fun hn => decN (by
          rw [hT, tailP, href, hstep, if_neg hn]; rfl)
        unfold F35_k11
        refine HEnt.use (split_ok a5 l5 c5 32 cap5 h5) ?_
        rintro _ h6 ⟨rfl, e6⟩
        subst e6
        by_cases h32 : 32 ≤ l5
        rotate_left
        · have esv : splitV a5 l5 c5 32 = .tuple #[.slice none 0 0, .slice none 0 0, .bool false] := by unfold splitV; rw [if_neg h32]
          exact ⟨none, 0, 0, none, 0, 0, false, esv, br_of (fun _ => bad h6 _ _ _ _ x5 hb5 (no fun hh => h32 (by omega))) (fun e => by cases e)⟩
        have esv : splitV a5 l5 c5 32 = .tuple #[.slice a5 32 c5, .slice (cutAt c5 32 1 a5) (l5 - 32) (c5 - 32), .bool true] := by unfold splitV; rw [if_pos h32]
        have wt := w5.take 32 h32
        have wr := tab_drop w5 32 h32
        rw [rows8_take] at wt
        rw [rows8_drop] at wr
        have r256d : ∀ y ∈ r.drop 32, y < 256 := fun y hy => r256' y (List.mem_of_mem_drop hy)
        refine ⟨a5, 32, c5, cutAt c5 32 1 a5, l5 - 32, c5 - 32, true, esv, br_of (fun e => by cases e) (fun _ => ?_)⟩
        unfold F35_k12
        refine HEnt.use (readVar_ok _ _ _ (r.drop 32) h6 (wr.grow x5) r256d (by omega)) ?_
        rintro _ h7 ⟨rfl, e7⟩
        subst e7
        have k13bad : ∀ {I : Option Addr → Nat → Nat → Int → Heap → Prop} {M : Option Addr → Nat → Nat → Int → Heap → Nat} {mm : Nat} (b : Bool), b = true → ¬ ((readVar (r.drop 32)).2.2 = 0 ∧ (readVar (r.drop 32)).1 ≤ 2147483647) → F35_k13 I M mm (at0 h.size) a5 32 c5 (cutAt c5 32 1 a5) (l5 - 32) (c5 - 32) ((readVar (r.drop 32)).1 : Int) ((readVar (r.drop 32)).2.1 : Int) (n : Int) (k : Int) b h7 (DecR h bs) := fun {I M mm} b hbt hn => by
          unfold F35_k13
          exact br_of (fun _ => bad h7 _ _ _ _ x5 hb5 (no fun hh => hn hh.2)) (fun e => by rw [hbt] at e; cases e)
        refine ⟨_, _, _, rfl, br_of (fun g => k13bad _ rfl ?_) (fun g => ?_)⟩
        · have : ((readVar (r.drop 32)).2.2 : Int) ≠ 0 := by simpa using g
          intro hh; omega
        have g0 : (readVar (r.drop 32)).2.2 = 0 := by
          have : ((readVar (r.drop 32)).2.2 : Int) = 0 := by simpa using g
          omega
        by_cases hv : (readVar (r.drop 32)).1 ≤ 2147483647
        rotate_left
        · exact k13bad _ (by simp; omega) (fun hh => hv hh.2)
        unfold F35_k13
        refine br_of (fun e => ?_) (fun _ => ?_)
        · have : ((readVar (r.drop 32)).1 : Int) > 2147483647 := by simpa using e
          omega
        obtain ⟨d1, d2, d3⟩ := readVar_only r256d g0
        have t32 : (r.take 32).length = 32 := by rw [List.length_take]; omega
        obtain ⟨q5, rfl⟩ : ∃ q5, a5 = some q5 := by
          obtain ⟨b, o, e, _⟩ := w5.at_ (fun e => by
            have : (rows8 r).length = 0 := by rw [e]; rfl
            rw [rows8_len] at this; omega)
          exact ⟨_, e⟩
        have rowc := (wt.grow x5).cells q5 rfl
        rw [rows8_flat] at rowc
        unfold F35_k14
        have hval : ∀ z : List Value, z.length = 33 → z.drop 32 = [.int .i64 0] → (z.take 0 ++ ((r.take 32).map fun n : Nat => Value.int .u8 (n : Int)) ++ z.drop 32).set 32 (.int .i64 (IntKind.i64.wrap ((readVar (r.drop 32)).1 : Int))) = refC (r.take 32, ((readVar (r.drop 32)).1 : Int)) := fun z h1 h2 => by
          rw [i64_lt _ (by omega) (by omega)]; exact row_set t32 z h1 h2
        have hval := hval (List.replicate 32 (.int .u8 0) ++ [.int .i64 0]) rfl rfl
        have hval : (List.take 0 [Value.int .u8 0, .int .u8 0, .int .u8 0, .int .u8 0, .int .u8 0, .int .u8 0, .int .u8 0, .int .u8 0, .int .u8 0, .int .u8 0, .int .u8 0, .int .u8 0, .int .u8 0, .int .u8 0, .int .u8 0, .int .u8 0, .int .u8 0, .int .u8 0, .int .u8 0, .int .u8 0, .int .u8 0, .int .u8 0, .int .u8 0, .int .u8 0, .int .u8 0, .int .u8 0, .int .u8 0, .int .u8 0, .int .u8 0, .int .u8 0, .int .u8 0, .int .u8 0, .int .i64 0] ++ ((r.take 32).map fun n : Nat => Value.int .u8 (n : Int)) ++ List.drop 32 [Value.int .u8 0, .int .u8 0, .int .u8 0, .int .u8 0, .int .u8 0, .int .u8 0, .int .u8 0, .int .u8 0, .int .u8 0, .int .u8 0, .int .u8 0, .int .u8 0, .int .u8 0, .int .u8 0, .int .u8 0, .int .u8 0, .int .u8 0, .int .u8 0, .int .u8 0, .int .u8 0, .int .u8 0, .int .u8 0, .int .u8 0, .int .u8 0, .int .u8 0, .int .u8 0, .int .u8 0, .int .u8 0, .int .u8 0, .int .u8 0, .int .u8 0, .int .u8 0, .int .i64 0]).set 32 (.int .i64 (IntKind.i64.wrap ((readVar (r.drop 32)).1 : Int))) = refC (r.take 32, ((readVar (r.drop 32)).1 : Int)) := hval
        refine ⟨ar, k, cr, by rw [at_cell hb5]; rfl, Nat.le_refl _, q5, rfl, ((r.take 32).map fun n : Nat => Value.int .u8 (n : Int)).toArray, by rw [List.size_toArray, List.length_map, t32], by simpa using rowc, by rw [List.size_toArray, List.length_map, t32], ?_, by decide, ?_⟩
        · rw [hval, List.size_toArray, refC_len, t32]
        intro b8 h8 hb8 x8 hblk
        rw [hval] at hblk
        have o8 : OwnR 54 33 h7 h8 (some ⟨b8, 0, none⟩) 1 1 [refC (r.take 32, ((readVar (r.drop 32)).1 : Int))] := OwnR.new_ (rows := [refC (r.take 32, ((readVar (r.drop 32)).1 : Int))]) (by simpa using hblk) x8 hb8 (by intro q hq; simp at hq; subst hq; rw [refC_len, t32]) rfl
        refine appK_R cells54 (o5.grow x8) o8.rows.src rfl (by intro q hq; simp at hq; subst hq; rw [refC_len, t32]) (by intro q hq; simp at hq; subst hq; exact refC_one _) (by rw [bytes54]; omega) zeroR54 fun a9 c9 h9 o9 k9 d9 => ?_
        have hb9 : h9[h.size]? = some (.cells (manA ⟨str s, str t, rs⟩ ar k cr) 24 (0, 0)) := k9.blk (x8.blk hb5) (by
          rintro (e | e)
          · exact bne _ e rfl
          · have := blk_lt hb5; have := x8.size; omega)
        have bne9 : ∀ k', a9 = some ⟨k', 0, none⟩ → k' ≠ h.size := fun k' e hh => by
          rcases o9.own with ⟨e2, _⟩ | ⟨b, cs, e2, _, g2, _⟩
          · rw [e] at e2; cases e2
          · rw [e] at e2; cases e2
            rw [hh, hb9] at g2; cases g2
        rw [add_at0]
        refine storeK_one hb9 (by simp [manA]) (.inr (Nat.zero_le _)) rfl fun h10 hb10 o10 => ⟨by omega, by rw [List.length_drop] at d3; omega, ?_⟩
        have k10 : Keep (fun j => j = h.size) h9 h10 := o10.keep rfl
        unfold F35_k15
        rw [ek]
        have wr2 := tab_drop wr (readVar (r.drop 32)).2.1 (by rw [List.length_drop] at d3; omega)
        rw [rows8_drop] at wr2
        refine ⟨⟨k + 1, rs ++ [(r.take 32, ((readVar (r.drop 32)).1 : Int))], _, a9, c9, rfl, by omega, by omega, wr2, fun y hy => r256d y (List.mem_of_mem_drop hy), hb10, ?_, ?_⟩, by show ((n : Int) - ((k + 1 : Nat) : Int)).toNat < ((n : Int) - (k : Int)).toNat; omega⟩
        · have : rowsR (rs ++ [(r.take 32, ((readVar (r.drop 32)).1 : Int))]) = rowsR rs ++ [refC (r.take 32, ((readVar (r.drop 32)).1 : Int))] := by simp [rowsR]
          rw [this]
          exact o9.keep k10 (fun j hj e => by omega) (fun j e hh => bne9 j e hh)
        · rw [href, hstep, if_pos ⟨by omega, g0, hv⟩, Option.map_map]
          congr 1
          funext p
          simp
  by_cases h3 : 3 ≤ l
  · have esv : splitV a l c 3 = .tuple #[.slice a 3 c, .slice (cutAt c 3 1 a) (l - 3) (c - 3), .bool true] := by unfold splitV; rw [if_pos h3]
    have wt := w.take 3 h3
    have wd := tab_drop w 3 h3
    rw [rows8_take] at wt
    rw [rows8_drop] at wd
    refine ⟨_, _, _, _, _, _, true, esv, br_of (fun e => by cases e) (fun _ => ?_)⟩
    refine ⟨str (bs.take 3), by rw [str_size, List.length_take]; omega, fun ad e => tab8_cells (wt.grow x1) (fun y hy => hb y (List.mem_of_mem_take hy)) ad e, fun e => ?_, first _ (fun e => ?_) (fun e => ⟨h3, ?_⟩) _ _ _ (fun _ => wd)⟩
    · have := wt.nil e
      have h0 : (rows8 (bs.take 3)).length = 0 := by rw [this]; rfl
      rw [rows8_len, List.length_take] at h0
      omega
    · rw [seq_lst, lst_str _ (fun y hy => hb y (List.mem_of_mem_take hy)), lst_vm] at e
      have e' : ¬ bs.take 3 = [86, 77, 1] := by simpa using e
      unfold decP parseM
      rw [if_neg (fun hh => e' hh.2)]
    · rw [seq_lst, lst_str _ (fun y hy => hb y (List.mem_of_mem_take hy)), lst_vm] at e
      simpa using e
  · have esv : splitV a l c 3 = .tuple #[.slice none 0 0, .slice none 0 0, .bool false] := by unfold splitV; rw [if_neg h3]
    refine ⟨_, _, _, _, _, _, false, esv, br_of (fun _ => first true (fun _ => ?_) (fun e => by cases e) _ _ _ (fun e => by cases e)) (fun e => by cases e)⟩
    unfold decP parseM
    rw [if_neg (fun hh => h3 (by omega))]
end Go.Proofs.YtpnbbgcaaogpdaaDoor

namespace Go.Proofs.YtpnbbgcaaogpdaaDoor
open Go.Vc Go.Sha Go.Trail Go.RowKit Go.Man
set_option linter.unusedVariables false
set_option linter.unusedSimpArgs false
set_option maxRecDepth 8000
def DecS (h : Heap) (bs : List Nat) : Value → Heap → Prop := fun v h' => Ext h h' ∧ match decC bs with
  | some m => ∃ a l c, v = .tuple #[.agg (manA m a l c), .int .i64 0] ∧ Tab 33 h' a l c (rowsR m.refs)
  | none => v = .tuple #[.agg (manA e0 none 0 0), .int .i64 5]
theorem decode_ok (a : Option Addr) (l c : Nat) (bs : List Nat) (h : Heap) (w : Tab 1 h a l c (rows8 bs)) (hb : ∀ x ∈ bs, x < 256) (hl : l < 2 ^ 40) :
    HEnt Tryd.prog 20 #[.slice a l c] h (DecS h bs) := by
  refine F20_ent _ _ _ _ _ ?_
  unfold F20
  rw [zero24]
  refine newK_intro fun h1 hb1 x1 _ => ?_
  have hb1 : h1[h.size]? = some (.cells (manA e0 none 0 0) 24 (0, 0)) := hb1
  refine HEnt.use (decode35_ok a l c bs h1 (w.grow x1) hb hl) ?_
  -- a way out without an answer
  have bad : ∀ h' b4, Ext h h' → h'[h.size]? = some (.cells (manA e0 none 0 0) 24 (0, 0)) → decC bs = none → F20_k1 (at0 h.size) (at0 b4) true h' (DecS h bs) := fun h' b4 x' hb' hd => by
    unfold F20_k1
    refine br_of (fun _ => ?_) (fun e => by cases e)
    refine storeK_whole (vs := manA e0 none 0 0) hb' rfl rfl (man_one e0 none 0 0) fun h2 hb2 o2 => ?_
    refine ⟨_, _, _, _, _, by rw [at_cell hb2]; rfl, by rw [at_cell hb2]; rfl, by rw [at_cell hb2]; rfl, rfl, Keep.since x' (o2.keep rfl : Keep (fun j => j = h.size) h' h2) fun j hj e => by omega, ?_⟩
    rw [hd]; rfl
  rintro v h2 ⟨x2, hv⟩
  have x12 := x1.trans x2
  rcases hv with ⟨m, a', l', c', hd, rfl, o⟩ | ⟨hd, m, a', l', c', rfl⟩
  · obtain ⟨hbs, hok⟩ := dec_only hd hb
    refine ⟨m.name, m.ver, a', l', c', true, rfl, newK_intro fun h3 hb3 x3 _ => ?_⟩
    refine storeK_whole (vs := manA m a' l' c') hb3 rfl rfl (man_one m a' l' c') fun h4 hb4 o4 => ?_
    have z1 := x1.size
    have z2 := x2.size
    have lt1 := blk_lt hb1
    have x4 : Ext h2 h4 := Keep.since x3 (o4.keep rfl : Keep (fun j => j = h2.size) h3 h4) fun j hj e => by omega
    have hb4m := x4.blk (x2.blk hb1)
    have tab := (o.rows).grow x4
    have l256 : l' < 2 ^ 40 := by
      have := o.len; rw [rowsR_len] at this; have := hok.2.2.1; omega
    refine br_of (fun e => by cases e) (fun _ => ⟨m.name, m.ver, a', l', c', by rw [at_cell hb4]; rfl, by rw [at_cell hb4]; rfl, by rw [at_cell hb4]; rfl, rfl, HEnt.use (check_ok m a' l' c' h4 tab (okM_big hok) l256) ?_⟩)
    rintro _ h5 ⟨rfl, x5⟩
    have x15 := (x12.trans x4).trans x5
    refine ⟨_, rfl, ?_⟩
    by_cases h0 : checkM m = 0
    · rw [h0]
      have hC : decC bs = some m := by unfold decC; rw [hd]; simp [h0]
      unfold F20_k1
      refine br_of (fun e => by cases e) (fun _ => ?_)
      unfold F20_k2
      have hb5 := x5.blk hb4
      refine ⟨m.name, m.ver, a', l', c', by rw [at_cell hb5]; rfl, by rw [at_cell hb5]; rfl, by rw [at_cell hb5]; rfl, rfl, ?_⟩
      refine storeK_whole (vs := manA m a' l' c') (x5.blk hb4m) rfl rfl (man_one m a' l' c') fun h6 hb6 o6 => ?_
      have k6 : Keep (fun j => j = h.size) h5 h6 := o6.keep rfl
      refine ⟨m.name, m.ver, a', l', c', by rw [at_cell hb6]; rfl, by rw [at_cell hb6]; rfl, by rw [at_cell hb6]; rfl, rfl, Keep.since x15 k6 fun j hj e => by omega, ?_⟩
      rw [hC]
      refine ⟨a', l', c', rfl, (tab.grow x5).block fun k o' e => ?_⟩
      refine o6.block k (fun e2 => ?_)
      subst e2
      rcases o.own with ⟨e3, _⟩ | ⟨b, cs, e3, g1, g2, _⟩
      · rw [e] at e3; cases e3
      · rw [e] at e3; cases e3; omega
    · have hC : decC bs = none := by unfold decC; rw [hd]; simp [h0]
      have : ((checkM m : Int) != 0) = true := by simp; omega
      rw [this]
      exact bad h5 _ x15 (x5.blk hb4m) hC
  · have hC : decC bs = none := by unfold decC; rw [hd]
    refine ⟨m.name, m.ver, a', l', c', false, rfl, newK_intro fun h3 hb3 x3 _ => ?_⟩
    refine storeK_whole (vs := manA m a' l' c') hb3 rfl rfl (man_one m a' l' c') fun h4 hb4 o4 => ?_
    have z2 := x2.size
    have x4 : Ext h2 h4 := Keep.since x3 (o4.keep rfl : Keep (fun j => j = h2.size) h3 h4) fun j hj e => by omega
    exact br_of (fun _ => bad h4 _ (x12.trans x4) (x4.blk (x2.blk hb1)) hC) (fun e => by cases e)
end Go.Proofs.YtpnbbgcaaogpdaaDoor
