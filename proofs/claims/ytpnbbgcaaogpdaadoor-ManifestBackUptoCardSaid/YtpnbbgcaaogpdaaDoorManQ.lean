import Derived.Test.YtpnbbgcaaogpdaaDoorManP
import Derived.Test.YtpnbbgcaaogpdaaDoorVmpG

namespace Go.Proofs.YtpnbbgcaaogpdaaDoor
open Go.Vc Go.Sha Go.Trail Go.RowKit Go.Man
set_option linter.unusedVariables false
set_option linter.unusedSimpArgs false
set_option maxRecDepth 8000
theorem man_put {h : Heap} {K : Nat → Heap → Prop} (m : ManV) (a : Option Addr) (l c : Nat) (hK : ∀ h', h'[h.size]? = some (.cells (manA m a l c) 24 (0, 0)) → Ext h h' → K h.size h') :
    newK h (.cells (zeroC Tryd.prog 24) 24) fun b h1 => storeK 3 h1 (at0 b) (.agg (manA m a l c)) fun h2 => K b h2 := by
  refine newK_intro fun h1 hb1 x1 _ => ?_
  refine storeK_whole (vs := manA m a l c) hb1 rfl zsize24 (man_one m a l c) fun h2 hb2 o2 => ?_
  exact hK h2 hb2 (Keep.since x1 (o2.keep rfl : Keep (fun j => j = h.size) h1 h2) fun j hj e => by omega)
theorem u8_some (x : Int) : ∃ y : Nat, IntKind.u8.wrap x = (y : Int) ∧ y < 256 := by
  refine ⟨(x % 256).toNat, ?_, by omega⟩
  have : IntKind.u8.wrap x = x % 256 := by simp [IntKind.wrap, IntKind.signed, IntKind.bits]
  omega
theorem encodeM_len (m : ManV) : 0 < (encodeM m).length := by unfold encodeM; simp
theorem encodeM_lt {m : ManV} (h : okM m) : ∀ y ∈ encodeM m, y < 256 := by
  have nt_lt : ∀ s : ByteArray, s.size < 256 → ∀ y ∈ nt s, y < 256 := fun s hs y hy => by
    unfold nt at hy
    rcases List.mem_cons.1 hy with rfl | hy
    · exact hs
    · exact lst_lt s y hy
  have rb : ∀ q : RefV, okR q → ∀ y ∈ refB q, y < 256 := fun q hq y hy => by
    unfold refB at hy
    rcases List.mem_append.1 hy with hy | hy
    · exact hq.2.1 y hy
    · exact varB_lt q.2.toNat (by have := hq.2.2; omega) y hy
  intro y hy
  unfold encodeM at hy
  simp only [List.mem_append, List.mem_cons, List.not_mem_nil, or_false] at hy
  rcases hy with (((hy | hy) | hy) | hy) | hy
  · rcases hy with rfl | rfl | rfl <;> decide
  · exact nt_lt _ h.1 y hy
  · exact nt_lt _ h.2.1 y hy
  · have := h.2.2.1; omega
  · unfold refsB at hy
    obtain ⟨q, hq, hy⟩ := List.mem_flatMap.1 hy
    exact rb q (h.2.2.2 q hq) y hy
theorem only_ok (a : Option Addr) (l c : Nat) (bs : List Nat) (x1 : Int) (h : Heap) (w : Tab 1 h a l c (rows8 bs)) (hb : ∀ x ∈ bs, x < 256) (hl : l < 2 ^ 39) (hx : -9223372036854775808 ≤ x1 ∧ x1 < 9223372036854775808) (hm : MaxAt h) :
    HEnt Tryd.prog 7 #[.slice a l c, .int .i64 x1] h (yes h) := by
  have hlen : bs.length = l := by have := w.len; rwa [rows8_len] at this
  have cap := w.cap
  have flat := w.src
  rw [rows8_flat] at flat
  refine F7_ent _ _ _ _ _ _ ?_
  unfold F7
  refine HEnt.use (decode_ok a l c bs h w hb (by omega)) ?_
  rintro v h1 ⟨y1, hv⟩
  cases hd : decC bs with
  | none =>
    rw [hd] at hv
    simp only at hv
    subst hv
    refine ⟨_, _, _, _, _, _, rfl, man_put e0 none 0 0 fun h2 hb2 y2 => ?_⟩
    refine br_of (fun _ => br_of (fun _ => ?_) (fun e => by cases e)) (fun e => by cases e)
    refine ⟨_, _, _, _, _, by rw [at_cell hb2]; rfl, by rw [at_cell hb2]; rfl, by rw [at_cell hb2]; rfl, rfl, ?_⟩
    refine HEnt.use (same_ok e0 e0 none 0 0 none 0 0 h2 (Tab.empty _ _ _ _) (Tab.empty _ _ _ _) (by simp [e0]) (by simp [e0]) (by omega)) ?_
    rintro _ h3 ⟨rfl, y3⟩
    rw [same_self]
    exact ⟨_, rfl, br_of (fun _ => works_yes ((y1.trans y2).trans y3) hm) (fun e => by cases e)⟩
  | some m =>
    rw [hd] at hv
    simp only at hv
    obtain ⟨am, lm, cm, rfl, tm⟩ := hv
    obtain ⟨hbs, hok, h0⟩ := decC_only hd hb
    have lm40 : lm < 2 ^ 40 := by
      have := tm.len; rw [rowsR_len] at this; have := hok.2.2.1; omega
    have hl0 : 0 < l := by rw [← hlen, hbs]; exact encodeM_len m
    have hlt : 0 < (l : Int) := by omega
    refine ⟨m.name, m.ver, am, lm, cm, _, rfl, man_put m am lm cm fun h2 hb2 y2 => ?_⟩
    refine br_of (fun e => by cases e) (fun _ => ?_)
    unfold F7_k1
    refine br_of (fun e => ?_) (fun _ => ?_)
    · have : (l : Int) = 0 := by simpa using e
      omega
    have y12 := y1.trans y2
    have tm2 := tm.grow y2
    unfold F7_k2
    refine ⟨m.name, m.ver, am, lm, cm, by rw [at_cell hb2]; rfl, by rw [at_cell hb2]; rfl, by rw [at_cell hb2]; rfl, rfl, HEnt.use (encode_ok m am lm cm h2 tm2 (okM_big hok) lm40) ?_⟩
    rintro _ h3 ⟨ae, le, ce, rfl, y3, hown, _⟩
    have oe := hown h0
    have le' := own_len oe
    rw [h0]
    have t1 := Int.tmod_lt_of_pos x1 hlt
    have t2 : -(l : Int) < x1.tmod l := Int.lt_tmod_of_pos x1 hlt
    rw [i64_lt _ (by omega) (by omega)]
    have t3 := Int.tmod_nonneg (a := x1.tmod (l : Int) + l) (l : Int) (by omega)
    have t4 := Int.tmod_lt_of_pos (x1.tmod (l : Int) + l) hlt
    generalize (x1.tmod (l : Int) + (l : Int)).tmod (l : Int) = n at t3 t4 ⊢
    obtain ⟨k, rfl⟩ : ∃ k : Nat, n = k := ⟨n.toNat, by omega⟩
    refine ⟨ae, le, ce, _, rfl, by omega, by omega, by omega, t3, by omega, ?_⟩
    rw [cutAt0, Int.toNat_natCast, Nat.sub_zero, Nat.sub_zero]
    have wt := w.take k (by omega)
    rw [rows8_take] at wt
    have y13 := y12.trans y3
    refine HEnt.use (decode_ok a k c (bs.take k) h3 (wt.grow y13) (fun y hy => hb y (List.mem_of_mem_take hy)) (by omega)) ?_
    rintro v h4 ⟨y4, hv4⟩
    rw [decC_cut hd hb k (by omega)] at hv4
    simp only at hv4
    subst hv4
    have y14 := y13.trans y4
    refine ⟨_, _, _, _, _, _, rfl, man_put e0 none 0 0 fun h5 hb5 y5 => ⟨by decide, newK_intro fun h6 hb6 y6 _ => ?_⟩⟩
    have y16 := (y14.trans y5).trans y6
    have o6 : OwnAt 5 h5 h6 (some (at0 h5.size)) 0 0 (([] : List Nat).map u8) := OwnAt.new_ (cs := #[]) hb6 y6 (Nat.le_refl _)
    have src6 : srcK h6 1 (.slice a l c) l (bs.map u8) := by
      have := (w.grow y16).src; rw [rows8_flat] at this; exact this
    refine app5 (m := l) (new := bs) o6 src6 hlen (by omega) fun a7 c7 h7 o7 k7 d7 => ⟨by decide, newK_intro fun h8 hb8 y8 _ => ?_⟩
    obtain ⟨y, ey, hy⟩ := u8_some x1
    rw [ey] at hb8
    refine app5 (m := 1) (new := [y]) (o7.grow y8) (srcK_slice rfl (fun ad e => by cases e; exact cells_blk0 hb8) (by rintro ⟨⟩)) rfl (by omega) fun a9 c9 h9 o9 k9 d9 => ?_
    rw [List.nil_append] at o9
    have b256 : ∀ z ∈ bs ++ [y], z < 256 := fun z hz => by
      rcases List.mem_append.1 hz with hz | hz
      · exact hb z hz
      · simp at hz; omega
    refine HEnt.use (decode_ok a9 (0 + l + 1) c9 (bs ++ [y]) h9 (own_tab8 o9) b256 (by omega)) ?_
    rintro v h10 ⟨y10, hv10⟩
    rw [decC_more hd hb y] at hv10
    simp only at hv10
    subst hv10
    refine ⟨_, _, _, _, _, _, rfl, man_put e0 none 0 0 fun h11 hb11 y11 => br_of (fun _ => ?_) (fun e => by cases e)⟩
    have y1_11 : Ext h h11 := ((y14.trans y5).trans o9.ext).trans (y10.trans y11)
    have y3_11 : Ext h3 h11 := (y4.trans y5).trans (o9.ext.trans (y10.trans y11))
    have oe11 := oe.grow y3_11
    have ce11 := own_cells oe11
    have hb2' := ((y3.trans y3_11)).blk hb2
    refine ⟨str (encodeM m), by rw [str_size]; exact le', fun ad e => ?_, fun e => ?_, str bs, by rw [str_size]; exact hlen, fun ad e => tab8_cells (w.grow y1_11) hb ad e, fun e => ?_, br_of (fun _ => ?_) (fun e => ?_)⟩
    · rw [bytesV_str _ (encodeM_lt hok)]; exact ce11.1 ad e
    · rw [← le', ce11.2 e]; rfl
    · have := w.nil e
      have h0' : (rows8 bs).length = 0 := by rw [this]; rfl
      rw [rows8_len] at h0'; omega
    · refine ⟨m.name, m.ver, am, lm, cm, by rw [at_cell hb2']; rfl, by rw [at_cell hb2']; rfl, by rw [at_cell hb2']; rfl, rfl, HEnt.use (check_ok m am lm cm h11 (tm2.grow (y3.trans y3_11)) (okM_big hok) lm40) ?_⟩
      rintro _ h12 ⟨rfl, y12'⟩
      rw [h0]
      exact ⟨_, rfl, br_of (fun _ => br_of (fun _ => br_of (fun _ => works_yes (y1_11.trans y12') hm) (fun e => by cases e)) (fun e => by cases e)) (fun e => by cases e)⟩
    · rw [seq_lst, lst_str _ hb, lst_str _ (encodeM_lt hok), ← hbs] at e
      simp at e
end Go.Proofs.YtpnbbgcaaogpdaaDoor
