/- Chapter 14: slices.Delete, out, Drop. -/
import Derived.Test.YtnhnioodlciajaaWireJ
namespace Go.Wire
open Go.Vc Go.Packs
def outN (M : NetM) (f t : Int) (i : Nat) : NetM := updM M (.link f t) ((M (.link f t)).eraseIdx i)
def dropN (M : NetM) (f t at_ : Int) : Int × NetM := if thereN M f t at_ ≠ 0 then (9, M) else (0, outN M f t at_.toNat)
theorem zip_erase {α β γ : Type} (f : α → β → γ) : ∀ (xs : List α) (ys : List β) (i : Nat), xs.length = ys.length → (List.zipWith f xs ys).eraseIdx i = List.zipWith f (xs.eraseIdx i) (ys.eraseIdx i)
  | [], [], _, _ => by simp
  | x :: xs, y :: ys, 0, _ => by simp
  | x :: xs, y :: ys, i + 1, h => by simp [zip_erase f xs ys i (by simpa using h)]
  | [], y :: ys, _, h => by simp at h
  | x :: xs, [], _, h => by simp at h
end Go.Wire
namespace Go.Proofs.Ytnhnioodlciajaa
open Go.Vc Go.Sha Go.Trail Go.Packs Go.Wire
set_option linter.unusedVariables false

def zero24 : Value := .agg #[.int .i64 0, .int .i64 0, .int .i64 0, .int .i64 0, .bool false, .slice none 0 0]
theorem zero24_ok : (Try.prog.info? 24).bind (·.zero) = some zero24 := by kernel_rfl
theorem zcells : (Builtin.zeroCells zero24.cells 1).size = 6 := by kernel_rfl
theorem zcells_one : ∀ u ∈ (Builtin.zeroCells zero24.cells 1).toList, one u = true := List.all_eq_true.1 (by kernel_rfl)
theorem flat_drop {n : Nat} : ∀ (rs : List (List Value)) (k : Nat), (∀ q ∈ rs, q.length = n) → (rs.drop k).flatten = rs.flatten.drop (k * n)
  | [], k, _ => by simp
  | q :: rs, 0, _ => by simp
  | q :: rs, k + 1, hq => by
    have hq0 := hq q (by simp)
    rw [List.drop_succ_cons, List.flatten_cons, flat_drop rs k (fun p hp => hq p (List.mem_cons_of_mem _ hp)), Nat.succ_mul, Nat.add_comm, List.drop_append, hq0, List.drop_of_length_le (l := q) (by rw [hq0]; omega), List.nil_append, Nat.add_sub_cancel_left]
theorem rows_one {ms : List MsgV} {ds : List Hdr} : ∀ r ∈ List.zipWith msgCells ms ds, ∀ u ∈ r, one u = true := by
  intro r hr
  obtain ⟨i, hi⟩ := List.getElem?_of_mem hr
  rw [List.getElem?_zipWith] at hi
  cases h1 : ms[i]? with
  | none => rw [h1] at hi; cases hi
  | some m =>
    cases h2 : ds[i]? with
    | none => rw [h1, h2] at hi; cases hi
    | some d => rw [h1, h2] at hi; cases hi; exact msg_one m d
theorem delete_ok {h : Heap} {a : Option Addr} {l c : Nat} {rows : List (List Value)} (o : OwnS 24 6 h a l c rows) (h1 : ∀ r ∈ rows, ∀ u ∈ r, one u = true) (i : Nat) (hi : i < l) (hl : l ≤ 1099511627776) :
    HEnt Try.prog 52 #[.slice a l c, .int .i64 i, .int .i64 ((i + 1 : Nat) : Int)] h fun v h' => v = .slice a (l - 1) c ∧ OwnS 24 6 h' a (l - 1) c (rows.eraseIdx i) ∧ Keep (fun k => ∃ ad, a = some ad ∧ ad.block = k) h h' := by
  refine F52_ent _ _ _ _ _ _ _ ?_
  have hcap := o.cap
  have hlen := o.len
  rcases o.own with ⟨e, e2⟩ | ⟨b, oo, cs, rfl, hb, fit, hrow⟩
  · omega
  have hf := flat_len o.row
  unfold F52
  refine ⟨by omega, by omega, by omega, by omega, br_of (fun g => ?_) (fun _ => ?_)⟩
  · have : (i : Int) = ((i + 1 : Nat) : Int) := by simpa using g
    omega
  unfold F52_k1
  refine ⟨by omega, by omega, by omega, by omega, by omega, fun h2 hc => ?_⟩
  obtain rfl := Cls.eq hc
  rw [cutAt0]
  simp only [Int.toNat_natCast, Nat.sub_zero]
  have hmul : i * 6 + (l - (i + 1)) * 6 + 6 = l * 6 := by omega
  have hcm : l * 6 ≤ c * 6 := by omega
  have src : srcK h2 6 (.slice (cutAt c (i + 1) 6 (some ⟨b, oo, none⟩)) (l - (i + 1)) (c - (i + 1))) (l - (i + 1)) (rows.drop (i + 1)).flatten := by
    have hdl : (rows.drop (i + 1)).flatten.length = (l - (i + 1)) * 6 := by rw [flat_len fun r hr => o.row r (List.mem_of_mem_drop hr), List.length_drop, hlen]
    refine srcK_slice hdl (fun ad e j v hv => ?_) (fun e => ?_)
    · have hj := (List.getElem?_eq_some_iff.1 hv).1
      have hne : ¬ c = i + 1 := fun e => by omega
      unfold cutAt at e
      rw [if_neg hne] at e
      simp only [Option.map_some, Option.some.injEq] at e
      subst e
      rw [add_mk, add_mk, cell_blk hb]
      rw [flat_drop rows (i + 1) o.row, List.getElem?_drop, ← hrow, List.getElem?_take] at hv
      split at hv
      · rw [List.getElem?_drop] at hv
        rw [← hv, Array.getElem?_toList]; congr 1; omega
      · cases hv
    · unfold cutAt at e; split at e <;> cases e
  refine appK_in (rows := rows.take i) size24 hb fit src (by rw [List.length_drop, hlen]) (fun r hr => o.row r (List.mem_of_mem_drop hr)) (fun r hr => h1 r (List.mem_of_mem_drop hr)) (by omega) fun h3 hb3 on3 => ?_
  have e1 : i + (l - (i + 1)) = l - 1 := by omega
  rw [e1]
  have hdl : (rows.drop (i + 1)).flatten.length = (l - (i + 1)) * 6 := by rw [flat_len fun r hr => o.row r (List.mem_of_mem_drop hr), List.length_drop, hlen]
  refine ⟨by omega, by omega, by omega, ?_⟩
  have hcut : cutAt c (l - 1) 6 (some ⟨b, oo, none⟩) = some ⟨b, oo + (l - 1) * 6, none⟩ := by unfold cutAt; rw [if_neg (by omega)]; simp [add_mk]
  rw [hcut, show l - (l - 1) = 1 by omega]
  have tk : cs.toList.take (oo + i * 6) = cs.toList.take oo ++ (rows.take i).flatten := by
    rw [flat_take rows i o.row, ← hrow, List.take_take, Nat.min_eq_left (by omega), List.take_add]
  have tl : (cs.toList.take oo).length = oo := by simp; omega
  have tl2 : (cs.toList.take (oo + i * 6)).length = oo + i * 6 := by simp; omega
  refine semK_clear Try.underlying29 zero24_ok (by omega) hb3 ?_ zcells_one fun h4 hb4 on4 => ?_
  · rw [zcells]
    simp only [List.size_toArray, List.length_append, List.length_drop, tl2, hdl, Array.length_toList]
    omega
  refine ⟨rfl, ⟨?_, by omega, fun r hr => o.row r (List.mem_of_mem_eraseIdx hr), .inr ⟨b, oo, _, rfl, hb4, ?_, ?_⟩⟩, (on3.keep ⟨_, rfl, rfl⟩).trans (on4.keep ⟨_, rfl, rfl⟩)⟩
  · rw [List.length_eraseIdx, if_pos (by omega), hlen]
  · simp only [List.size_toArray, List.length_append, List.length_drop, List.length_take, Array.length_toList, zcells, tl2, hdl]
    omega
  · have hA : (cs.toList.take (oo + i * 6) ++ (rows.drop (i + 1)).flatten).length = oo + (l - 1) * 6 := by rw [List.length_append, tl2, hdl]; omega
    have e3 : (cs.toList.take (oo + i * 6) ++ (rows.drop (i + 1)).flatten ++ cs.toList.drop (oo + i * 6 + (l - (i + 1)) * 6)).toArray.toList.take (oo + (l - 1) * 6) = cs.toList.take (oo + i * 6) ++ (rows.drop (i + 1)).flatten := by
      rw [List.take_left' hA]
    rw [e3, tk]
    have hfl : ((rows.take i).flatten ++ (rows.drop (i + 1)).flatten).length = (l - 1) * 6 := by
      have := hA
      rw [tk, List.append_assoc, List.length_append, tl] at this
      omega
    show ((cs.toList.take oo ++ (rows.take i).flatten ++ (rows.drop (i + 1)).flatten ++ _ ++ _).drop oo).take ((l - 1) * 6) = _
    rw [List.append_assoc, List.append_assoc, List.append_assoc, List.drop_left' tl, ← List.append_assoc, List.take_left' hfl, ← List.flatten_append, List.eraseIdx_eq_take_drop_succ]

theorem out_ok {F : Nat → Prop} {h : Heap} {q : Nat} {M : NetM} (N : NetAt F h q M) (f t : Int) (i : Nat) (hi : i < (M (.link f t)).length) :
    HEnt Try.prog 38 #[.pointer (some (at0 q)), .agg #[.int .i64 f, .int .i64 t], .int .i64 i] h fun v h' => v = .tuple #[] ∧ NetAt (Fx F h h') h' q (outN M f t i) ∧ Keep F h h' := by
  refine F38_ent _ _ _ _ _ _ ?_
  obtain ⟨b1, b2, kl, kb, N⟩ := N
  have hb := N.bound
  obtain ⟨a0, l0, c0, e0, sl⟩ := N.slot (.link f t)
  have hlen := sl.len
  have hfew := sl.few
  obtain ⟨ds, os, hds, hms⟩ := sl.ex
  have e0' : (lookA kl (f, t)).getD nilS = .slice a0 l0 c0 := e0
  unfold F38
  refine (St.start h).new fun b4 h1 s1 _ _ => ?_
  have x1 := s1.ext
  have z1 := x1.size
  have ge4 := (s1.at_ 0 _ rfl).1
  have g4 := (s1.at_ 0 _ rfl).2
  simp only at ge4 g4
  have hq := hb q N.fq
  have hb1 := hb b1 N.f1
  have hq1 := x1.blk N.net
  have bq : b1 ≠ q := fun e => by
    obtain ⟨⟨_, _, h1, _⟩, _⟩ := N.m1
    rw [e, N.net] at h1; cases h1
  have r59 : ∀ w : World, Keep (fun k => ¬ (k = q ∨ k = b4 ∨ k = b1)) h1 w.heap → (loadVar 59 ((at0 q).add 0)).run Try.prog w = .ok (.map (some b1)) w := fun w hw => run_loadCell (cell_net (hw.blk hq1 (fun n => n (.inl rfl)))).1 Try.underlying59 rfl
  have r71 : ∀ w : World, Keep (fun k => ¬ (k = q ∨ k = b4 ∨ k = b1)) h1 w.heap → (loadVar 71 (at0 b4)).run Try.prog w = .ok (.agg #[.int .i64 f, .int .i64 t]) w := fun w hw => run_loadAgg (hw.blk g4 (fun n => n (.inr (.inl rfl)))) Try.underlying71 rfl (by show 2 = Try.prog.cellsOf 71; rw [size71])
  refine ⟨Keep (fun k => ¬ (k = q ∨ k = b4 ∨ k = b1)), fun h => Keep.refl _ h, fun _ _ _ x y => x.trans y, at0 q, rfl, some b1, r59, f, t, r71, at0 q, rfl, some b1, r59, f, t, r71, a0, l0, c0, fun w hw => ?_, ?_⟩
  · have m1 := N.m1.grow x1
    have := quiet_lookup keyed71 Try.underlying59 zero29 m1 (a := (f, t)) trivial w (hw.block _ m1.lt (fun n => n (.inr (.inr rfl))))
    rw [e0'] at this; exact this
  rw [show IntKind.i64.wrap ((i : Int) + 1) = ((i + 1 : Nat) : Int) from wrap_succ i _ hi (by omega)]
  refine HEnt.use (delete_ok (os.grow x1) rows_one i (by omega) (by omega)) ?_
  rintro _ h2 ⟨rfl, o2, k2⟩
  have slot24 : ∀ ad, a0 = some ad → ad.block < h.size ∧ ad.block ≠ q ∧ ad.block ≠ b4 ∧ ad.block ≠ b1 := fun ad ea => by
    obtain ⟨cs, g, _⟩ := os.type_ ea
    have hlt := blk_lt g
    refine ⟨hlt, fun hs => ?_, fun hs => by omega, fun hs => ?_⟩
    · rw [hs, N.net] at g
      injection g with g; injection g with _ g; cases g
    · obtain ⟨⟨_, _, h1, _⟩, _⟩ := N.m1
      rw [hs, h1] at g; cases g
  have nb1 : ∀ ad, a0 = some ad → ad.block ≠ b1 := fun ad ea => (slot24 ad ea).2.2.2
  have m12 : MapAt pairV (fun _ => True) h2 b1 kl := (N.m1.grow x1).block (k2.block b1 (by omega) (fun ⟨ad, ea, e⟩ => nb1 ad ea e))
  refine ⟨a0, l0 - 1, c0, rfl, k2.mono fun k _ ⟨ad, ea, e⟩ n => ?_, ?_⟩
  · obtain ⟨_, g2, g3, g4⟩ := slot24 ad ea
    rcases n with n | n | n
    · exact g2 (e.trans n)
    · exact g3 (e.trans n)
    · exact g4 (e.trans n)
  refine semU_update keyed71 Try.underlying59 m12 (a := (f, t)) trivial fun h3 m3 o3 => ⟨trivial, rfl, ?_⟩
  have K3 : Keep (fun k => (k = b1 ∨ (∃ ad, a0 = some ad ∧ ad.block = k)) ∨ h.size ≤ k) h h3 := ((x1.keep _).trans (k2.mono fun k _ hs => .inl (.inr hs))).trans (o3.keep (.inl (.inl rfl)))
  have nb2 : ¬ ((b2 = b1 ∨ (∃ ad, a0 = some ad ∧ ad.block = b2)) ∨ h.size ≤ b2) := fun hs => by
    rcases hs with (hs | ⟨ad, ea, hs⟩) | hs
    · exact N.ne hs.symm
    · obtain ⟨cs, g, _⟩ := os.type_ ea
      obtain ⟨⟨_, _, h1, _⟩, _⟩ := N.m2
      rw [hs, h1] at g; cases g
    · have := N.m2.lt; omega
  have K3' : Keep (fun k => ((k = b1 ∨ k = b2) ∨ (∃ ad, a0 = some ad ∧ ad.block = k)) ∨ h.size ≤ k) h h3 := K3.mono fun k _ hs => hs.imp (Or.imp .inl id) id
  refine ⟨⟨b1, b2, _, _, N.step e0 K3' (fun k hk => .inl hk) (Fx_bound ⟨b1, b2, kl, kb, N⟩ K3.size) m3 (N.m2.block (K3.block b2 N.m2.lt nb2)) (lookK_link kl kb f t _) (a' := a0) (l' := l0 - 1) (c' := c0) ⟨⟨ds.eraseIdx i, ?_, ?_, fun j m d hj hd => ?_⟩, ?_, fun ad ea => .inl (sl.f ad ea)⟩ (fun ad ea => .inl ⟨ad, ea, rfl⟩)⟩, N.keepF e0 K3'⟩
  · rw [← zip_erase _ _ _ _ hds.symm]
    exact o2.keep (S := (· = b1)) (o3.keep rfl) nb1
  · rw [List.length_eraseIdx, List.length_eraseIdx, hds]
  · rw [List.getElem?_eraseIdx] at hj hd
    have keep : ∀ {m : MsgV} {d : Hdr} {es : List Hdr}, MsgF F h m d es → MsgF (Fx F h h3) h3 m d es := fun t => t.keep K3' (fun k hk => .inl hk) fun k cs _ h2 => h2.elim (fun h2 => N.other e0 h2 (by decide)) (fun h2 => N.other e0 h2 (by decide))
    split at hj
    · rename_i g
      rw [if_pos g] at hd
      obtain ⟨es, t⟩ := hms _ m d hj hd
      exact ⟨es, keep t⟩
    · rename_i g
      rw [if_neg g] at hd
      obtain ⟨es, t⟩ := hms _ m d hj hd
      exact ⟨es, keep t⟩
  · have := List.length_eraseIdx_le (M (.link f t)) i
    omega

theorem drop_ok {F : Nat → Prop} {h : Heap} {q : Nat} {M : NetM} (N : NetAt F h q M) (f t at_ : Int) :
    HEnt Try.prog 26 #[.pointer (some (at0 q)), .int .i64 f, .int .i64 t, .int .i64 at_] h fun v h' => v = .int .i64 (dropN M f t at_).1 ∧ NetAt (Fx F h h') h' q (dropN M f t at_).2 ∧ Keep F h h' := by
  refine F26_ent _ _ _ _ _ _ ?_
  unfold F26
  refine (St.start h).new fun b9 h1 s1 _ _ => s1.storeAll 0 rfl rfl zeroC71 (vs := #[.int .i64 f, .int .i64 t]) (by simp [one]) fun h2 s2 on2 => ?_
  simp only [List.set_cons_zero] at s2
  refine ⟨f, t, s2.cell 0 rfl rfl, s2.cell 0 rfl rfl, rfl, HEnt.use (there_ok (N.grow s2.ext) f t at_) ?_⟩
  rintro _ h3 ⟨rfl, x3⟩
  have s3 := s2.grow x3
  have x03 := s3.ext
  refine ⟨_, rfl, br_of (fun g => ?_) (fun g => ?_)⟩
  · have g : thereN M f t at_ ≠ 0 := by simpa using g
    unfold dropN
    rw [if_pos g]
    exact ⟨by rw [(thereN_val M f t at_).resolve_left g], N.growx x03, x03.keep _⟩
  have g : thereN M f t at_ = 0 := by simpa using g
  obtain ⟨h0, m, hm⟩ := thereN_ok g
  unfold dropN F26_k1
  rw [if_neg (fun e => e g)]
  have hout := out_ok (N.grow x03) f t at_.toNat (List.getElem?_eq_some_iff.1 hm).1
  rw [Int.toNat_of_nonneg h0] at hout
  refine ⟨f, t, s3.cell 0 rfl rfl, s3.cell 0 rfl rfl, rfl, HEnt.use hout ?_⟩
  rintro _ h4 ⟨rfl, N4, k4⟩
  have := k4.size; have := x03.size
  exact ⟨rfl, rfl, N4.mono (Fx_grow x03.size) (Fx_bound N (by omega)), Keep.after x03 k4⟩
end Go.Proofs.Ytnhnioodlciajaa
