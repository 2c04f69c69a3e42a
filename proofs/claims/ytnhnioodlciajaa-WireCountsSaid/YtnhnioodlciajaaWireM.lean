import Derived.Test.YtnhnioodlciajaaWireL

namespace Go.Wire
open Go.Vc Go.Packs Go.Proofs.Ytnhnioodlciajaa
set_option linter.unusedVariables false
/-- messages that a call made: they may be read -/
structure Copies (h0 h : Heap) (a : Option Addr) (l c : Nat) (ms : List MsgV) : Prop where
  ex : ∃ ds : List Hdr, OwnR 24 6 h0 h a l c (List.zipWith msgCells ms ds) ∧ ds.length = ms.length ∧ ∀ (i : Nat) (m : MsgV) (d : Hdr), ms[i]? = some m → ds[i]? = some d → ∃ es, TwinAt h0 h d m.packs es ∧ d.l ≤ 20 ∧ (∀ x ∈ es, x.l ≤ 20) ∧ ∀ p ∈ m.packs, p.ok ∧ ∀ r ∈ p.refs, r.ok
theorem Copies.ext {h0 h : Heap} {a : Option Addr} {l c : Nat} {ms : List MsgV} (t : Copies h0 h a l c ms) : Ext h0 h := let ⟨_, o, _⟩ := t.ex; o.ext
theorem Copies.len {h0 h : Heap} {a : Option Addr} {l c : Nat} {ms : List MsgV} (t : Copies h0 h a l c ms) : l = ms.length := by
  obtain ⟨ds, o, hl, _⟩ := t.ex
  have := o.len
  rw [List.length_zipWith, hl, Nat.min_self] at this
  exact this.symm
theorem Copies.grow {h0 h h' : Heap} {a : Option Addr} {l c : Nat} {ms : List MsgV} (t : Copies h0 h a l c ms) (x : Ext h h') : Copies h0 h' a l c ms := by
  obtain ⟨ds, o, hl, hm⟩ := t.ex
  exact ⟨ds, o.grow x, hl, fun i m d hi hd => let ⟨es, t, r⟩ := hm i m d hi hd; ⟨es, t.grow x, r⟩⟩
theorem Copies.since {h0 h1 h : Heap} {a : Option Addr} {l c : Nat} {ms : List MsgV} (t : Copies h1 h a l c ms) (x : Ext h0 h1) : Copies h0 h a l c ms := by
  obtain ⟨ds, o, hl, hm⟩ := t.ex
  exact ⟨ds, o.since x, hl, fun i m d hi hd => let ⟨es, t, r⟩ := hm i m d hi hd; ⟨es, TwinAt.since t x, r⟩⟩
theorem Copies.nil {h0 h : Heap} (x : Ext h0 h) : Copies h0 h none 0 0 [] := ⟨[], OwnR.nil _ _ x, rfl, by simp⟩
end Go.Wire
namespace Go.Proofs.Ytnhnioodlciajaa
open Go.Vc Go.Sha Go.Trail Go.Packs Go.Wire
set_option linter.unusedVariables false

/-- a message more behind those that were made -/
theorem Copies.push {h0 h : Heap} {a : Option Addr} {l c : Nat} {ms : List MsgV} {m : MsgV} {e : Hdr} {fs : List Hdr} {K : Option Addr → Nat → Nat → Heap → Prop} (t : Copies h0 h a l c ms) (tm : TwinAt h0 h e m.packs fs) (l1 : e.l ≤ 20) (l2 : ∀ x ∈ fs, x.l ≤ 20) (ok : ∀ p ∈ m.packs, p.ok ∧ ∀ r ∈ p.refs, r.ok) (hl : l ≤ 1000000) {b : Nat} (hb : h[b]? = some (.cells (msgCells m e).toArray 24 (0, 0)))
    (hK : ∀ a' c' h', Copies h0 h' a' (l + 1) c' (ms ++ [m]) → Keep (fun k => a = some ⟨k, 0, none⟩ ∨ h.size ≤ k) h h' → (∀ k, a' = some ⟨k, 0, none⟩ → a = some ⟨k, 0, none⟩ ∨ h.size ≤ k) → K a' (l + 1) c' h') : appK Try.prog 24 h a l c (.slice (some (at0 b)) 1 1) K := by
  obtain ⟨ds, o, hds, hm⟩ := t.ex
  have src : OwnR 24 6 (#[] : Heap) h (some ⟨b, 0, none⟩) 1 1 [msgCells m e] := OwnR.new_ (by simpa using hb) ⟨Nat.zero_le _, fun k hk => absurd hk (Nat.not_lt_zero _)⟩ (Nat.zero_le _) (by simp [msgCells]) rfl
  refine appK_R (new := [msgCells m e]) size24 o src.rows.src rfl (by simp [msgCells]) (fun r hr => by simp at hr; subst hr; exact msg_one m e) (by rw [bytes24]; omega) z24 fun a' c' h' o' k' ha => hK a' c' h' ?_ k' ha
  have hz : List.zipWith msgCells ms ds ++ [msgCells m e] = List.zipWith msgCells (ms ++ [m]) (ds ++ [e]) := by rw [List.zipWith_append (by rw [hds])]; rfl
  rw [hz] at o'
  have keep : ∀ {p : List PackV} {d : Hdr} {es : List Hdr}, TwinAt h0 h d p es → TwinAt h0 h' d p es := fun t => t.keep k' (fun k hk hs => hs.elim (fun hs => by have := (o.lt k hs).1; omega) (fun hs => by have := o.ext.size; omega)) (fun k e hs => hs.elim (fun hs => o.type_ne t.rows (by decide) k k hs e rfl) (fun hs => by have := (t.rows.lt k e).2; omega)) (fun i x hx k e hs => by
    obtain ⟨_, o2⟩ := t.ref hx
    exact hs.elim (fun hs => o.type_ne o2 (by decide) k k hs e rfl) (fun hs => by have := (o2.lt k e).2; omega))
  refine ⟨ds ++ [e], o', by simp [hds], fun i m' d' hi hd => ?_⟩
  by_cases hlt : i < ms.length
  · rw [List.getElem?_append_left hlt] at hi
    rw [List.getElem?_append_left (by omega)] at hd
    obtain ⟨es, t, r⟩ := hm i m' d' hi hd
    exact ⟨es, keep t, r⟩
  · have hi' : i = ms.length := by
      have := (List.getElem?_eq_some_iff.1 hi).1
      simp at this; omega
    subst hi'
    rw [List.getElem?_append_right (Nat.le_refl _), Nat.sub_self] at hi
    rw [List.getElem?_append_right (by omega), hds, Nat.sub_self] at hd
    cases hi; cases hd
    exact ⟨fs, keep tm, l1, l2, ok⟩

theorem twins_ok {F : Nat → Prop} {h : Heap} {a : Option Addr} {l c : Nat} {ms : List MsgV} (s : SlotAt F h a l c ms) :
    HEnt Try.prog 47 #[.slice a l c] h fun v h' => ∃ a' l' c', v = .slice a' l' c' ∧ Copies h h' a' l' c' ms := by
  refine F47_ent _ _ _ _ _ ?_
  have hlen := s.len
  have hfew := s.few
  obtain ⟨ds, os, hds, hms⟩ := s.ex
  unfold F47
  refine ⟨fun a' l' c' x h' => ∃ k : Nat, x = k ∧ k ≤ l ∧ Copies h h' a' l' c' (ms.take k), fun _ _ _ x _ => ((l : Int) - x).toNat, ⟨0, rfl, by omega, by rw [List.take_zero]; exact Copies.nil (Ext.refl h)⟩, ?_⟩
  rintro h1 a3 l3 c3 _ ⟨k, rfl, hk, t⟩
  have hl3 := t.len
  rw [List.length_take] at hl3
  unfold F47_b1
  refine br_of (fun ht => ?_) (fun hf => ?_)
  · have hk' : k < l := by
      have : (k : Int) < (l : Int) := by simpa using ht
      omega
    have hm : ms[k]? = some (ms[k]'(by omega)) := List.getElem?_eq_getElem _
    have hd : ds[k]? = some (ds[k]'(by omega)) := List.getElem?_eq_getElem _
    generalize ms[k]'(by omega) = m at hm
    generalize ds[k]'(by omega) = d at hd
    obtain ⟨es, tm⟩ := hms k m d hm hd
    obtain ⟨qa, ea, _, hcs, _⟩ := row_load os.rows (i := k) (m := m) (d := d) (by rw [List.getElem?_zipWith, hm, hd])
    have hc : ∀ j v, (msgCells m d)[j]? = some v → Vc.cell h1 ((qa.add ((k : Int).toNat * 6)).add j) = some v := fun j v hv => by rw [Int.toNat_natCast]; exact t.ext.some (hcs j v hv)
    unfold F47_k2
    refine ⟨qa, ea, by omega, by omega, m.kind, m.from_, m.to, m.txn, m.yes, d.a, d.l, d.c, hc 0 _ rfl, hc 1 _ rfl, hc 2 _ rfl, hc 3 _ rfl, hc 4 _ rfl, hc 5 _ rfl, rfl, ?_⟩
    refine (St.start h1).new fun b5 h2 s2 x2 _ => s2.storeAll 0 rfl rfl zeroC24 (vs := (msgCells m d).toArray) (by simp [msgCells, one]) fun h3 s3 on3 => ?_
    simp only [List.set_cons_zero] at s3
    refine ⟨m.kind, m.from_, m.to, m.txn, m.yes, d.a, d.l, d.c, s3.cell 0 rfl rfl, s3.cell 0 rfl rfl, s3.cell 0 rfl rfl, s3.cell 0 rfl rfl, s3.cell 0 rfl rfl, s3.cell 0 rfl rfl, rfl, ?_⟩
    have x13 := s3.ext
    have l1 := tm.l1
    refine HEnt.use (twin_ok m d es h3 ((tm.packs.grow t.ext).grow x13) (by omega) (fun x hx => by have := tm.l2 x hx; omega)) ?_
    rintro _ h4 ⟨e, fs, rfl, le, tw, x4⟩
    refine ⟨m.kind, m.from_, m.to, m.txn, m.yes, e.a, e.l, e.c, rfl, rfl, by omega, newK_intro fun h5 n5 x5 _ => ?_⟩
    have x03 := t.ext.trans x13
    have hb5 : h5[h4.size]? = some (.cells (msgCells m e).toArray 24 (0, 0)) := n5
    refine Copies.push (((t.grow x13).grow x4).grow x5) ((TwinAt.since tw x03).grow x5) (by omega) (twin_lens tw tm.packs tm.l2 ) tm.ok (by omega) hb5 fun a' c' h6 t6 k6 _ => ?_
    rw [wrap_succ k _ hk' (by omega)]
    have htk : ms.take (k + 1) = ms.take k ++ [m] := takeR_succ hm
    exact ⟨⟨k + 1, rfl, by omega, by rw [htk]; exact t6⟩, less_succ _ _ hk'⟩
  · have hk' : k = l := by
      have : ¬ (k : Int) < (l : Int) := by simpa using hf
      omega
    unfold F47_k3
    subst hk'
    rw [List.take_of_length_le (by omega)] at t
    exact ⟨a3, l3, c3, rfl, t⟩

theorem link_ok {F : Nat → Prop} {h : Heap} {q : Nat} {M : NetM} (N : NetAt F h q M) (f t : Int) :
    HEnt Try.prog 24 #[.pointer (some (at0 q)), .int .i64 f, .int .i64 t] h fun v h' => ∃ a' l' c', v = .slice a' l' c' ∧ Copies h h' a' l' c' (M (.link f t)) := by
  refine F24_ent _ _ _ _ _ ?_
  unfold F24
  refine HEnt.use (none_ok N) ?_
  rintro _ h ⟨rfl, rfl⟩
  obtain ⟨b1, b2, kl, kb, N0⟩ := N
  obtain ⟨a0, l0, c0, e0, sl⟩ := N0.slot (.link f t)
  have e0' : (lookA kl (f, t)).getD nilS = .slice a0 l0 c0 := e0
  refine ⟨false, rfl, br_of (fun g => by cases g) (fun _ => ?_)⟩
  unfold F24_k1
  refine ⟨at0 q, rfl, some b1, (cell_net N0.net).1, semK_lookup keyed71 Try.underlying59 zero29 N0.m1 (a := (f, t)) trivial ⟨a0, l0, c0, e0', HEnt.use (twins_ok sl) ?_⟩⟩
  rintro _ h1 ⟨a', l', c', rfl, t1⟩
  exact ⟨a', l', c', rfl, a', l', c', rfl, t1⟩
theorem box_ok {F : Nat → Prop} {h : Heap} {q : Nat} {M : NetM} (N : NetAt F h q M) (n : Int) :
    HEnt Try.prog 27 #[.pointer (some (at0 q)), .int .i64 n] h fun v h' => ∃ a' l' c', v = .slice a' l' c' ∧ Copies h h' a' l' c' (M (.box n)) := by
  refine F27_ent _ _ _ _ ?_
  unfold F27
  refine HEnt.use (none_ok N) ?_
  rintro _ h ⟨rfl, rfl⟩
  obtain ⟨b1, b2, kl, kb, N0⟩ := N
  obtain ⟨a0, l0, c0, e0, sl⟩ := N0.slot (.box n)
  have e0' : (lookA kb n).getD nilS = .slice a0 l0 c0 := e0
  refine ⟨false, rfl, br_of (fun g => by cases g) (fun _ => ?_)⟩
  unfold F27_k1
  refine ⟨at0 q, rfl, some b2, (cell_net N0.net).2, semK_lookup keyed3 Try.underlying60 zero29 N0.m2 (a := n) trivial ⟨a0, l0, c0, e0', HEnt.use (twins_ok sl) ?_⟩⟩
  rintro _ h1 ⟨a', l', c', rfl, t1⟩
  exact ⟨a', l', c', rfl, a', l', c', rfl, t1⟩

theorem nilPacks (h : Heap) (c : Nat) (a : Option Addr) : PacksAt h a 0 c [] [] := ⟨rfl, Tab.empty _ _ _ _, by simp, by simp⟩
/-- a net that was made since h0 -/
theorem works_ok (h : Heap) : HEnt Try.prog 19 #[] h fun v h' => v = .bool true ∧ Ext h h' := by
  refine F19_ent _ _ ?_
  unfold F19
  refine HEnt.use (new_ok h) ?_
  rintro _ h1 ⟨q, F, rfl, N1, x1, hF⟩
  have since : ∀ {h2 : Heap}, Keep F h1 h2 → Ext h h2 := fun k => ⟨Nat.le_trans x1.size k.size, fun j hj => (k.block j (Nat.lt_of_lt_of_le hj x1.size) (fun hf => by have := hF j hf; omega)).trans (x1.block j hj)⟩
  refine ⟨_, rfl, br_of (fun g => by cases g) (fun _ => HEnt.use (send_ok N1 ⟨6, 2, 0, 7, false, []⟩ nilH [] (nilPacks _ _ _) (by decide) (by simp)) ?_)⟩
  rintro _ h2 ⟨rfl, N2, k2⟩
  refine ⟨_, rfl, br_of (fun g => absurd g (by decide)) (fun _ => HEnt.use (double_ok N2 2 0 0) ?_)⟩
  rintro _ h3 ⟨rfl, N3, k3⟩
  refine ⟨_, rfl, br_of (fun g => absurd g (by decide)) (fun _ => HEnt.use (deliver_ok N3 2 0 1) ?_)⟩
  rintro _ h4 ⟨rfl, N4, k4⟩
  have k12 := Keep.thenFx k2 k3
  have k14 : Keep F h1 h4 := Keep.thenFx k12 (k4.mono fun k _ hs => Fx_fx k2.size k3.size k hs)
  refine ⟨_, rfl, ?_⟩
  unfold F19_k1
  refine br_of (fun g => absurd g (by decide)) (fun _ => ?_)
  unfold F19_k2
  refine HEnt.use (link_ok N4 2 0) ?_
  rintro _ h5 ⟨a5, l5, c5, rfl, t5⟩
  have e5 := t5.len
  refine ⟨a5, l5, c5, rfl, br_of (fun _ => HEnt.use (box_ok (N4.grow t5.ext) 0) ?_) (fun g => ?_)⟩
  · rintro _ h6 ⟨a6, l6, c6, rfl, t6⟩
    have e6 := t6.len
    refine ⟨a6, l6, c6, rfl, ?_, ((since k14).trans t5.ext).trans t6.ext⟩
    rw [e6]
    exact congrArg Value.bool (by decide)
  · rw [e5] at g
    exact absurd g (by decide)
end Go.Proofs.Ytnhnioodlciajaa
