/- Chapter 14: put, there, none, New, Send. -/
import Derived.Test.YtnhnioodlciajaaWireH
namespace Go.Wire
open Go.Vc Go.Packs Go.Proofs.Ytnhnioodlciajaa
set_option linter.unusedVariables false
def putN (M : NetM) (f t : Int) (m : MsgV) : Int × NetM := if 64 ≤ (M (.link f t)).length then (7, M) else (0, updM M (.link f t) (M (.link f t) ++ [m]))
def sendN (M : NetM) (m : MsgV) : Int × NetM := if msgC m ≠ 0 then (msgC m, M) else putN M m.from_ m.to m
def thereN (M : NetM) (f t at_ : Int) : Int := if (f = 0 ∧ t = 0) ∨ at_ < 0 ∨ ((M (.link f t)).length : Int) ≤ at_ then 9 else 0
/-- what does not turn when a slot turns -/
theorem NetIn.other {F : Nat → Prop} {h : Heap} {q b1 b2 : Nat} {kl : List ((Int × Int) × Value)} {kb : List (Int × Value)} {M : NetM} (N : NetIn F h q b1 b2 kl kb M) {k0 : Key} {a0 : Option Addr} {l0 c0 : Nat} (e0 : lookK kl kb k0 = .slice a0 l0 c0) {k : Nat} {cs : Array Value} {t : TypeId} (hk : h[k]? = some (.cells cs t (0, 0))) (ht : t ≠ 24) : ¬ (((k = b1 ∨ k = b2) ∨ (∃ ad, a0 = some ad ∧ ad.block = k)) ∨ h.size ≤ k) := by
  intro hs
  obtain ⟨⟨_, _, g1, _⟩, _⟩ := N.m1
  obtain ⟨⟨_, _, g2, _⟩, _⟩ := N.m2
  obtain ⟨a, l, c, e, sl⟩ := N.slot k0
  rw [e0] at e
  cases e
  rcases hs with ((hs | hs) | ⟨ad, e, hs⟩) | hs
  · rw [hs, g1] at hk; cases hk
  · rw [hs, g2] at hk; cases hk
  · obtain ⟨ds, os, _⟩ := sl.ex
    obtain ⟨cs', g, _⟩ := os.type_ e
    rw [hs, hk] at g
    injection g with g; injection g with _ g; exact ht g
  · have := blk_lt hk; omega
theorem NetIn.keepF {F : Nat → Prop} {h h' : Heap} {q b1 b2 : Nat} {kl : List ((Int × Int) × Value)} {kb : List (Int × Value)} {M : NetM} (N : NetIn F h q b1 b2 kl kb M) {k0 : Key} {a0 : Option Addr} {l0 c0 : Nat} (e0 : lookK kl kb k0 = .slice a0 l0 c0) (x : Keep (fun k => ((k = b1 ∨ k = b2) ∨ (∃ ad, a0 = some ad ∧ ad.block = k)) ∨ h.size ≤ k) h h') : Keep F h h' := by
  refine ⟨x.size, fun k hk hf => x.block k hk fun hs => ?_⟩
  obtain ⟨a, l, c, e, sl⟩ := N.slot k0
  rw [e0] at e
  cases e
  rcases hs with ((hs | hs) | ⟨ad, e, hs⟩) | hs
  · exact hf (hs ▸ N.f1)
  · exact hf (hs ▸ N.f2)
  · exact hf (hs ▸ sl.f ad e)
  · omega
/-- a message more in a slot -/
theorem NetIn.push {F : Nat → Prop} {h h' : Heap} {q b1 b2 : Nat} {kl kl' : List ((Int × Int) × Value)} {kb kb' : List (Int × Value)} {M : NetM} (N : NetIn F h q b1 b2 kl kb M) {k0 : Key} {a0 : Option Addr} {l0 c0 : Nat} (e0 : lookK kl kb k0 = .slice a0 l0 c0) (x : Keep (fun k => ((k = b1 ∨ k = b2) ∨ (∃ ad, a0 = some ad ∧ ad.block = k)) ∨ h.size ≤ k) h h')
    (m1 : MapAt pairV (fun _ => True) h' b1 kl') (m2 : MapAt intV (fun _ => True) h' b2 kb') {a' : Option Addr} {l' c' : Nat} (hl : ∀ k, lookK kl' kb' k = if k = k0 then .slice a' l' c' else lookK kl kb k) {ds : List Hdr} (hds : ds.length = (M k0).length) (hms : ∀ (i : Nat) (m : MsgV) (d : Hdr), (M k0)[i]? = some m → ds[i]? = some d → ∃ es, MsgF F h m d es) {m : MsgV} {e : Hdr} {fs : List Hdr}
    (o : OwnS 24 6 h' a' l' c' (List.zipWith msgCells (M k0) ds ++ [msgCells m e])) (tn : MsgF (Fx F h h') h' m e fs) (room : (M k0).length < 64) (ha : ∀ ad, a' = some ad → (∃ ad0, a0 = some ad0 ∧ ad0.block = ad.block) ∨ (h.size ≤ ad.block ∧ ad.block < h'.size)) :
    NetAt (Fx F h h') h' q (updM M k0 (M k0 ++ [m])) ∧ Keep F h h' := by
  have hz : List.zipWith msgCells (M k0) ds ++ [msgCells m e] = List.zipWith msgCells (M k0 ++ [m]) (ds ++ [e]) := by rw [List.zipWith_append (by rw [hds])]; rfl
  rw [hz] at o
  have hb' : ∀ k, Fx F h h' k → k < h'.size := fun k hk => hk.elim (fun hk => Nat.lt_of_lt_of_le (N.bound k hk) x.size) (fun hk => hk.2)
  refine ⟨⟨b1, b2, kl', kb', N.step e0 x (fun k hk => .inl hk) hb' m1 m2 hl ⟨⟨ds ++ [e], o, by simp [hds], fun i m' d' hi hd => ?_⟩, by simp; omega, fun ad ea => ?_⟩ (fun ad ea => (ha ad ea).imp id fun h => h.1)⟩, N.keepF e0 x⟩
  · by_cases hlt : i < (M k0).length
    · rw [List.getElem?_append_left hlt] at hi
      rw [List.getElem?_append_left (by omega)] at hd
      obtain ⟨es, t⟩ := hms i m' d' hi hd
      exact ⟨es, t.keep x (fun k hk => .inl hk) fun k cs _ h2 => h2.elim (fun h2 => N.other e0 h2 (by decide)) (fun h2 => N.other e0 h2 (by decide))⟩
    · have hi' : i = (M k0).length := by
        have := (List.getElem?_eq_some_iff.1 hi).1
        simp at this; omega
      subst hi'
      rw [List.getElem?_append_right (Nat.le_refl _), Nat.sub_self] at hi
      rw [List.getElem?_append_right (by omega), hds, Nat.sub_self] at hd
      cases hi; cases hd
      exact ⟨fs, tn⟩
  · obtain ⟨a, l, c, e, sl⟩ := N.slot k0
    rw [e0] at e
    cases e
    rcases ha ad ea with ⟨ad0, e1, e2⟩ | hx
    · exact .inl (e2 ▸ sl.f ad0 e1)
    · exact .inr hx
end Go.Wire
namespace Go.Proofs.Ytnhnioodlciajaa
open Go.Vc Go.Sha Go.Trail Go.Packs Go.Wire
set_option linter.unusedVariables false

theorem keyed71 : Keyed Try.prog 71 pairV (fun _ => True) := pairs_keyed Try.underlying71 (by kernel_rfl) (by kernel_rfl) (by kernel_rfl) rfl rfl rfl rfl Try.underlying3
theorem keyed3 : Keyed Try.prog 3 intV (fun _ => True) := ints_keyed Try.underlying3
theorem zero29 : (Try.prog.info? 29).bind (·.zero) = some nilS := by kernel_rfl
theorem size71 : Try.prog.cellsOf 71 = 2 := by kernel_rfl
theorem cell_net {h : Heap} {q b1 b2 : Nat} (hq : h[q]? = some (.cells #[.map (some b1), .map (some b2)] 62 (0, 0))) : Vc.cell h ((at0 q).add 0) = some (.map (some b1)) ∧ Vc.cell h ((at0 q).add 1) = some (.map (some b2)) := by
  constructor <;> (rw [add_at0, cell_blk hq]; rfl)
theorem msg_one (m : MsgV) (d : Hdr) : ∀ u ∈ msgCells m d, one u = true := by simp [msgCells, one]
theorem twin_lens {h h0 h1 : Heap} {e d : Hdr} {ps : List PackV} {es fs : List Hdr} (t : TwinAt h0 h1 e ps es) (hp : PacksAt h d.a d.l d.c ps fs) {n : Nat} (hl : ∀ x ∈ fs, x.l ≤ n) : ∀ x ∈ es, x.l ≤ n := by
  intro x hx
  obtain ⟨i, hi⟩ := List.getElem?_of_mem hx
  have hlt := (List.getElem?_eq_some_iff.1 hi).1
  have h1 : ps[i]? = some (ps[i]'(by rw [← t.len]; exact hlt)) := List.getElem?_eq_getElem _
  have h2 : fs[i]? = some (fs[i]'(by rw [hp.len, ← t.len]; exact hlt)) := List.getElem?_eq_getElem _
  have e1 := (t.refs i _ x h1 hi).len
  have e2 := (hp.refs i _ _ h1 h2).len
  rw [List.length_map] at e1
  have := hl _ (List.mem_of_getElem? h2)
  omega
theorem twin_msg {F : Nat → Prop} {h0 h1 : Heap} {e : Hdr} {m : MsgV} {es : List Hdr} (t : TwinAt h0 h1 e m.packs es) (hF : ∀ k, h0.size ≤ k → k < h1.size → F k) (l1 : e.l ≤ 20) (l2 : ∀ x ∈ es, x.l ≤ 20) (ok : ∀ p ∈ m.packs, p.ok ∧ ∀ r ∈ p.refs, r.ok) : MsgF F h1 m e es :=
  ⟨TwinAt.since t ⟨Nat.zero_le _, fun k hk => absurd hk (Nat.not_lt_zero _)⟩, fun k ek => let ⟨a, b⟩ := t.rows.lt k ek; hF k a b, fun i x hx k ek => by obtain ⟨_, o⟩ := t.ref hx; obtain ⟨a, b⟩ := o.lt k ek; exact hF k a b, l1, l2, ok⟩

theorem none_ok {F : Nat → Prop} {h : Heap} {q : Nat} {M : NetM} (N : NetAt F h q M) : HEnt Try.prog 33 #[.pointer (some (at0 q))] h fun v h' => v = .bool false ∧ h' = h := by
  refine F33_ent _ _ _ ?_
  obtain ⟨b1, b2, kl, kb, N⟩ := N
  unfold F33
  exact br_of (fun g => by cases g) (fun _ => ⟨at0 q, rfl, some b1, (cell_net N.net).1, rfl, rfl⟩)

theorem put_ok {F : Nat → Prop} {h : Heap} {q : Nat} {M : NetM} (N : NetAt F h q M) (f t : Int) (m : MsgV) (d : Hdr) (es : List Hdr) (hp : PacksAt h d.a d.l d.c m.packs es) (hl : d.l ≤ 20) (hls : ∀ x ∈ es, x.l ≤ 20) :
    HEnt Try.prog 34 #[.pointer (some (at0 q)), .agg #[.int .i64 f, .int .i64 t], .agg (msgCells m d).toArray] h fun v h' => v = .int .i64 (putN M f t m).1 ∧ NetAt (Fx F h h') h' q (putN M f t m).2 ∧ Keep F h h' := by
  refine F34_ent _ _ _ _ _ _ _ _ _ _ _ _ _ ?_
  obtain ⟨b1, b2, kl, kb, N⟩ := N
  have hb := N.bound
  obtain ⟨a0, l0, c0, e0, sl⟩ := N.slot (.link f t)
  have hlen := sl.len
  unfold F34
  refine (St.start h).new fun b4 h1 s1 _ _ => s1.new fun b5 h2 s2 _ _ => ?_
  have x2 := s2.ext
  have hq2 := x2.blk N.net
  have m2 := N.m1.grow x2
  have e0' : (lookA kl (f, t)).getD nilS = .slice a0 l0 c0 := e0
  refine ⟨at0 q, rfl, some b1, (cell_net hq2).1, f, t, s2.cell 1 rfl rfl, s2.cell 1 rfl rfl, rfl, a0, l0, c0, fun w hw => ?_, ?_⟩
  · have hw := Cls.eq hw
    have := quiet_lookup keyed71 Try.underlying59 zero29 m2 (a := (f, t)) trivial w (by rw [hw])
    rw [e0'] at this; exact this
  intro h3 hc3
  obtain rfl := Cls.eq hc3
  refine br_of (fun g => ?_) (fun g => ?_)
  · have g : 64 ≤ (M (.link f t)).length := by
      have : (l0 : Int) ≥ 64 := by simpa using g
      omega
    unfold putN
    rw [if_pos g]
    exact ⟨rfl, NetAt.growx ⟨b1, b2, kl, kb, N⟩ x2, x2.keep _⟩
  have g : ¬ 64 ≤ (M (.link f t)).length := by
    have : ¬ (l0 : Int) ≥ 64 := by simpa using g
    omega
  unfold F34_k1
  have lt4 := s2.lt (i := 1) rfl
  have lt5 := s2.lt (i := 0) rfl
  have ge4 := (s2.at_ 1 _ rfl).1
  have ge5 := (s2.at_ 0 _ rfl).1
  simp only at lt4 lt5 ge4 ge5
  have g4 := (s2.at_ 1 _ rfl).2
  have g5 := (s2.at_ 0 _ rfl).2
  simp only at g4 g5
  have hq := hb q N.fq
  have hb1 := hb b1 N.f1
  refine ⟨Keep (fun k => ¬ (k = q ∨ k = b4 ∨ k = b5)), fun h => Keep.refl _ h, fun _ _ _ x y => x.trans y, at0 q, rfl, some b1, fun w hw => ?_, f, t, fun w hw => run_loadAgg (hw.blk g4 (fun n => n (.inr (.inl rfl)))) Try.underlying71 rfl (by show 2 = Try.prog.cellsOf 71; rw [size71]), m.kind, m.from_, m.to, m.txn, m.yes, d.a, d.l, d.c, fun w hw => run_loadAgg (hw.blk g5 (fun n => n (.inr (.inr rfl)))) Try.underlying24 rfl (by show 6 = Try.prog.cellsOf 24; rw [size24]), ?_⟩
  · exact run_loadCell (cell_net (hw.blk hq2 (fun n => n (.inl rfl)))).1 Try.underlying59 rfl
  refine HEnt.use (twin_ok m d es _ (hp.grow x2) (by omega) (fun x hx => by have := hls x hx; omega)) ?_
  rintro _ h3 ⟨e, fs, rfl, le, tw, x3⟩
  refine ⟨m.kind, m.from_, m.to, m.txn, m.yes, e.a, e.l, e.c, rfl, x3.keep _, rfl, by omega, newK_intro fun h4 n4 x4 _ => ⟨x4.keep _, ?_⟩⟩
  have x04 := (x2.trans x3).trans x4
  refine semK_entry2 keyed71 Try.underlying59 zero29 (N.m1.grow x04) (a := (f, t)) trivial fun n h5 o5 m5 st => ?_
  have bq : b1 ≠ q := fun e => by
    obtain ⟨⟨_, _, h1, _⟩, _⟩ := N.m1
    rw [e, N.net] at h1; cases h1
  refine ⟨a0, l0, c0, n, by rw [e0'], o5.keep (by omega), ?_⟩
  obtain ⟨ds, os, hds, hms⟩ := sl.ex
  have nb1 : ∀ ad, a0 = some ad → ad.block ≠ b1 := fun ad ea hs => by
    obtain ⟨cs, g, _⟩ := os.type_ ea
    obtain ⟨⟨_, _, h1, _⟩, _⟩ := N.m1
    rw [hs, h1] at g; cases g
  have os5 := (os.grow x04).keep (S := (· = b1)) (o5.keep rfl) nb1
  have n5 : h5[h3.size]? = some (.cells (msgCells m e).toArray 24 (0, 0)) := o5.blk n4 (by have := x2.size; have := x3.size; omega)
  have src5 : OwnR 24 6 (#[] : Heap) h5 (some ⟨h3.size, 0, none⟩) 1 1 [msgCells m e] := OwnR.new_ (by simpa using n5) ⟨Nat.zero_le _, fun k hk => absurd hk (Nat.not_lt_zero _)⟩ (Nat.zero_le _) (by simp [msgCells]) rfl
  refine appK_S (new := [msgCells m e]) size24 os5 src5.rows.src rfl (by simp [msgCells]) (fun r hr => by simp at hr; subst hr; exact msg_one m e) (by rw [bytes24]; have := sl.few; omega) z24 fun a' c' h6 o6 k6 ha => ?_
  have z5 := o5.size
  have z04 := x04.size
  have not6 : ∀ k, k < h.size → (∀ ad, a0 = some ad → ad.block ≠ k) → ¬ ((∃ ad, a0 = some ad ∧ ad.block = k) ∨ h5.size ≤ k) := fun k hk hn hs => hs.elim (fun ⟨ad, e, e2⟩ => hn ad e e2) (fun hs => by omega)
  have slot24 : ∀ ad, a0 = some ad → ad.block < h.size ∧ ad.block ≠ q ∧ ad.block ≠ b4 ∧ ad.block ≠ b5 := fun ad ea => by
    obtain ⟨cs, g, _⟩ := os.type_ ea
    have hlt := blk_lt g
    refine ⟨hlt, fun hs => ?_, fun hs => by omega, fun hs => by omega⟩
    rw [hs, N.net] at g
    injection g with g; injection g with _ g; cases g
  refine ⟨k6.mono fun k _ hs n => ?_, st h6 (k6.block b1 (by omega) (not6 b1 hb1 nb1)) _ _ fun h7 m7 o7 => ⟨trivial, ?_⟩⟩
  · rcases hs with ⟨ad, ea, rfl⟩ | hs
    · obtain ⟨g1, g2, g3, g4⟩ := slot24 ad ea
      rcases n with n | n | n
      · exact g2 n
      · exact g3 n
      · exact g4 n
    · have := x3.size; have := x4.size
      rcases n with n | n | n <;> omega
  have z6 := k6.size
  have z7 := o7.size
  have K7 : Keep (fun k => (k = b1 ∨ (∃ ad, a0 = some ad ∧ ad.block = k)) ∨ h.size ≤ k) h h7 := (((x04.keep _).trans (o5.keep (.inl (.inl rfl)))).trans (k6.mono fun k _ hs => hs.elim (fun hs => .inl (.inr hs)) (fun hs => .inr (by omega)))).trans (o7.keep (.inl (.inl rfl)))
  -- the new message
  have tn := twin_msg (F := Fx F h h7) tw (fun k g1 g2 => .inr ⟨by have := x2.size; omega, by have := x4.size; omega⟩) (by omega) (twin_lens tw hp hls) (PacksAt.oks hp)
  have K37 : Keep (fun k => k = b1 ∨ (∃ ad, a0 = some ad ∧ ad.block = k) ∨ h4.size ≤ k) h3 h7 := (((x4.keep _).trans (o5.keep (.inl rfl))).trans (k6.mono fun k _ hs => hs.elim (fun hs => .inr (.inl hs)) (fun hs => .inr (.inr (by omega))))).trans (o7.keep (.inl rfl))
  have x23 : Ext h h3 := x2.trans x3
  have tn7 : MsgF (Fx F h h7) h7 m e fs := tn.keep K37 (fun _ h => h) (fun k cs _ h2 hs => by
    have h3' : ∀ {t}, h3[k]? = some (.cells cs t (0, 0)) → t ≠ 24 → False := by
      intro t hk ht
      obtain ⟨⟨_, _, g1, _⟩, _⟩ := N.m1.grow x23
      rcases hs with hs | ⟨ad, ea, hs⟩ | hs
      · rw [hs, g1] at hk; cases hk
      · obtain ⟨cs', g, _⟩ := (os.grow x23).type_ ea
        rw [hs, hk] at g
        injection g with g; injection g with _ g; exact ht g
      · have := blk_lt hk; have := x4.size; omega
    exact h2.elim (fun h2 => h3' h2 (by decide)) (fun h2 => h3' h2 (by decide)))
  have na' : ∀ ad, a' = some ad → ad.block ≠ b1 := fun ad ea hs => by
    rcases ha ad ea with ⟨ad0, e0, e1⟩ | hx
    · exact nb1 ad0 e0 (e1.trans hs)
    · omega
  unfold putN
  rw [if_neg g]
  have nb2 : ¬ ((b2 = b1 ∨ (∃ ad, a0 = some ad ∧ ad.block = b2)) ∨ h.size ≤ b2) := fun hs => by
    rcases hs with (hs | ⟨ad, ea, hs⟩) | hs
    · exact N.ne hs.symm
    · obtain ⟨cs, g, _⟩ := os.type_ ea
      obtain ⟨⟨_, _, h1, _⟩, _⟩ := N.m2
      rw [hs, h1] at g; cases g
    · have := N.m2.lt; omega
  exact ⟨rfl, N.push e0 (K7.mono fun k _ hs => hs.imp (Or.imp .inl id) id) m7 (N.m2.block (K7.block b2 N.m2.lt nb2)) (lookK_link kl kb f t _) hds hms (o6.keep (S := (· = b1)) (o7.keep rfl) na') tn7 (by omega) (fun ad ea => (ha ad ea).imp id fun hx => ⟨by omega, by omega⟩)⟩
end Go.Proofs.Ytnhnioodlciajaa
