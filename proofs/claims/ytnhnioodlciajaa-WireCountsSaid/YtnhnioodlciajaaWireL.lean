import Derived.Test.YtnhnioodlciajaaWireG

namespace Go.Wire
open Go.Vc Go.Packs Go.Proofs.Ytnhnioodlciajaa
set_option linter.unusedVariables false
/-- where messages are -/
inductive Key where
  | link (f t : Int)
  | box (n : Int)
deriving DecidableEq
/-- what is where -/
abbrev NetM := Key → List MsgV
def updM (M : NetM) (k : Key) (l : List MsgV) : NetM := fun x => if x = k then l else M x
/-- a footprint, and what was made since -/
def Fx (F : Nat → Prop) (h h' : Heap) : Nat → Prop := fun k => F k ∨ (h.size ≤ k ∧ k < h'.size)
def nilS : Value := .slice none 0 0

/-- a message in memory of its own -/
structure MsgF (F : Nat → Prop) (h : Heap) (m : MsgV) (d : Hdr) (es : List Hdr) : Prop where
  twin : TwinAt #[] h d m.packs es
  f1 : ∀ k, d.a = some ⟨k, 0, none⟩ → F k
  f2 : ∀ (i : Nat) (x : Hdr), es[i]? = some x → ∀ k, x.a = some ⟨k, 0, none⟩ → F k
  l1 : d.l ≤ 20
  l2 : ∀ x ∈ es, x.l ≤ 20
  ok : ∀ p ∈ m.packs, p.ok ∧ ∀ r ∈ p.refs, r.ok
/-- messages in an array of their own -/
structure SlotAt (F : Nat → Prop) (h : Heap) (a : Option Addr) (l c : Nat) (ms : List MsgV) : Prop where
  ex : ∃ ds : List Hdr, OwnS 24 6 h a l c (List.zipWith msgCells ms ds) ∧ ds.length = ms.length ∧ ∀ (i : Nat) (m : MsgV) (d : Hdr), ms[i]? = some m → ds[i]? = some d → ∃ es, MsgF F h m d es
  few : ms.length ≤ 64
  f : ∀ ad, a = some ad → F ad.block
/-- the slices of a net -/
def lookK (kl : List ((Int × Int) × Value)) (kb : List (Int × Value)) : Key → Value
  | .link f t => (lookA kl (f, t)).getD nilS
  | .box n => (lookA kb n).getD nilS
/-- a net at q, its maps at b1 and b2 -/
structure NetIn (F : Nat → Prop) (h : Heap) (q b1 b2 : Nat) (kl : List ((Int × Int) × Value)) (kb : List (Int × Value)) (M : NetM) : Prop where
  net : h[q]? = some (.cells #[.map (some b1), .map (some b2)] 62 (0, 0))
  fq : F q
  f1 : F b1
  f2 : F b2
  ne : b1 ≠ b2
  m1 : MapAt pairV (fun _ => True) h b1 kl
  m2 : MapAt intV (fun _ => True) h b2 kb
  slot : ∀ k, ∃ a l c, lookK kl kb k = .slice a l c ∧ SlotAt F h a l c (M k)
  apart : ∀ k k' a l c a' l' c', k ≠ k' → lookK kl kb k = .slice (some a) l c → lookK kl kb k' = .slice (some a') l' c' → a.block ≠ a'.block
  bound : ∀ k, F k → k < h.size
def NetAt (F : Nat → Prop) (h : Heap) (q : Nat) (M : NetM) : Prop := ∃ b1 b2 kl kb, NetIn F h q b1 b2 kl kb M

theorem OwnR.blk {el : TypeId} {n : Nat} {h0 h : Heap} {a : Option Addr} {l c : Nat} {rows : List (List Value)} (o : OwnR el n h0 h a l c rows) {k : Nat} (e : a = some ⟨k, 0, none⟩) : ∃ cs, h[k]? = some (.cells cs el (0, 0)) := by
  rcases o.own with ⟨e2, _⟩ | ⟨b, cs, e2, _, h2, _⟩
  · rw [e] at e2; cases e2
  · rw [e] at e2; cases e2; exact ⟨cs, h2⟩
theorem MsgF.keep {S F F' : Nat → Prop} {h h' : Heap} {m : MsgV} {d : Hdr} {es : List Hdr} (t : MsgF F h m d es) (x : Keep S h h') (hF : ∀ k, F k → F' k) (hS : ∀ k cs, F k → h[k]? = some (.cells cs 68 (0, 0)) ∨ h[k]? = some (.cells cs 86 (0, 0)) → ¬ S k) : MsgF F' h' m d es := by
  refine ⟨t.twin.keep x (fun k hk => absurd hk (Nat.not_lt_zero _)) (fun k e => ?_) (fun i y hy k e => ?_), fun k e => hF k (t.f1 k e), fun i y hy k e => hF k (t.f2 i y hy k e), t.l1, t.l2, t.ok⟩
  · obtain ⟨cs, hb⟩ := OwnR.blk t.twin.rows e
    exact hS k cs (t.f1 k e) (.inl hb)
  · obtain ⟨_, o⟩ := t.twin.ref hy
    obtain ⟨cs, hb⟩ := OwnR.blk o e
    exact hS k cs (t.f2 i y hy k e) (.inr hb)
theorem MsgF.packs {F : Nat → Prop} {h : Heap} {m : MsgV} {d : Hdr} {es : List Hdr} (t : MsgF F h m d es) : PacksAt h d.a d.l d.c m.packs es := t.twin.packs t.ok
theorem SlotAt.keep {S F F' : Nat → Prop} {h h' : Heap} {a : Option Addr} {l c : Nat} {ms : List MsgV} (s : SlotAt F h a l c ms) (x : Keep S h h') (hF : ∀ k, F k → F' k) (hS : ∀ k cs, F k → h[k]? = some (.cells cs 68 (0, 0)) ∨ h[k]? = some (.cells cs 86 (0, 0)) → ¬ S k) (ha : ∀ ad, a = some ad → ¬ S ad.block) : SlotAt F' h' a l c ms := by
  obtain ⟨ds, o, hl, hm⟩ := s.ex
  exact ⟨⟨ds, o.keep x ha, hl, fun i m d hi hd => let ⟨es, t⟩ := hm i m d hi hd; ⟨es, t.keep x hF hS⟩⟩, s.few, fun ad e => hF _ (s.f ad e)⟩
theorem SlotAt.nil (F : Nat → Prop) (h : Heap) : SlotAt F h none 0 0 [] := ⟨⟨[], OwnS.nil _ _ _, rfl, by simp⟩, by simp, fun ad e => by cases e⟩
theorem SlotAt.len {F : Nat → Prop} {h : Heap} {a : Option Addr} {l c : Nat} {ms : List MsgV} (s : SlotAt F h a l c ms) : l = ms.length := by
  obtain ⟨ds, o, hl, _⟩ := s.ex
  have := o.len
  rw [List.length_zipWith, hl, Nat.min_self] at this
  exact this.symm
/-- nothing of a net has turned -/
theorem NetIn.keep {S F F' : Nat → Prop} {h h' : Heap} {q b1 b2 : Nat} {kl : List ((Int × Int) × Value)} {kb : List (Int × Value)} {M : NetM} (N : NetIn F h q b1 b2 kl kb M) (x : Keep S h h') (hS : ∀ k, F k → ¬ S k) (hF : ∀ k, F k → F' k) (hb : ∀ k, F' k → k < h'.size) : NetIn F' h' q b1 b2 kl kb M :=
  ⟨x.blk N.net (hS _ N.fq), hF _ N.fq, hF _ N.f1, hF _ N.f2, N.ne, N.m1.block (x.block _ N.m1.lt (hS _ N.f1)), N.m2.block (x.block _ N.m2.lt (hS _ N.f2)), fun k => by
    obtain ⟨a, l, c, e, s⟩ := N.slot k
    exact ⟨a, l, c, e, s.keep x hF (fun k _ hk _ => hS k hk) (fun ad e => hS _ (s.f ad e))⟩, N.apart, hb⟩
theorem NetAt.keep {S F F' : Nat → Prop} {h h' : Heap} {q : Nat} {M : NetM} (N : NetAt F h q M) (x : Keep S h h') (hS : ∀ k, F k → ¬ S k) (hF : ∀ k, F k → F' k) (hb : ∀ k, F' k → k < h'.size) : NetAt F' h' q M :=
  let ⟨b1, b2, kl, kb, N⟩ := N; ⟨b1, b2, kl, kb, N.keep x hS hF hb⟩
theorem NetAt.bound {F : Nat → Prop} {h : Heap} {q : Nat} {M : NetM} (N : NetAt F h q M) : ∀ k, F k → k < h.size := let ⟨_, _, _, _, N⟩ := N; N.bound
theorem NetAt.grow {F : Nat → Prop} {h h' : Heap} {q : Nat} {M : NetM} (N : NetAt F h q M) (x : Ext h h') : NetAt F h' q M :=
  N.keep (x.keep (fun _ => False)) (fun _ _ h => h) (fun _ h => h) (fun k hk => Nat.lt_of_lt_of_le (N.bound k hk) x.size)
theorem NetAt.growx {F : Nat → Prop} {h h' : Heap} {q : Nat} {M : NetM} (N : NetAt F h q M) (x : Ext h h') : NetAt (Fx F h h') h' q M :=
  N.keep (x.keep (fun _ => False)) (fun _ _ h => h) (fun _ h => .inl h) (fun k hk => hk.elim (fun hk => Nat.lt_of_lt_of_le (N.bound k hk) x.size) (fun hk => hk.2))
theorem NetAt.mono {F F' : Nat → Prop} {h : Heap} {q : Nat} {M : NetM} (N : NetAt F h q M) (hF : ∀ k, F k → F' k) (hb : ∀ k, F' k → k < h.size) : NetAt F' h q M :=
  N.keep (Keep.refl (fun _ => False) h) (fun _ _ h => h) hF hb
/-- what an operation on a net may turn -/
def Turns (h : Heap) (a : Option Addr) : Nat → Prop := fun k => (∃ es clock, h[k]? = some (.map es clock)) ∨ (∃ ad, a = some ad ∧ ad.block = k) ∨ h.size ≤ k
/-- one slot has turned -/
theorem NetIn.step {F F' : Nat → Prop} {h h' : Heap} {q b1 b2 : Nat} {kl kl' : List ((Int × Int) × Value)} {kb kb' : List (Int × Value)} {M : NetM} (N : NetIn F h q b1 b2 kl kb M) {k0 : Key} {a0 : Option Addr} {l0 c0 : Nat} (e0 : lookK kl kb k0 = .slice a0 l0 c0) (x : Keep (fun k => ((k = b1 ∨ k = b2) ∨ (∃ ad, a0 = some ad ∧ ad.block = k)) ∨ h.size ≤ k) h h')
    (hF : ∀ k, F k → F' k) (hb : ∀ k, F' k → k < h'.size) (m1 : MapAt pairV (fun _ => True) h' b1 kl') (m2 : MapAt intV (fun _ => True) h' b2 kb') {a' : Option Addr} {l' c' : Nat} {ms : List MsgV} (hl : ∀ k, lookK kl' kb' k = if k = k0 then .slice a' l' c' else lookK kl kb k) (s : SlotAt F' h' a' l' c' ms)
    (ha : ∀ ad, a' = some ad → (∃ ad0, a0 = some ad0 ∧ ad0.block = ad.block) ∨ h.size ≤ ad.block) : NetIn F' h' q b1 b2 kl' kb' (updM M k0 ms) := by
  have notmap : ∀ k cs t, h[k]? = some (.cells cs t (0, 0)) → k ≠ b1 ∧ k ≠ b2 := by
    intro k cs t hk
    obtain ⟨⟨es, cl, h1, _⟩, _⟩ := N.m1
    obtain ⟨⟨es', cl', h2, _⟩, _⟩ := N.m2
    exact ⟨fun e => (by rw [e, h1] at hk; cases hk), fun e => (by rw [e, h2] at hk; cases hk)⟩
  obtain ⟨a0', l0', c0', e0', s0⟩ := N.slot k0
  rw [e0] at e0'
  obtain ⟨rfl, rfl, rfl⟩ : a0 = a0' ∧ l0 = l0' ∧ c0 = c0' := by cases e0'; exact ⟨rfl, rfl, rfl⟩
  have slot24 : ∀ ad, a0 = some ad → ∃ cs, h[ad.block]? = some (.cells cs 24 (0, 0)) := by
    intro ad e
    obtain ⟨ds, o, _, _⟩ := s0.ex
    obtain ⟨cs, g, _⟩ := o.type_ e
    exact ⟨cs, g⟩
  have other : ∀ k cs t, h[k]? = some (.cells cs t (0, 0)) → t ≠ 24 → ¬ (((k = b1 ∨ k = b2) ∨ (∃ ad, a0 = some ad ∧ ad.block = k)) ∨ h.size ≤ k) := by
    intro k cs t hk ht hs
    have hn := notmap k cs t hk
    rcases hs with (hs | ⟨ad, e, hs⟩) | hs
    · exact hs.elim hn.1 hn.2
    · obtain ⟨cs', g⟩ := slot24 ad e
      rw [hs, hk] at g
      injection g with g; injection g with _ g; exact ht g
    · have := blk_lt hk; omega
  refine ⟨x.blk N.net (other _ _ _ N.net (by decide)), hF _ N.fq, hF _ N.f1, hF _ N.f2, N.ne, m1, m2, fun k => ?_, ?_, hb⟩
  · by_cases hk : k = k0
    · subst hk
      refine ⟨a', l', c', by rw [hl, if_pos rfl], ?_⟩
      unfold updM; rw [if_pos rfl]; exact s
    · obtain ⟨a, l, c, e, sk⟩ := N.slot k
      refine ⟨a, l, c, by rw [hl, if_neg hk]; exact e, ?_⟩
      unfold updM; rw [if_neg hk]
      refine sk.keep x hF (fun k cs _ h2 => h2.elim (fun h2 => other k cs 68 h2 (by decide)) (fun h2 => other k cs 86 h2 (by decide))) (fun ad ea hs => ?_)
      obtain ⟨ds, o, _, _⟩ := sk.ex
      obtain ⟨cs, g, _⟩ := o.type_ ea
      have hn := notmap _ _ _ g
      rcases hs with (hs | ⟨ad0, ea0, hs⟩) | hs
      · exact hs.elim hn.1 hn.2
      · subst ea; subst ea0
        exact N.apart k k0 _ _ _ _ _ _ hk e e0 hs.symm
      · have := blk_lt g; omega
  · intro k k' a l c a2 l2 c2 hne h1 h2
    rw [hl] at h1 h2
    have old : ∀ k a l c, lookK kl kb k = .slice (some a) l c → k ≠ k0 → (∀ ad0, a0 = some ad0 → ad0.block ≠ a.block) ∧ a.block < h.size := by
      intro k a l c e hk
      refine ⟨fun ad0 ea0 hb => ?_, ?_⟩
      · subst ea0
        exact N.apart k k0 _ _ _ _ _ _ hk e e0 hb.symm
      · obtain ⟨a3, l3, c3, e3, s3⟩ := N.slot k
        rw [e] at e3; cases e3
        exact N.bound _ (s3.f _ rfl)
    by_cases hk : k = k0
    · rw [if_pos hk] at h1
      rw [if_neg (fun e => hne (hk.trans e.symm))] at h2
      cases h1
      have o2 := old k' a2 l2 c2 h2 (fun e => hne (hk.trans e.symm))
      intro hb
      rcases ha a rfl with ⟨ad0, e, e2⟩ | hx
      · exact o2.1 ad0 e (e2.trans hb)
      · omega
    · rw [if_neg hk] at h1
      by_cases hk' : k' = k0
      · rw [if_pos hk'] at h2
        cases h2
        have o2 := old k a l c h1 hk
        intro hb
        rcases ha a2 rfl with ⟨ad0, e, e2⟩ | hx
        · exact o2.1 ad0 e (e2.trans hb.symm)
        · omega
      · rw [if_neg hk'] at h2
        exact N.apart k k' _ _ _ _ _ _ hne h1 h2
theorem lookK_link (kl : List ((Int × Int) × Value)) (kb : List (Int × Value)) (f t : Int) (v : Value) : ∀ k, lookK (updA kl (f, t) v) kb k = if k = .link f t then v else lookK kl kb k := by
  intro k
  cases k with
  | link f' t' =>
    show (lookA (updA kl (f, t) v) (f', t')).getD nilS = if _ then v else (lookA kl (f', t')).getD nilS
    rw [look_upd]
    by_cases h : (f', t') = (f, t)
    · cases h; simp
    · have : ¬ (Key.link f' t' = Key.link f t) := fun e => h (by cases e; rfl)
      rw [if_neg h, if_neg this]
  | box n => rw [if_neg (fun e => by cases e)]; rfl
theorem lookK_box (kl : List ((Int × Int) × Value)) (kb : List (Int × Value)) (n : Int) (v : Value) : ∀ k, lookK kl (updA kb n v) k = if k = .box n then v else lookK kl kb k := by
  intro k
  cases k with
  | box n' =>
    show (lookA (updA kb n v) n').getD nilS = if _ then v else (lookA kb n').getD nilS
    rw [look_upd]
    by_cases h : n' = n
    · cases h; simp
    · have : ¬ (Key.box n' = Key.box n) := fun e => h (by cases e; rfl)
      rw [if_neg h, if_neg this]
  | link f t => rw [if_neg (fun e => by cases e)]; rfl
theorem lookK_del (kl : List ((Int × Int) × Value)) (kb : List (Int × Value)) (n : Int) : ∀ k, lookK kl (delA kb n) k = if k = .box n then nilS else lookK kl kb k := by
  intro k
  cases k with
  | box n' =>
    show (lookA (delA kb n) n').getD nilS = if _ then nilS else (lookA kb n').getD nilS
    rw [look_del]
    by_cases h : n' = n
    · cases h; simp
    · have : ¬ (Key.box n' = Key.box n) := fun e => h (by cases e; rfl)
      rw [if_neg h, if_neg this]
  | link f t => rw [if_neg (fun e => by cases e)]; rfl
end Go.Wire

namespace Go.Wire
open Go.Vc Go.Packs Go.Proofs.Ytnhnioodlciajaa
set_option linter.unusedVariables false
def putN (M : NetM) (f t : Int) (m : MsgV) : Int × NetM := if 64 ≤ (M (.link f t)).length then (7, M) else (0, updM M (.link f t) (M (.link f t) ++ [m]))
def sendN (M : NetM) (m : MsgV) : Int × NetM := if msgC m ≠ 0 then (msgC m, M) else putN M m.from_ m.to m
def thereN (M : NetM) (f t at_ : Int) : Int := if (f = 0 ∧ t = 0) ∨ at_ < 0 ∨ ((M (.link f t)).length : Int) ≤ at_ then 9 else 0
/-- what does not turn when a slot turns -/
theorem NetIn.other {F : Nat → Prop} {h : Heap} {q b1 b2 : Nat} {kl : List ((Int × Int) × Value)} {kb : List (Int × Value)} {M : NetM} (N : NetIn F h q b1 b2 kl kb M) {k0 : Key} {a0 : Option Addr} {l0 c0 : Nat} (e0 : lookK kl kb k0 = .slice a0 l0 c0) {k : Nat} {cs : Array Value} {t : TypeId} (hk : h[k]? = some (.cells cs t (0, 0))) (ht : t ≠ 24) : ¬ (((k = b1 ∨ k = b2) ∨ (∃ ad, a0 = some ad ∧ ad.block = k)) ∨ h.size ≤ k) := by
  intro hs
  obtain ⟨⟨_, _, g1, _⟩, _⟩ := N.m1
  obtain ⟨⟨_, _, g2, _⟩, _⟩ := N.m2
  obtain ⟨a, l, c, e, sl⟩ := N.slot k0
  rw [e0] at e
  cases e
  rcases hs with ((hs | hs) | ⟨ad, e, hs⟩) | hs
  · rw [hs, g1] at hk; cases hk
  · rw [hs, g2] at hk; cases hk
  · obtain ⟨ds, os, _⟩ := sl.ex
    obtain ⟨cs', g, _⟩ := os.type_ e
    rw [hs, hk] at g
    injection g with g; injection g with _ g; exact ht g
  · have := blk_lt hk; omega
theorem NetIn.keepF {F : Nat → Prop} {h h' : Heap} {q b1 b2 : Nat} {kl : List ((Int × Int) × Value)} {kb : List (Int × Value)} {M : NetM} (N : NetIn F h q b1 b2 kl kb M) {k0 : Key} {a0 : Option Addr} {l0 c0 : Nat} (e0 : lookK kl kb k0 = .slice a0 l0 c0) (x : Keep (fun k => ((k = b1 ∨ k = b2) ∨ (∃ ad, a0 = some ad ∧ ad.block = k)) ∨ h.size ≤ k) h h') : Keep F h h' := by
  refine ⟨x.size, fun k hk hf => x.block k hk fun hs => ?_⟩
  obtain ⟨a, l, c, e, sl⟩ := N.slot k0
  rw [e0] at e
  cases e
  rcases hs with ((hs | hs) | ⟨ad, e, hs⟩) | hs
  · exact hf (hs ▸ N.f1)
  · exact hf (hs ▸ N.f2)
  · exact hf (hs ▸ sl.f ad e)
  · omega
/-- a message more in a slot -/
theorem NetIn.push {F : Nat → Prop} {h h' : Heap} {q b1 b2 : Nat} {kl kl' : List ((Int × Int) × Value)} {kb kb' : List (Int × Value)} {M : NetM} (N : NetIn F h q b1 b2 kl kb M) {k0 : Key} {a0 : Option Addr} {l0 c0 : Nat} (e0 : lookK kl kb k0 = .slice a0 l0 c0) (x : Keep (fun k => ((k = b1 ∨ k = b2) ∨ (∃ ad, a0 = some ad ∧ ad.block = k)) ∨ h.size ≤ k) h h')
    (m1 : MapAt pairV (fun _ => True) h' b1 kl') (m2 : MapAt intV (fun _ => True) h' b2 kb') {a' : Option Addr} {l' c' : Nat} (hl : ∀ k, lookK kl' kb' k = if k = k0 then .slice a' l' c' else lookK kl kb k) {ds : List Hdr} (hds : ds.length = (M k0).length) (hms : ∀ (i : Nat) (m : MsgV) (d : Hdr), (M k0)[i]? = some m → ds[i]? = some d → ∃ es, MsgF F h m d es) {m : MsgV} {e : Hdr} {fs : List Hdr}
    (o : OwnS 24 6 h' a' l' c' (List.zipWith msgCells (M k0) ds ++ [msgCells m e])) (tn : MsgF (Fx F h h') h' m e fs) (room : (M k0).length < 64) (ha : ∀ ad, a' = some ad → (∃ ad0, a0 = some ad0 ∧ ad0.block = ad.block) ∨ (h.size ≤ ad.block ∧ ad.block < h'.size)) :
    NetAt (Fx F h h') h' q (updM M k0 (M k0 ++ [m])) ∧ Keep F h h' := by
  have hz : List.zipWith msgCells (M k0) ds ++ [msgCells m e] = List.zipWith msgCells (M k0 ++ [m]) (ds ++ [e]) := by rw [List.zipWith_append (by rw [hds])]; rfl
  rw [hz] at o
  have hb' : ∀ k, Fx F h h' k → k < h'.size := fun k hk => hk.elim (fun hk => Nat.lt_of_lt_of_le (N.bound k hk) x.size) (fun hk => hk.2)
  refine ⟨⟨b1, b2, kl', kb', N.step e0 x (fun k hk => .inl hk) hb' m1 m2 hl ⟨⟨ds ++ [e], o, by simp [hds], fun i m' d' hi hd => ?_⟩, by simp; omega, fun ad ea => ?_⟩ (fun ad ea => (ha ad ea).imp id fun h => h.1)⟩, N.keepF e0 x⟩
  · by_cases hlt : i < (M k0).length
    · rw [List.getElem?_append_left hlt] at hi
      rw [List.getElem?_append_left (by omega)] at hd
      obtain ⟨es, t⟩ := hms i m' d' hi hd
      exact ⟨es, t.keep x (fun k hk => .inl hk) fun k cs _ h2 => h2.elim (fun h2 => N.other e0 h2 (by decide)) (fun h2 => N.other e0 h2 (by decide))⟩
    · have hi' : i = (M k0).length := by
        have := (List.getElem?_eq_some_iff.1 hi).1
        simp at this; omega
      subst hi'
      rw [List.getElem?_append_right (Nat.le_refl _), Nat.sub_self] at hi
      rw [List.getElem?_append_right (by omega), hds, Nat.sub_self] at hd
      cases hi; cases hd
      exact ⟨fs, tn⟩
  · obtain ⟨a, l, c, e, sl⟩ := N.slot k0
    rw [e0] at e
    cases e
    rcases ha ad ea with ⟨ad0, e1, e2⟩ | hx
    · exact .inl (e2 ▸ sl.f ad0 e1)
    · exact .inr hx
end Go.Wire
namespace Go.Proofs.Ytnhnioodlciajaa
open Go.Vc Go.Sha Go.Trail Go.Packs Go.Wire
set_option linter.unusedVariables false

theorem keyed71 : Keyed Try.prog 71 pairV (fun _ => True) := pairs_keyed Try.underlying71 (by kernel_rfl) (by kernel_rfl) (by kernel_rfl) rfl rfl rfl rfl Try.underlying3
theorem keyed3 : Keyed Try.prog 3 intV (fun _ => True) := ints_keyed Try.underlying3
theorem zero29 : (Try.prog.info? 29).bind (·.zero) = some nilS := by kernel_rfl
theorem size71 : Try.prog.cellsOf 71 = 2 := by kernel_rfl
theorem cell_net {h : Heap} {q b1 b2 : Nat} (hq : h[q]? = some (.cells #[.map (some b1), .map (some b2)] 62 (0, 0))) : Vc.cell h ((at0 q).add 0) = some (.map (some b1)) ∧ Vc.cell h ((at0 q).add 1) = some (.map (some b2)) := by
  constructor <;> (rw [add_at0, cell_blk hq]; rfl)
theorem msg_one (m : MsgV) (d : Hdr) : ∀ u ∈ msgCells m d, one u = true := by simp [msgCells, one]
theorem twin_lens {h h0 h1 : Heap} {e d : Hdr} {ps : List PackV} {es fs : List Hdr} (t : TwinAt h0 h1 e ps es) (hp : PacksAt h d.a d.l d.c ps fs) {n : Nat} (hl : ∀ x ∈ fs, x.l ≤ n) : ∀ x ∈ es, x.l ≤ n := by
  intro x hx
  obtain ⟨i, hi⟩ := List.getElem?_of_mem hx
  have hlt := (List.getElem?_eq_some_iff.1 hi).1
  have h1 : ps[i]? = some (ps[i]'(by rw [← t.len]; exact hlt)) := List.getElem?_eq_getElem _
  have h2 : fs[i]? = some (fs[i]'(by rw [hp.len, ← t.len]; exact hlt)) := List.getElem?_eq_getElem _
  have e1 := (t.refs i _ x h1 hi).len
  have e2 := (hp.refs i _ _ h1 h2).len
  rw [List.length_map] at e1
  have := hl _ (List.mem_of_getElem? h2)
  omega
theorem twin_msg {F : Nat → Prop} {h0 h1 : Heap} {e : Hdr} {m : MsgV} {es : List Hdr} (t : TwinAt h0 h1 e m.packs es) (hF : ∀ k, h0.size ≤ k → k < h1.size → F k) (l1 : e.l ≤ 20) (l2 : ∀ x ∈ es, x.l ≤ 20) (ok : ∀ p ∈ m.packs, p.ok ∧ ∀ r ∈ p.refs, r.ok) : MsgF F h1 m e es :=
  ⟨TwinAt.since t ⟨Nat.zero_le _, fun k hk => absurd hk (Nat.not_lt_zero _)⟩, fun k ek => let ⟨a, b⟩ := t.rows.lt k ek; hF k a b, fun i x hx k ek => by obtain ⟨_, o⟩ := t.ref hx; obtain ⟨a, b⟩ := o.lt k ek; exact hF k a b, l1, l2, ok⟩

theorem none_ok {F : Nat → Prop} {h : Heap} {q : Nat} {M : NetM} (N : NetAt F h q M) : HEnt Try.prog 33 #[.pointer (some (at0 q))] h fun v h' => v = .bool false ∧ h' = h := by
  refine F33_ent _ _ _ ?_
  obtain ⟨b1, b2, kl, kb, N⟩ := N
  unfold F33
  exact br_of (fun g => by cases g) (fun _ => ⟨at0 q, rfl, some b1, (cell_net N.net).1, rfl, rfl⟩)

theorem put_ok {F : Nat → Prop} {h : Heap} {q : Nat} {M : NetM} (N : NetAt F h q M) (f t : Int) (m : MsgV) (d : Hdr) (es : List Hdr) (hp : PacksAt h d.a d.l d.c m.packs es) (hl : d.l ≤ 20) (hls : ∀ x ∈ es, x.l ≤ 20) :
    HEnt Try.prog 34 #[.pointer (some (at0 q)), .agg #[.int .i64 f, .int .i64 t], .agg (msgCells m d).toArray] h fun v h' => v = .int .i64 (putN M f t m).1 ∧ NetAt (Fx F h h') h' q (putN M f t m).2 ∧ Keep F h h' := by
  refine F34_ent _ _ _ _ _ _ _ _ _ _ _ _ _ ?_
  obtain ⟨b1, b2, kl, kb, N⟩ := N
  have hb := N.bound
  obtain ⟨a0, l0, c0, e0, sl⟩ := N.slot (.link f t)
  have hlen := sl.len
  unfold F34
  refine (St.start h).new fun b4 h1 s1 _ _ => s1.new fun b5 h2 s2 _ _ => ?_
  have x2 := s2.ext
  have hq2 := x2.blk N.net
  have m2 := N.m1.grow x2
  have e0' : (lookA kl (f, t)).getD nilS = .slice a0 l0 c0 := e0
  refine ⟨at0 q, rfl, some b1, (cell_net hq2).1, f, t, s2.cell 1 rfl rfl, s2.cell 1 rfl rfl, rfl, a0, l0, c0, fun w hw => ?_, ?_⟩
  · have hw := Cls.eq hw
    have := quiet_lookup keyed71 Try.underlying59 zero29 m2 (a := (f, t)) trivial w (by rw [hw])
    rw [e0'] at this; exact this
  intro h3 hc3
  obtain rfl := Cls.eq hc3
  refine br_of (fun g => ?_) (fun g => ?_)
  · have g : 64 ≤ (M (.link f t)).length := by
      have : (l0 : Int) ≥ 64 := by simpa using g
      omega
    unfold putN
    rw [if_pos g]
    exact ⟨rfl, NetAt.growx ⟨b1, b2, kl, kb, N⟩ x2, x2.keep _⟩
  have g : ¬ 64 ≤ (M (.link f t)).length := by
    have : ¬ (l0 : Int) ≥ 64 := by simpa using g
    omega
  unfold F34_k1
  have lt4 := s2.lt (i := 1) rfl
  have lt5 := s2.lt (i := 0) rfl
  have ge4 := (s2.at_ 1 _ rfl).1
  have ge5 := (s2.at_ 0 _ rfl).1
  simp only at lt4 lt5 ge4 ge5
  have g4 := (s2.at_ 1 _ rfl).2
  have g5 := (s2.at_ 0 _ rfl).2
  simp only at g4 g5
  have hq := hb q N.fq
  have hb1 := hb b1 N.f1
  refine ⟨Keep (fun k => ¬ (k = q ∨ k = b4 ∨ k = b5)), fun h => Keep.refl _ h, fun _ _ _ x y => x.trans y, at0 q, rfl, some b1, fun w hw => ?_, f, t, fun w hw => run_loadAgg (hw.blk g4 (fun n => n (.inr (.inl rfl)))) Try.underlying71 rfl (by show 2 = Try.prog.cellsOf 71; rw [size71]), m.kind, m.from_, m.to, m.txn, m.yes, d.a, d.l, d.c, fun w hw => run_loadAgg (hw.blk g5 (fun n => n (.inr (.inr rfl)))) Try.underlying24 rfl (by show 6 = Try.prog.cellsOf 24; rw [size24]), ?_⟩
  · exact run_loadCell (cell_net (hw.blk hq2 (fun n => n (.inl rfl)))).1 Try.underlying59 rfl
  refine HEnt.use (twin_ok m d es _ (hp.grow x2) (by omega) (fun x hx => by have := hls x hx; omega)) ?_
  rintro _ h3 ⟨e, fs, rfl, le, tw, x3⟩
  refine ⟨m.kind, m.from_, m.to, m.txn, m.yes, e.a, e.l, e.c, rfl, x3.keep _, rfl, by omega, newK_intro fun h4 n4 x4 _ => ⟨x4.keep _, ?_⟩⟩
  have x04 := (x2.trans x3).trans x4
  refine semK_entry2 keyed71 Try.underlying59 zero29 (N.m1.grow x04) (a := (f, t)) trivial fun n h5 o5 m5 st => ?_
  have bq : b1 ≠ q := fun e => by
    obtain ⟨⟨_, _, h1, _⟩, _⟩ := N.m1
    rw [e, N.net] at h1; cases h1
  refine ⟨a0, l0, c0, n, by rw [e0'], o5.keep (by omega), ?_⟩
  obtain ⟨ds, os, hds, hms⟩ := sl.ex
  have nb1 : ∀ ad, a0 = some ad → ad.block ≠ b1 := fun ad ea hs => by
    obtain ⟨cs, g, _⟩ := os.type_ ea
    obtain ⟨⟨_, _, h1, _⟩, _⟩ := N.m1
    rw [hs, h1] at g; cases g
  have os5 := (os.grow x04).keep (S := (· = b1)) (o5.keep rfl) nb1
  have n5 : h5[h3.size]? = some (.cells (msgCells m e).toArray 24 (0, 0)) := o5.blk n4 (by have := x2.size; have := x3.size; omega)
  have src5 : OwnR 24 6 (#[] : Heap) h5 (some ⟨h3.size, 0, none⟩) 1 1 [msgCells m e] := OwnR.new_ (by simpa using n5) ⟨Nat.zero_le _, fun k hk => absurd hk (Nat.not_lt_zero _)⟩ (Nat.zero_le _) (by simp [msgCells]) rfl
  refine appK_S (new := [msgCells m e]) size24 os5 src5.rows.src rfl (by simp [msgCells]) (fun r hr => by simp at hr; subst hr; exact msg_one m e) (by rw [bytes24]; have := sl.few; omega) z24 fun a' c' h6 o6 k6 ha => ?_
  have z5 := o5.size
  have z04 := x04.size
  have not6 : ∀ k, k < h.size → (∀ ad, a0 = some ad → ad.block ≠ k) → ¬ ((∃ ad, a0 = some ad ∧ ad.block = k) ∨ h5.size ≤ k) := fun k hk hn hs => hs.elim (fun ⟨ad, e, e2⟩ => hn ad e e2) (fun hs => by omega)
  have slot24 : ∀ ad, a0 = some ad → ad.block < h.size ∧ ad.block ≠ q ∧ ad.block ≠ b4 ∧ ad.block ≠ b5 := fun ad ea => by
    obtain ⟨cs, g, _⟩ := os.type_ ea
    have hlt := blk_lt g
    refine ⟨hlt, fun hs => ?_, fun hs => by omega, fun hs => by omega⟩
    rw [hs, N.net] at g
    injection g with g; injection g with _ g; cases g
  refine ⟨k6.mono fun k _ hs n => ?_, st h6 (k6.block b1 (by omega) (not6 b1 hb1 nb1)) _ _ fun h7 m7 o7 => ⟨trivial, ?_⟩⟩
  · rcases hs with ⟨ad, ea, rfl⟩ | hs
    · obtain ⟨g1, g2, g3, g4⟩ := slot24 ad ea
      rcases n with n | n | n
      · exact g2 n
      · exact g3 n
      · exact g4 n
    · have := x3.size; have := x4.size
      rcases n with n | n | n <;> omega
  have z6 := k6.size
  have z7 := o7.size
  have K7 : Keep (fun k => (k = b1 ∨ (∃ ad, a0 = some ad ∧ ad.block = k)) ∨ h.size ≤ k) h h7 := (((x04.keep _).trans (o5.keep (.inl (.inl rfl)))).trans (k6.mono fun k _ hs => hs.elim (fun hs => .inl (.inr hs)) (fun hs => .inr (by omega)))).trans (o7.keep (.inl (.inl rfl)))
  -- the new message
  have tn := twin_msg (F := Fx F h h7) tw (fun k g1 g2 => .inr ⟨by have := x2.size; omega, by have := x4.size; omega⟩) (by omega) (twin_lens tw hp hls) (PacksAt.oks hp)
  have K37 : Keep (fun k => k = b1 ∨ (∃ ad, a0 = some ad ∧ ad.block = k) ∨ h4.size ≤ k) h3 h7 := (((x4.keep _).trans (o5.keep (.inl rfl))).trans (k6.mono fun k _ hs => hs.elim (fun hs => .inr (.inl hs)) (fun hs => .inr (.inr (by omega))))).trans (o7.keep (.inl rfl))
  have x23 : Ext h h3 := x2.trans x3
  have tn7 : MsgF (Fx F h h7) h7 m e fs := tn.keep K37 (fun _ h => h) (fun k cs _ h2 hs => by
    have h3' : ∀ {t}, h3[k]? = some (.cells cs t (0, 0)) → t ≠ 24 → False := by
      intro t hk ht
      obtain ⟨⟨_, _, g1, _⟩, _⟩ := N.m1.grow x23
      rcases hs with hs | ⟨ad, ea, hs⟩ | hs
      · rw [hs, g1] at hk; cases hk
      · obtain ⟨cs', g, _⟩ := (os.grow x23).type_ ea
        rw [hs, hk] at g
        injection g with g; injection g with _ g; exact ht g
      · have := blk_lt hk; have := x4.size; omega
    exact h2.elim (fun h2 => h3' h2 (by decide)) (fun h2 => h3' h2 (by decide)))
  have na' : ∀ ad, a' = some ad → ad.block ≠ b1 := fun ad ea hs => by
    rcases ha ad ea with ⟨ad0, e0, e1⟩ | hx
    · exact nb1 ad0 e0 (e1.trans hs)
    · omega
  unfold putN
  rw [if_neg g]
  have nb2 : ¬ ((b2 = b1 ∨ (∃ ad, a0 = some ad ∧ ad.block = b2)) ∨ h.size ≤ b2) := fun hs => by
    rcases hs with (hs | ⟨ad, ea, hs⟩) | hs
    · exact N.ne hs.symm
    · obtain ⟨cs, g, _⟩ := os.type_ ea
      obtain ⟨⟨_, _, h1, _⟩, _⟩ := N.m2
      rw [hs, h1] at g; cases g
    · have := N.m2.lt; omega
  exact ⟨rfl, N.push e0 (K7.mono fun k _ hs => hs.imp (Or.imp .inl id) id) m7 (N.m2.block (K7.block b2 N.m2.lt nb2)) (lookK_link kl kb f t _) hds hms (o6.keep (S := (· = b1)) (o7.keep rfl) na') tn7 (by omega) (fun ad ea => (ha ad ea).imp id fun hx => ⟨by omega, by omega⟩)⟩
end Go.Proofs.Ytnhnioodlciajaa

namespace Go.Wire
open Go.Vc Go.Packs
def doubleN (M : NetM) (f t at_ : Int) : Int × NetM := if thereN M f t at_ ≠ 0 then (9, M) else match (M (.link f t))[at_.toNat]? with
  | some m => putN M f t m
  | none => (9, M)
theorem thereN_ok {M : NetM} {f t at_ : Int} (h : thereN M f t at_ = 0) : 0 ≤ at_ ∧ ∃ m, (M (.link f t))[at_.toNat]? = some m := by
  unfold thereN at h
  split at h
  · cases h
  · rename_i g
    have h1 : 0 ≤ at_ := by
      have := fun x => g (.inr (.inl x)); omega
    have h2 : at_ < ((M (.link f t)).length : Int) := by
      have := fun x => g (.inr (.inr x)); omega
    exact ⟨h1, _, List.getElem?_eq_getElem (show at_.toNat < (M (.link f t)).length by omega)⟩
theorem thereN_val (M : NetM) (f t at_ : Int) : thereN M f t at_ = 0 ∨ thereN M f t at_ = 9 := by unfold thereN; split; exact .inr rfl; exact .inl rfl
end Go.Wire
namespace Go.Proofs.Ytnhnioodlciajaa
open Go.Vc Go.Sha Go.Trail Go.Packs Go.Wire
set_option linter.unusedVariables false

theorem zeroC71 : (zeroC Try.prog 71).size = 2 := by kernel_rfl
theorem eqg71 : Try.prog.eqGuardType Try.prog.depth 71 = false := by kernel_rfl
theorem run_ends (p q : Int × Int) (w : World) : (Op.equal 71 (pairV p) (pairV q)).run Try.prog w = .ok (decide (p = q)) w := run_equal_pair Try.underlying71 (by kernel_rfl) (by kernel_rfl) (by kernel_rfl) rfl rfl rfl rfl Try.underlying3 p q w
theorem row_load {h : Heap} {a : Option Addr} {l c : Nat} {rows : List (List Value)} (t : Tab 6 h a l c rows) {i : Nat} {m : MsgV} {d : Hdr} (hi : rows[i]? = some (msgCells m d)) : ∃ q, a = some q ∧ i < l ∧ (∀ j v, (msgCells m d)[j]? = some v → Vc.cell h ((q.add (i * 6)).add j) = some v) ∧ ∀ w : World, Ext h w.heap → (loadVar 24 (q.add (i * 6))).run Try.prog w = .ok (.agg (msgCells m d).toArray) w := by
  obtain ⟨q, e, hl, hc⟩ := t.get hi
  refine ⟨q, e, hl, hc, fun w x => ?_⟩
  have hcw : CellsAt w.heap (q.add (i * 6)) (msgCells m d) := fun j v hv => x.some (hc j v hv)
  have hr := run_cells (P := Try.prog) hcw
  have h6 : (msgCells m d).length = Try.prog.cellsOf 24 := by show 6 = _; rw [size24]
  rw [h6] at hr
  unfold loadVar
  simp [Sem.run_bind, run_isAgg_true Try.underlying24 rfl, run_size Try.underlying24, hr]

theorem new_ok (h : Heap) : HEnt Try.prog 11 #[] h fun v h' => ∃ q F, v = .pointer (some (at0 q)) ∧ NetAt F h' q (fun _ => []) ∧ Ext h h' ∧ ∀ k, F k → h.size ≤ k := by
  refine F11_ent _ _ ?_
  unfold F11
  refine newK_intro fun h1 n1 x1 e1 => newK_intro fun h2 n2 x2 e2 => newK_intro fun h3 n3 x3 e3 => ?_
  refine ⟨h2.size, fun k => h.size ≤ k ∧ k < h3.size, rfl, ⟨h.size, h1.size, [], [], ⟨n3, ⟨by omega, by omega⟩, ⟨by omega, by omega⟩, ⟨by omega, by omega⟩, by omega, MapAt.new ((x2.trans x3).blk n1), MapAt.new (x3.blk n2), fun k => ⟨none, 0, 0, by cases k <;> rfl, SlotAt.nil _ _⟩, fun k k' a l c a' l' c' _ e => (by cases k <;> cases e), fun k hk => hk.2⟩⟩, (x1.trans x2).trans x3, fun k hk => hk.1⟩

theorem there_ok {F : Nat → Prop} {h : Heap} {q : Nat} {M : NetM} (N : NetAt F h q M) (f t at_ : Int) :
    HEnt Try.prog 36 #[.pointer (some (at0 q)), .agg #[.int .i64 f, .int .i64 t], .int .i64 at_] h fun v h' => v = .int .i64 (thereN M f t at_) ∧ Ext h h' := by
  refine F36_ent _ _ _ _ _ _ ?_
  obtain ⟨b1, b2, kl, kb, N⟩ := N
  obtain ⟨a0, l0, c0, e0, sl⟩ := N.slot (.link f t)
  have hlen := sl.len
  unfold F36
  refine (St.start h).new fun b4 h1 s1 _ _ => ?_
  have x1 := s1.ext
  have N1 : NetAt F h1 q M := NetAt.grow ⟨b1, b2, kl, kb, N⟩ x1
  refine HEnt.use (none_ok N1) ?_
  rintro _ h1 ⟨rfl, rfl⟩
  have nine : ∀ h3, Cls false h1 h3 → thereN M f t at_ = 9 → F36_k1 true h3 fun v h' => v = .int .i64 (thereN M f t at_) ∧ Ext h h' := by
    intro h3 hc e
    obtain rfl := Cls.eq hc
    unfold F36_k1
    exact br_of (fun _ => ⟨by rw [e], x1⟩) (fun g => by cases g)
  refine ⟨false, rfl, br_of (fun g => by cases g) (fun _ => ⟨f, t, s1.cell 0 rfl rfl, s1.cell 0 rfl rfl, rfl, decide ((f, t) = (0, 0)), fun w => run_ends (f, t) (0, 0) w, eqg71, br_of (fun g h3 hc => nine h3 hc ?_) (fun g => br_of (fun g2 h3 hc => nine h3 hc ?_) (fun g2 => ?_))⟩)⟩
  · have g : (f, t) = (0, 0) := by simpa using g
    unfold thereN
    rw [if_pos (.inl (by cases g; exact ⟨rfl, rfl⟩))]
  · have g2 : at_ < 0 := by simpa using g2
    unfold thereN
    rw [if_pos (.inr (.inl g2))]
  · have g : ¬ (f = 0 ∧ t = 0) := fun e => by simp [e.1, e.2] at g
    have g2 : ¬ at_ < 0 := by simpa using g2
    have e0' : (lookA kl (f, t)).getD nilS = .slice a0 l0 c0 := e0
    refine ⟨at0 q, rfl, some b1, (cell_net (x1.blk N.net)).1, f, t, s1.cell 0 rfl rfl, s1.cell 0 rfl rfl, rfl, a0, l0, c0, fun w hw => ?_, fun h3 hc => ?_⟩
    · have hw := Cls.eq hw
      have := quiet_lookup keyed71 Try.underlying59 zero29 (N.m1.grow x1) (a := (f, t)) trivial w (by rw [hw])
      rw [e0'] at this; exact this
    · obtain rfl := Cls.eq hc
      unfold F36_k1
      refine br_of (fun g3 => ⟨?_, x1⟩) (fun g3 => ?_)
      · have g3 : at_ ≥ (l0 : Int) := by simpa using g3
        unfold thereN
        rw [if_pos (.inr (.inr (by omega)))]
      · have g3 : ¬ at_ ≥ (l0 : Int) := by simpa using g3
        unfold F36_k2 thereN
        rw [if_neg (fun e => e.elim g fun e => e.elim g2 fun e => g3 (by omega))]
        exact ⟨rfl, x1⟩

theorem Fx_grow {F : Nat → Prop} {h h1 h' : Heap} (x : h.size ≤ h1.size) : ∀ k, Fx F h1 h' k → Fx F h h' k := fun k hk => hk.imp id fun hk => ⟨by omega, hk.2⟩
theorem Fx_bound {F : Nat → Prop} {h h' : Heap} {q : Nat} {M : NetM} (N : NetAt F h q M) (x : h.size ≤ h'.size) : ∀ k, Fx F h h' k → k < h'.size := fun k hk => hk.elim (fun hk => Nat.lt_of_lt_of_le (N.bound k hk) x) (fun hk => hk.2)
theorem Keep.after {S : Nat → Prop} {h h1 h' : Heap} (x : Ext h h1) (k : Keep S h1 h') : Keep S h h' := (x.keep S).trans k

theorem send_ok {F : Nat → Prop} {h : Heap} {q : Nat} {M : NetM} (N : NetAt F h q M) (m : MsgV) (d : Hdr) (es : List Hdr) (hp : PacksAt h d.a d.l d.c m.packs es) (hl : d.l ≤ 20) (hls : ∀ x ∈ es, x.l ≤ 20) :
    HEnt Try.prog 12 #[.pointer (some (at0 q)), .agg (msgCells m d).toArray] h fun v h' => v = .int .i64 (sendN M m).1 ∧ NetAt (Fx F h h') h' q (sendN M m).2 ∧ Keep F h h' := by
  refine F12_ent _ _ _ _ _ _ _ _ _ _ _ ?_
  unfold F12
  refine (St.start h).new fun b3 h1 s1 _ _ => ?_
  refine HEnt.use (none_ok (N.grow s1.ext)) ?_
  rintro _ h1 ⟨rfl, rfl⟩
  refine ⟨false, rfl, br_of (fun g => by cases g) (fun _ => ?_)⟩
  unfold F12_k1
  refine ⟨m.kind, m.from_, m.to, m.txn, m.yes, d.a, d.l, d.c, s1.cell 0 rfl rfl, s1.cell 0 rfl rfl, s1.cell 0 rfl rfl, s1.cell 0 rfl rfl, s1.cell 0 rfl rfl, s1.cell 0 rfl rfl, rfl, HEnt.use (check_ok m d es h1 (hp.grow s1.ext) (by omega)) ?_⟩
  rintro _ h2 ⟨rfl, x2⟩
  have s2 := s1.grow x2
  have N2 := N.grow s2.ext
  refine ⟨_, rfl, br_of (fun g => ?_) (fun g => ?_)⟩
  · have g : msgC m ≠ 0 := fun e => by rw [e] at g; simp at g
    unfold sendN
    rw [if_pos g]
    exact ⟨rfl, N.growx s2.ext, s2.ext.keep _⟩
  · have g : ¬ msgC m ≠ 0 := fun e => e (by simpa using g)
    unfold F12_k2
    refine ⟨m.from_, s2.cell 0 rfl rfl, m.to, s2.cell 0 rfl rfl, m.kind, m.from_, m.to, m.txn, m.yes, d.a, d.l, d.c, s2.cell 0 rfl rfl, s2.cell 0 rfl rfl, s2.cell 0 rfl rfl, s2.cell 0 rfl rfl, s2.cell 0 rfl rfl, s2.cell 0 rfl rfl, rfl, HEnt.use (put_ok N2 m.from_ m.to m d es (hp.grow s2.ext) hl hls) ?_⟩
    rintro _ h3 ⟨rfl, N3, k3⟩
    unfold sendN
    rw [if_neg g]
    have := k3.size; have := s2.ext.size
    exact ⟨_, rfl, rfl, N3.mono (Fx_grow s2.ext.size) (Fx_bound N (by omega)), Keep.after s2.ext k3⟩

theorem double_ok {F : Nat → Prop} {h : Heap} {q : Nat} {M : NetM} (N : NetAt F h q M) (f t at_ : Int) :
    HEnt Try.prog 14 #[.pointer (some (at0 q)), .int .i64 f, .int .i64 t, .int .i64 at_] h fun v h' => v = .int .i64 (doubleN M f t at_).1 ∧ NetAt (Fx F h h') h' q (doubleN M f t at_).2 ∧ Keep F h h' := by
  refine F14_ent _ _ _ _ _ _ ?_
  unfold F14
  refine (St.start h).new fun b9 h1 s1 _ _ => s1.storeAll 0 rfl rfl zeroC71 (vs := #[.int .i64 f, .int .i64 t]) (by simp [one]) fun h2 s2 on2 => ?_
  simp only [List.set_cons_zero] at s2
  refine ⟨f, t, s2.cell 0 rfl rfl, s2.cell 0 rfl rfl, rfl, HEnt.use (there_ok (N.grow s2.ext) f t at_) ?_⟩
  rintro _ h3 ⟨rfl, x3⟩
  have s3 := s2.grow x3
  have x03 := s3.ext
  refine ⟨_, rfl, br_of (fun g => ?_) (fun g => ?_)⟩
  · have g : thereN M f t at_ ≠ 0 := by simpa using g
    unfold doubleN
    rw [if_pos g]
    exact ⟨by rw [(thereN_val M f t at_).resolve_left g], N.growx x03, x03.keep _⟩
  have g : thereN M f t at_ = 0 := by simpa using g
  obtain ⟨h0, m, hm⟩ := thereN_ok g
  unfold doubleN
  rw [if_neg (fun e => e g), hm]
  have N3 := N.grow x03
  obtain ⟨b1, b2, kl, kb, NI⟩ := N3
  obtain ⟨a0, l0, c0, e0, sl⟩ := NI.slot (.link f t)
  have e0' : (lookA kl (f, t)).getD nilS = .slice a0 l0 c0 := e0
  obtain ⟨ds, os, hds, hms⟩ := sl.ex
  have hd : ds[at_.toNat]? = some (ds[at_.toNat]'(by rw [hds]; exact (List.getElem?_eq_some_iff.1 hm).1)) := List.getElem?_eq_getElem _
  generalize ds[at_.toNat]'(by rw [hds]; exact (List.getElem?_eq_some_iff.1 hm).1) = d at hd
  obtain ⟨es, tm⟩ := hms _ m d hm hd
  obtain ⟨qa, ea, hlt, _, hload⟩ := row_load os.rows (i := at_.toNat) (m := m) (d := d) (by rw [List.getElem?_zipWith, hm, hd])
  unfold F14_k1
  have r71 := s3.quietAgg (P := Try.prog) 0 rfl Try.underlying71 rfl (by show 2 = Try.prog.cellsOf 71; rw [size71])
  refine ⟨Ext, Ext.refl, fun _ _ _ x y => x.trans y, f, t, r71, at0 q, rfl, some b1, fun w hw => run_loadCell (cell_net (hw.blk NI.net)).1 Try.underlying59 rfl, f, t, r71, a0, l0, c0, fun w hw => ?_, qa, ea, h0, by omega, m.kind, m.from_, m.to, m.txn, m.yes, d.a, d.l, d.c, hload, ?_⟩
  · have := quiet_lookup keyed71 Try.underlying59 zero29 NI.m1 (a := (f, t)) trivial w (hw.block _ NI.m1.lt)
    rw [e0'] at this; exact this
  refine HEnt.use (put_ok ⟨b1, b2, kl, kb, NI⟩ f t m d es tm.packs tm.l1 tm.l2) ?_
  rintro _ h4 ⟨rfl, N4, k4⟩
  have := k4.size; have := x03.size
  exact ⟨_, rfl, trivial, rfl, N4.mono (Fx_grow x03.size) (Fx_bound N (by omega)), Keep.after x03 k4⟩
end Go.Proofs.Ytnhnioodlciajaa

namespace Go.Wire
open Go.Vc Go.Packs
def outN (M : NetM) (f t : Int) (i : Nat) : NetM := updM M (.link f t) ((M (.link f t)).eraseIdx i)
def dropN (M : NetM) (f t at_ : Int) : Int × NetM := if thereN M f t at_ ≠ 0 then (9, M) else (0, outN M f t at_.toNat)
theorem zip_erase {α β γ : Type} (f : α → β → γ) : ∀ (xs : List α) (ys : List β) (i : Nat), xs.length = ys.length → (List.zipWith f xs ys).eraseIdx i = List.zipWith f (xs.eraseIdx i) (ys.eraseIdx i)
  | [], [], _, _ => by simp
  | x :: xs, y :: ys, 0, _ => by simp
  | x :: xs, y :: ys, i + 1, h => by simp [zip_erase f xs ys i (by simpa using h)]
  | [], y :: ys, _, h => by simp at h
  | x :: xs, [], _, h => by simp at h
end Go.Wire
namespace Go.Proofs.Ytnhnioodlciajaa
open Go.Vc Go.Sha Go.Trail Go.Packs Go.Wire
set_option linter.unusedVariables false

def zero24 : Value := .agg #[.int .i64 0, .int .i64 0, .int .i64 0, .int .i64 0, .bool false, .slice none 0 0]
theorem zero24_ok : (Try.prog.info? 24).bind (·.zero) = some zero24 := by kernel_rfl
theorem zcells : (Builtin.zeroCells zero24.cells 1).size = 6 := by kernel_rfl
theorem zcells_one : ∀ u ∈ (Builtin.zeroCells zero24.cells 1).toList, one u = true := List.all_eq_true.1 (by kernel_rfl)
theorem flat_drop {n : Nat} : ∀ (rs : List (List Value)) (k : Nat), (∀ q ∈ rs, q.length = n) → (rs.drop k).flatten = rs.flatten.drop (k * n)
  | [], k, _ => by simp
  | q :: rs, 0, _ => by simp
  | q :: rs, k + 1, hq => by
    have hq0 := hq q (by simp)
    rw [List.drop_succ_cons, List.flatten_cons, flat_drop rs k (fun p hp => hq p (List.mem_cons_of_mem _ hp)), Nat.succ_mul, Nat.add_comm, List.drop_append, hq0, List.drop_of_length_le (l := q) (by rw [hq0]; omega), List.nil_append, Nat.add_sub_cancel_left]
theorem rows_one {ms : List MsgV} {ds : List Hdr} : ∀ r ∈ List.zipWith msgCells ms ds, ∀ u ∈ r, one u = true := by
  intro r hr
  obtain ⟨i, hi⟩ := List.getElem?_of_mem hr
  rw [List.getElem?_zipWith] at hi
  cases h1 : ms[i]? with
  | none => rw [h1] at hi; cases hi
  | some m =>
    cases h2 : ds[i]? with
    | none => rw [h1, h2] at hi; cases hi
    | some d => rw [h1, h2] at hi; cases hi; exact msg_one m d
theorem delete_ok {h : Heap} {a : Option Addr} {l c : Nat} {rows : List (List Value)} (o : OwnS 24 6 h a l c rows) (h1 : ∀ r ∈ rows, ∀ u ∈ r, one u = true) (i : Nat) (hi : i < l) (hl : l ≤ 1099511627776) :
    HEnt Try.prog 52 #[.slice a l c, .int .i64 i, .int .i64 ((i + 1 : Nat) : Int)] h fun v h' => v = .slice a (l - 1) c ∧ OwnS 24 6 h' a (l - 1) c (rows.eraseIdx i) ∧ Keep (fun k => ∃ ad, a = some ad ∧ ad.block = k) h h' := by
  refine F52_ent _ _ _ _ _ _ _ ?_
  have hcap := o.cap
  have hlen := o.len
  rcases o.own with ⟨e, e2⟩ | ⟨b, oo, cs, rfl, hb, fit, hrow⟩
  · omega
  have hf := flat_len o.row
  unfold F52
  refine ⟨by omega, by omega, by omega, by omega, br_of (fun g => ?_) (fun _ => ?_)⟩
  · have : (i : Int) = ((i + 1 : Nat) : Int) := by simpa using g
    omega
  unfold F52_k1
  refine ⟨by omega, by omega, by omega, by omega, by omega, fun h2 hc => ?_⟩
  obtain rfl := Cls.eq hc
  rw [cutAt0]
  simp only [Int.toNat_natCast, Nat.sub_zero]
  have hmul : i * 6 + (l - (i + 1)) * 6 + 6 = l * 6 := by omega
  have hcm : l * 6 ≤ c * 6 := by omega
  have src : srcK h2 6 (.slice (cutAt c (i + 1) 6 (some ⟨b, oo, none⟩)) (l - (i + 1)) (c - (i + 1))) (l - (i + 1)) (rows.drop (i + 1)).flatten := by
    have hdl : (rows.drop (i + 1)).flatten.length = (l - (i + 1)) * 6 := by rw [flat_len fun r hr => o.row r (List.mem_of_mem_drop hr), List.length_drop, hlen]
    refine srcK_slice hdl (fun ad e j v hv => ?_) (fun e => ?_)
    · have hj := (List.getElem?_eq_some_iff.1 hv).1
      have hne : ¬ c = i + 1 := fun e => by omega
      unfold cutAt at e
      rw [if_neg hne] at e
      simp only [Option.map_some, Option.some.injEq] at e
      subst e
      rw [add_mk, add_mk, cell_blk hb]
      rw [flat_drop rows (i + 1) o.row, List.getElem?_drop, ← hrow, List.getElem?_take] at hv
      split at hv
      · rw [List.getElem?_drop] at hv
        rw [← hv, Array.getElem?_toList]; congr 1; omega
      · cases hv
    · unfold cutAt at e; split at e <;> cases e
  refine appK_in (rows := rows.take i) size24 hb fit src (by rw [List.length_drop, hlen]) (fun r hr => o.row r (List.mem_of_mem_drop hr)) (fun r hr => h1 r (List.mem_of_mem_drop hr)) (by omega) fun h3 hb3 on3 => ?_
  have e1 : i + (l - (i + 1)) = l - 1 := by omega
  rw [e1]
  have hdl : (rows.drop (i + 1)).flatten.length = (l - (i + 1)) * 6 := by rw [flat_len fun r hr => o.row r (List.mem_of_mem_drop hr), List.length_drop, hlen]
  refine ⟨by omega, by omega, by omega, ?_⟩
  have hcut : cutAt c (l - 1) 6 (some ⟨b, oo, none⟩) = some ⟨b, oo + (l - 1) * 6, none⟩ := by unfold cutAt; rw [if_neg (by omega)]; simp [add_mk]
  rw [hcut, show l - (l - 1) = 1 by omega]
  have tk : cs.toList.take (oo + i * 6) = cs.toList.take oo ++ (rows.take i).flatten := by
    rw [flat_take rows i o.row, ← hrow, List.take_take, Nat.min_eq_left (by omega), List.take_add]
  have tl : (cs.toList.take oo).length = oo := by simp; omega
  have tl2 : (cs.toList.take (oo + i * 6)).length = oo + i * 6 := by simp; omega
  refine semK_clear Try.underlying29 zero24_ok (by omega) hb3 ?_ zcells_one fun h4 hb4 on4 => ?_
  · rw [zcells]
    simp only [List.size_toArray, List.length_append, List.length_drop, tl2, hdl, Array.length_toList]
    omega
  refine ⟨rfl, ⟨?_, by omega, fun r hr => o.row r (List.mem_of_mem_eraseIdx hr), .inr ⟨b, oo, _, rfl, hb4, ?_, ?_⟩⟩, (on3.keep ⟨_, rfl, rfl⟩).trans (on4.keep ⟨_, rfl, rfl⟩)⟩
  · rw [List.length_eraseIdx, if_pos (by omega), hlen]
  · simp only [List.size_toArray, List.length_append, List.length_drop, List.length_take, Array.length_toList, zcells, tl2, hdl]
    omega
  · have hA : (cs.toList.take (oo + i * 6) ++ (rows.drop (i + 1)).flatten).length = oo + (l - 1) * 6 := by rw [List.length_append, tl2, hdl]; omega
    have e3 : (cs.toList.take (oo + i * 6) ++ (rows.drop (i + 1)).flatten ++ cs.toList.drop (oo + i * 6 + (l - (i + 1)) * 6)).toArray.toList.take (oo + (l - 1) * 6) = cs.toList.take (oo + i * 6) ++ (rows.drop (i + 1)).flatten := by
      rw [List.take_left' hA]
    rw [e3, tk]
    have hfl : ((rows.take i).flatten ++ (rows.drop (i + 1)).flatten).length = (l - 1) * 6 := by
      have := hA
      rw [tk, List.append_assoc, List.length_append, tl] at this
      omega
    show ((cs.toList.take oo ++ (rows.take i).flatten ++ (rows.drop (i + 1)).flatten ++ _ ++ _).drop oo).take ((l - 1) * 6) = _
    rw [List.append_assoc, List.append_assoc, List.append_assoc, List.drop_left' tl, ← List.append_assoc, List.take_left' hfl, ← List.flatten_append, List.eraseIdx_eq_take_drop_succ]

theorem out_ok {F : Nat → Prop} {h : Heap} {q : Nat} {M : NetM} (N : NetAt F h q M) (f t : Int) (i : Nat) (hi : i < (M (.link f t)).length) :
    HEnt Try.prog 38 #[.pointer (some (at0 q)), .agg #[.int .i64 f, .int .i64 t], .int .i64 i] h fun v h' => v = .tuple #[] ∧ NetAt (Fx F h h') h' q (outN M f t i) ∧ Keep F h h' := by
  refine F38_ent _ _ _ _ _ _ ?_
  obtain ⟨b1, b2, kl, kb, N⟩ := N
  have hb := N.bound
  obtain ⟨a0, l0, c0, e0, sl⟩ := N.slot (.link f t)
  have hlen := sl.len
  have hfew := sl.few
  obtain ⟨ds, os, hds, hms⟩ := sl.ex
  have e0' : (lookA kl (f, t)).getD nilS = .slice a0 l0 c0 := e0
  unfold F38
  refine (St.start h).new fun b4 h1 s1 _ _ => ?_
  have x1 := s1.ext
  have z1 := x1.size
  have ge4 := (s1.at_ 0 _ rfl).1
  have g4 := (s1.at_ 0 _ rfl).2
  simp only at ge4 g4
  have hq := hb q N.fq
  have hb1 := hb b1 N.f1
  have hq1 := x1.blk N.net
  have bq : b1 ≠ q := fun e => by
    obtain ⟨⟨_, _, h1, _⟩, _⟩ := N.m1
    rw [e, N.net] at h1; cases h1
  have r59 : ∀ w : World, Keep (fun k => ¬ (k = q ∨ k = b4 ∨ k = b1)) h1 w.heap → (loadVar 59 ((at0 q).add 0)).run Try.prog w = .ok (.map (some b1)) w := fun w hw => run_loadCell (cell_net (hw.blk hq1 (fun n => n (.inl rfl)))).1 Try.underlying59 rfl
  have r71 : ∀ w : World, Keep (fun k => ¬ (k = q ∨ k = b4 ∨ k = b1)) h1 w.heap → (loadVar 71 (at0 b4)).run Try.prog w = .ok (.agg #[.int .i64 f, .int .i64 t]) w := fun w hw => run_loadAgg (hw.blk g4 (fun n => n (.inr (.inl rfl)))) Try.underlying71 rfl (by show 2 = Try.prog.cellsOf 71; rw [size71])
  refine ⟨Keep (fun k => ¬ (k = q ∨ k = b4 ∨ k = b1)), fun h => Keep.refl _ h, fun _ _ _ x y => x.trans y, at0 q, rfl, some b1, r59, f, t, r71, at0 q, rfl, some b1, r59, f, t, r71, a0, l0, c0, fun w hw => ?_, ?_⟩
  · have m1 := N.m1.grow x1
    have := quiet_lookup keyed71 Try.underlying59 zero29 m1 (a := (f, t)) trivial w (hw.block _ m1.lt (fun n => n (.inr (.inr rfl))))
    rw [e0'] at this; exact this
  rw [show IntKind.i64.wrap ((i : Int) + 1) = ((i + 1 : Nat) : Int) from wrap_succ i _ hi (by omega)]
  refine HEnt.use (delete_ok (os.grow x1) rows_one i (by omega) (by omega)) ?_
  rintro _ h2 ⟨rfl, o2, k2⟩
  have slot24 : ∀ ad, a0 = some ad → ad.block < h.size ∧ ad.block ≠ q ∧ ad.block ≠ b4 ∧ ad.block ≠ b1 := fun ad ea => by
    obtain ⟨cs, g, _⟩ := os.type_ ea
    have hlt := blk_lt g
    refine ⟨hlt, fun hs => ?_, fun hs => by omega, fun hs => ?_⟩
    · rw [hs, N.net] at g
      injection g with g; injection g with _ g; cases g
    · obtain ⟨⟨_, _, h1, _⟩, _⟩ := N.m1
      rw [hs, h1] at g; cases g
  have nb1 : ∀ ad, a0 = some ad → ad.block ≠ b1 := fun ad ea => (slot24 ad ea).2.2.2
  have m12 : MapAt pairV (fun _ => True) h2 b1 kl := (N.m1.grow x1).block (k2.block b1 (by omega) (fun ⟨ad, ea, e⟩ => nb1 ad ea e))
  refine ⟨a0, l0 - 1, c0, rfl, k2.mono fun k _ ⟨ad, ea, e⟩ n => ?_, ?_⟩
  · obtain ⟨_, g2, g3, g4⟩ := slot24 ad ea
    rcases n with n | n | n
    · exact g2 (e.trans n)
    · exact g3 (e.trans n)
    · exact g4 (e.trans n)
  refine semU_update keyed71 Try.underlying59 m12 (a := (f, t)) trivial fun h3 m3 o3 => ⟨trivial, rfl, ?_⟩
  have K3 : Keep (fun k => (k = b1 ∨ (∃ ad, a0 = some ad ∧ ad.block = k)) ∨ h.size ≤ k) h h3 := ((x1.keep _).trans (k2.mono fun k _ hs => .inl (.inr hs))).trans (o3.keep (.inl (.inl rfl)))
  have nb2 : ¬ ((b2 = b1 ∨ (∃ ad, a0 = some ad ∧ ad.block = b2)) ∨ h.size ≤ b2) := fun hs => by
    rcases hs with (hs | ⟨ad, ea, hs⟩) | hs
    · exact N.ne hs.symm
    · obtain ⟨cs, g, _⟩ := os.type_ ea
      obtain ⟨⟨_, _, h1, _⟩, _⟩ := N.m2
      rw [hs, h1] at g; cases g
    · have := N.m2.lt; omega
  have K3' : Keep (fun k => ((k = b1 ∨ k = b2) ∨ (∃ ad, a0 = some ad ∧ ad.block = k)) ∨ h.size ≤ k) h h3 := K3.mono fun k _ hs => hs.imp (Or.imp .inl id) id
  refine ⟨⟨b1, b2, _, _, N.step e0 K3' (fun k hk => .inl hk) (Fx_bound ⟨b1, b2, kl, kb, N⟩ K3.size) m3 (N.m2.block (K3.block b2 N.m2.lt nb2)) (lookK_link kl kb f t _) (a' := a0) (l' := l0 - 1) (c' := c0) ⟨⟨ds.eraseIdx i, ?_, ?_, fun j m d hj hd => ?_⟩, ?_, fun ad ea => .inl (sl.f ad ea)⟩ (fun ad ea => .inl ⟨ad, ea, rfl⟩)⟩, N.keepF e0 K3'⟩
  · rw [← zip_erase _ _ _ _ hds.symm]
    exact o2.keep (S := (· = b1)) (o3.keep rfl) nb1
  · rw [List.length_eraseIdx, List.length_eraseIdx, hds]
  · rw [List.getElem?_eraseIdx] at hj hd
    have keep : ∀ {m : MsgV} {d : Hdr} {es : List Hdr}, MsgF F h m d es → MsgF (Fx F h h3) h3 m d es := fun t => t.keep K3' (fun k hk => .inl hk) fun k cs _ h2 => h2.elim (fun h2 => N.other e0 h2 (by decide)) (fun h2 => N.other e0 h2 (by decide))
    split at hj
    · rename_i g
      rw [if_pos g] at hd
      obtain ⟨es, t⟩ := hms _ m d hj hd
      exact ⟨es, keep t⟩
    · rename_i g
      rw [if_neg g] at hd
      obtain ⟨es, t⟩ := hms _ m d hj hd
      exact ⟨es, keep t⟩
  · have := List.length_eraseIdx_le (M (.link f t)) i
    omega

theorem drop_ok {F : Nat → Prop} {h : Heap} {q : Nat} {M : NetM} (N : NetAt F h q M) (f t at_ : Int) :
    HEnt Try.prog 26 #[.pointer (some (at0 q)), .int .i64 f, .int .i64 t, .int .i64 at_] h fun v h' => v = .int .i64 (dropN M f t at_).1 ∧ NetAt (Fx F h h') h' q (dropN M f t at_).2 ∧ Keep F h h' := by
  refine F26_ent _ _ _ _ _ _ ?_
  unfold F26
  refine (St.start h).new fun b9 h1 s1 _ _ => s1.storeAll 0 rfl rfl zeroC71 (vs := #[.int .i64 f, .int .i64 t]) (by simp [one]) fun h2 s2 on2 => ?_
  simp only [List.set_cons_zero] at s2
  refine ⟨f, t, s2.cell 0 rfl rfl, s2.cell 0 rfl rfl, rfl, HEnt.use (there_ok (N.grow s2.ext) f t at_) ?_⟩
  rintro _ h3 ⟨rfl, x3⟩
  have s3 := s2.grow x3
  have x03 := s3.ext
  refine ⟨_, rfl, br_of (fun g => ?_) (fun g => ?_)⟩
  · have g : thereN M f t at_ ≠ 0 := by simpa using g
    unfold dropN
    rw [if_pos g]
    exact ⟨by rw [(thereN_val M f t at_).resolve_left g], N.growx x03, x03.keep _⟩
  have g : thereN M f t at_ = 0 := by simpa using g
  obtain ⟨h0, m, hm⟩ := thereN_ok g
  unfold dropN F26_k1
  rw [if_neg (fun e => e g)]
  have hout := out_ok (N.grow x03) f t at_.toNat (List.getElem?_eq_some_iff.1 hm).1
  rw [Int.toNat_of_nonneg h0] at hout
  refine ⟨f, t, s3.cell 0 rfl rfl, s3.cell 0 rfl rfl, rfl, HEnt.use hout ?_⟩
  rintro _ h4 ⟨rfl, N4, k4⟩
  have := k4.size; have := x03.size
  exact ⟨rfl, rfl, N4.mono (Fx_grow x03.size) (Fx_bound N (by omega)), Keep.after x03 k4⟩
end Go.Proofs.Ytnhnioodlciajaa

namespace Go.Wire
open Go.Vc Go.Packs
def deliverN (M : NetM) (f t at_ : Int) : Int × NetM := if thereN M f t at_ ≠ 0 then (9, M) else if 64 ≤ (M (.box t)).length then (7, M) else match (M (.link f t))[at_.toNat]? with
  | some m => (0, outN (updM M (.box t) (M (.box t) ++ [m])) f t at_.toNat)
  | none => (9, M)
def takeM (M : NetM) (n : Int) : NetM := updM M (.box n) (M (.box n)).tail
def nilH : Hdr := ⟨none, 0, 0⟩
def zeroM : MsgV := ⟨0, 0, 0, 0, false, []⟩
theorem NetIn.grow {F : Nat → Prop} {h h' : Heap} {q b1 b2 : Nat} {kl : List ((Int × Int) × Value)} {kb : List (Int × Value)} {M : NetM} (N : NetIn F h q b1 b2 kl kb M) (x : Ext h h') : NetIn F h' q b1 b2 kl kb M :=
  N.keep (x.keep (fun _ => False)) (fun _ _ h => h) (fun _ h => h) (fun k hk => Nat.lt_of_lt_of_le (N.bound k hk) x.size)
theorem cut_block {c n : Nat} {a : Option Addr} {ad : Addr} (e : cutAt c 1 n a = some ad) : ∃ ad0, a = some ad0 ∧ ad0.block = ad.block := by
  unfold cutAt at e
  split at e
  · exact ⟨ad, e, rfl⟩
  · cases a with
    | none => cases e
    | some b =>
      simp only [Option.map_some, Option.some.injEq] at e
      refine ⟨b, rfl, ?_⟩
      rw [← e]; unfold Addr.add; split <;> rfl
end Go.Wire
namespace Go.Proofs.Ytnhnioodlciajaa
open Go.Vc Go.Sha Go.Trail Go.Packs Go.Wire
set_option linter.unusedVariables false

theorem Keep.thenFx {F : Nat → Prop} {h h1 h2 : Heap} (k1 : Keep F h h1) (k2 : Keep (Fx F h h1) h1 h2) : Keep F h h2 :=
  ⟨Nat.le_trans k1.size k2.size, fun k hk hf => (k2.block k (Nat.lt_of_lt_of_le hk k1.size) (fun hs => hs.elim hf (fun hs => by omega))).trans (k1.block k hk hf)⟩
theorem Fx_fx {F : Nat → Prop} {h h1 h2 : Heap} (x : h.size ≤ h1.size) (y : h1.size ≤ h2.size) : ∀ k, Fx (Fx F h h1) h1 h2 k → Fx F h h2 k := fun k hk => by
  rcases hk with (hk | hk) | hk
  · exact .inl hk
  · exact .inr ⟨hk.1, by omega⟩
  · exact .inr ⟨by omega, hk.2⟩
theorem deliver_ok {F : Nat → Prop} {h : Heap} {q : Nat} {M : NetM} (N : NetAt F h q M) (f t at_ : Int) :
    HEnt Try.prog 16 #[.pointer (some (at0 q)), .int .i64 f, .int .i64 t, .int .i64 at_] h fun v h' => v = .int .i64 (deliverN M f t at_).1 ∧ NetAt (Fx F h h') h' q (deliverN M f t at_).2 ∧ Keep F h h' := by
  refine F16_ent _ _ _ _ _ _ ?_
  unfold F16
  refine (St.start h).new fun b9 h1 s1 _ _ => s1.storeAll 0 rfl rfl zeroC71 (vs := #[.int .i64 f, .int .i64 t]) (by simp [one]) fun h2 s2 on2 => ?_
  simp only [List.set_cons_zero] at s2
  refine ⟨f, t, s2.cell 0 rfl rfl, s2.cell 0 rfl rfl, rfl, HEnt.use (there_ok (N.grow s2.ext) f t at_) ?_⟩
  rintro _ h3 ⟨rfl, x3⟩
  have s3 := s2.grow x3
  have x03 := s3.ext
  refine ⟨_, rfl, br_of (fun g => ?_) (fun g => ?_)⟩
  · have g : thereN M f t at_ ≠ 0 := by simpa using g
    unfold deliverN
    rw [if_pos g]
    exact ⟨by rw [(thereN_val M f t at_).resolve_left g], N.growx x03, x03.keep _⟩
  have g : thereN M f t at_ = 0 := by simpa using g
  obtain ⟨h0, m, hm⟩ := thereN_ok g
  unfold deliverN
  rw [if_neg (fun e => e g), hm]
  have N3 := N.grow x03
  have hbn := N3.bound
  obtain ⟨b1, b2, kl, kb, NI⟩ := N3
  obtain ⟨a0, l0, c0, e0, sl⟩ := NI.slot (.link f t)
  have e0' : (lookA kl (f, t)).getD nilS = .slice a0 l0 c0 := e0
  obtain ⟨ab, lb, cb, eb, sb⟩ := NI.slot (.box t)
  have eb' : (lookA kb t).getD nilS = .slice ab lb cb := eb
  have hlb := sb.len
  obtain ⟨ds, os, hds, hms⟩ := sl.ex
  obtain ⟨db, ob, hdb, hmb⟩ := sb.ex
  have hd : ds[at_.toNat]? = some (ds[at_.toNat]'(by rw [hds]; exact (List.getElem?_eq_some_iff.1 hm).1)) := List.getElem?_eq_getElem _
  generalize ds[at_.toNat]'(by rw [hds]; exact (List.getElem?_eq_some_iff.1 hm).1) = d at hd
  obtain ⟨es, tm⟩ := hms _ m d hm hd
  obtain ⟨qa, ea, hlt, hcs, _⟩ := row_load os.rows (i := at_.toNat) (m := m) (d := d) (by rw [List.getElem?_zipWith, hm, hd])
  unfold F16_k1
  refine ⟨at0 q, rfl, some b2, (cell_net NI.net).2, semK_lookup keyed3 Try.underlying60 zero29 NI.m2 (a := t) trivial ?_⟩
  refine ⟨ab, lb, cb, eb', br_of (fun g2 => ?_) (fun g2 => ?_)⟩
  · have g2 : 64 ≤ (M (.box t)).length := by
      have : (lb : Int) ≥ 64 := by simpa using g2
      omega
    rw [if_pos g2]
    exact ⟨rfl, N.growx x03, x03.keep _⟩
  have g2 : ¬ 64 ≤ (M (.box t)).length := by
    have : ¬ (lb : Int) ≥ 64 := by simpa using g2
    omega
  rw [if_neg g2]
  unfold F16_k2
  have ge9 := (s3.at_ 0 _ rfl).1
  have g9 := (s3.at_ 0 _ rfl).2
  simp only at ge9 g9
  have hq := hbn q NI.fq
  have hb1 := hbn b1 NI.f1
  have hb2 := hbn b2 NI.f2
  have b2q : b2 ≠ q := fun e => by
    obtain ⟨⟨_, _, h1, _⟩, _⟩ := NI.m2
    rw [e, NI.net] at h1; cases h1
  -- what is read stays: all but the box's array and what is new
  have rd : ∀ k, k < h3.size → (∀ ad, ab = some ad → ad.block ≠ k) → ¬ ((∃ ad, ab = some ad ∧ ad.block = k) ∨ h3.size ≤ k) := fun k hk hn hs => hs.elim (fun ⟨ad, e, e2⟩ => hn ad e e2) (fun hs => by omega)
  have nab : ∀ {k : Nat} {cs : Array Value} {ty : TypeId}, h3[k]? = some (.cells cs ty (0, 0)) → ty ≠ 24 → ∀ ad, ab = some ad → ad.block ≠ k := fun hk ht ad ea hs => by
    obtain ⟨cs', g, _⟩ := ob.type_ ea
    rw [hs, hk] at g
    injection g with g; injection g with _ g; exact ht g
  have nmap : ∀ {k : Nat} {es : Array MapEntry} {cl : Nat}, h3[k]? = some (.map es cl) → ∀ ad, ab = some ad → ad.block ≠ k := fun hk ad ea hs => by
    obtain ⟨cs', g, _⟩ := ob.type_ ea
    rw [hs, hk] at g; cases g
  have nlink : ∀ ad, ab = some ad → ad.block ≠ qa.block := fun ad e hs => by
    subst e; subst ea
    exact NI.apart (.box t) (.link f t) _ _ _ _ _ _ (fun e => by cases e) eb e0 hs
  have m1' := NI.m1
  obtain ⟨⟨es1, cl1, hm1, _⟩, _⟩ := NI.m1
  obtain ⟨⟨es2, cl2, hm2, _⟩, _⟩ := NI.m2
  have lqa : qa.block < h3.size := by
    obtain ⟨cs', g, _⟩ := os.type_ ea
    exact blk_lt g
  refine ⟨Keep (fun k => (∃ ad, ab = some ad ∧ ad.block = k) ∨ h3.size ≤ k), fun h => Keep.refl _ h, fun _ _ _ x y => x.trans y, at0 q, rfl, some b2, fun w hw => run_loadCell (cell_net (hw.blk NI.net (rd q hq (nab NI.net (by decide))))).2 Try.underlying60 rfl, at0 q, rfl, some b2, fun w hw => run_loadCell (cell_net (hw.blk NI.net (rd q hq (nab NI.net (by decide))))).2 Try.underlying60 rfl, ab, lb, cb, fun w hw => ?_, at0 q, rfl, some b1, fun w hw => run_loadCell (cell_net (hw.blk NI.net (rd q hq (nab NI.net (by decide))))).1 Try.underlying59 rfl, f, t, fun w hw => run_loadAgg (hw.blk g9 (rd b9 (blk_lt g9) (nab g9 (by decide)))) Try.underlying71 rfl (by show 2 = Try.prog.cellsOf 71; rw [size71]), a0, l0, c0, fun w hw => ?_, qa, ea, h0, by omega, m.kind, m.from_, m.to, m.txn, m.yes, d.a, d.l, d.c, fun w hw => ?_, rfl, by omega, newK_intro fun h4 n4 x4 e4 => ⟨x4.keep _, ?_⟩⟩
  · have := quiet_lookup keyed3 Try.underlying60 zero29 NI.m2 (a := t) trivial w (hw.block _ hb2 (rd b2 hb2 (nmap hm2)))
    rw [eb'] at this; exact this
  · have := quiet_lookup keyed71 Try.underlying59 zero29 NI.m1 (a := (f, t)) trivial w (hw.block _ hb1 (rd b1 hb1 (nmap hm1)))
    rw [e0'] at this; exact this
  · have hcw : CellsAt w.heap (qa.add (at_.toNat * 6)) (msgCells m d) := fun j v hv => by
      have h1 := hcs j v hv
      have hbk : ((qa.add (at_.toNat * 6)).add j).block = qa.block := by unfold Addr.add; split <;> split <;> rfl
      have h2 := hw.block qa.block lqa (rd _ lqa nlink)
      rw [← h1]
      simp only [Vc.cell, hbk, h2]
    have hr := run_cells (P := Try.prog) hcw
    have h6 : (msgCells m d).length = Try.prog.cellsOf 24 := by show 6 = _; rw [size24]
    rw [h6] at hr
    unfold loadVar
    simp [Sem.run_bind, run_isAgg_true Try.underlying24 rfl, run_size Try.underlying24, hr]
    rfl
  have n4' : h4[h3.size]? = some (.cells (msgCells m d).toArray 24 (0, 0)) := n4
  have src4 : OwnR 24 6 (#[] : Heap) h4 (some ⟨h3.size, 0, none⟩) 1 1 [msgCells m d] := OwnR.new_ (by simpa using n4') ⟨Nat.zero_le _, fun k hk => absurd hk (Nat.not_lt_zero _)⟩ (Nat.zero_le _) (by simp [msgCells]) rfl
  refine appK_S (new := [msgCells m d]) size24 (ob.grow x4) src4.rows.src rfl (by simp [msgCells]) (fun r hr => by simp at hr; subst hr; exact msg_one m d) (by rw [bytes24]; omega) z24 fun a' c' h5 o5 k5 ha => ?_
  have K35 : Keep (fun k => (∃ ad, ab = some ad ∧ ad.block = k) ∨ h3.size ≤ k) h3 h5 := (x4.keep _).trans (k5.mono fun k _ hs => hs.imp id fun hs => by omega)
  refine ⟨k5.mono fun k _ hs => hs.imp id fun hs => by omega, ?_⟩
  have m25 : MapAt intV (fun _ => True) h5 b2 kb := NI.m2.block (K35.block b2 hb2 (rd b2 hb2 (nmap hm2)))
  refine semU_update keyed3 Try.underlying60 m25 (a := t) trivial fun h6 m6 o6 => ⟨trivial, ?_⟩
  have nb1 : ¬ (((b1 = b2) ∨ (∃ ad, ab = some ad ∧ ad.block = b1)) ∨ h3.size ≤ b1) := fun hs => by
    rcases hs with (hs | ⟨ad, ea, hs⟩) | hs
    · exact NI.ne hs
    · exact nmap hm1 ad ea hs
    · omega
  have K36 : Keep (fun k => (k = b2 ∨ (∃ ad, ab = some ad ∧ ad.block = k)) ∨ h3.size ≤ k) h3 h6 := (K35.mono fun k _ hs => hs.elim (fun hs => .inl (.inr hs)) (fun hs => .inr hs)).trans (o6.keep (.inl (.inl rfl)))
  have K36' : Keep (fun k => ((k = b1 ∨ k = b2) ∨ (∃ ad, ab = some ad ∧ ad.block = k)) ∨ h3.size ≤ k) h3 h6 := K36.mono fun k _ hs => hs.imp (Or.imp .inr id) id
  have na' : ∀ ad, a' = some ad → ad.block ≠ b2 := fun ad ea hs => by
    rcases ha ad ea with ⟨ad0, e0, e1⟩ | hx
    · exact nmap hm2 ad0 e0 (e1.trans hs)
    · have := x4.size; omega
  have z5 := k5.size
  have z6 := o6.size
  obtain ⟨N6, kF6⟩ := NI.push (k0 := .box t) eb K36' (NI.m1.block (K36.block b1 hb1 nb1)) m6 (lookK_box kl kb t _) hdb hmb (o5.keep (S := (· = b2)) (o6.keep rfl) na') (tm.keep K36' (fun k hk => .inl hk) fun k cs _ h2 => h2.elim (fun h2 => NI.other eb h2 (by decide)) (fun h2 => NI.other eb h2 (by decide))) (by omega) (fun ad ea => (ha ad ea).imp id fun hx => ⟨by omega, by omega⟩)
  have s6 : Vc.cell h6 ((at0 b9).add 0) = some (.int .i64 f) ∧ Vc.cell h6 ((at0 b9).add 1) = some (.int .i64 t) := by
    have hb9 : h6[b9]? = some (.cells #[.int .i64 f, .int .i64 t] 71 (0, 0)) := K36'.blk g9 (NI.other eb g9 (by decide))
    constructor <;> (rw [add_at0, cell_blk hb9]; rfl)
  have hlen : at_.toNat < (updM M (.box t) (M (.box t) ++ [m]) (.link f t)).length := by
    unfold updM
    rw [if_neg (fun e => by cases e)]
    exact (List.getElem?_eq_some_iff.1 hm).1
  have hout := out_ok N6 f t at_.toNat hlen
  rw [Int.toNat_of_nonneg h0] at hout
  refine ⟨f, t, s6.1, s6.2, rfl, HEnt.use hout ?_⟩
  rintro _ h7 ⟨rfl, N7, k7⟩
  have z7 := k7.size
  have z36 := K36.size
  refine ⟨rfl, rfl, N7.mono (fun k hk => ?_) (Fx_bound N (by have := x03.size; omega)), Keep.after x03 (Keep.thenFx kF6 k7)⟩
  · rcases hk with (hk | hk) | hk
    · exact .inl hk
    · exact .inr ⟨by have := x03.size; omega, by omega⟩
    · exact .inr ⟨by have := x03.size; omega, hk.2⟩


/-- what a message handed out is -/
theorem take_ok {F : Nat → Prop} {h : Heap} {q : Nat} {M : NetM} (N : NetAt F h q M) (n : Int) :
    HEnt Try.prog 22 #[.pointer (some (at0 q)), .int .i64 n] h fun v h' => (∃ d es, v = .tuple #[.agg (msgCells ((M (.box n)).head?.getD zeroM) d).toArray, .bool (M (.box n)).head?.isSome] ∧ MsgF (Fx F h h') h' ((M (.box n)).head?.getD zeroM) d es) ∧ NetAt (Fx F h h') h' q (takeM M n) ∧ Keep F h h' := by
  refine F22_ent _ _ _ _ ?_
  have hbn0 := N.bound
  unfold F22
  refine (St.start h).new fun b4 h1 s1 _ _ => HEnt.use (none_ok (N.grow s1.ext)) ?_
  rintro _ h1 ⟨rfl, rfl⟩
  have x1 := s1.ext
  have NX := N
  obtain ⟨b1, b2, kl, kb, N0⟩ := N
  have NI := N0.grow x1
  obtain ⟨ab, lb, cb, eb, sb⟩ := N0.slot (.box n)
  have eb' : (lookA kb n).getD nilS = .slice ab lb cb := eb
  have hlb := sb.len
  obtain ⟨db, ob, hdb, hmb⟩ := sb.ex
  refine ⟨false, rfl, br_of (fun g => by cases g) (fun _ => ⟨at0 q, rfl, some b2, (cell_net NI.net).2, semK_lookup keyed3 Try.underlying60 zero29 NI.m2 (a := n) trivial ⟨ab, lb, cb, eb', ?_⟩⟩)⟩
  unfold F22_k1
  refine br_of (fun g => ?_) (fun g => ?_)
  · have g : (lb : Int) = 0 := by simpa using g
    have hnil : M (.box n) = [] := List.eq_nil_of_length_eq_zero (by omega)
    have htm : takeM M n = M := by
      funext k; unfold takeM updM; split
      · rename_i e; rw [e, hnil]; rfl
      · rfl
    refine s1.storeAll 0 rfl rfl zeroC24 (vs := (msgCells zeroM nilH).toArray) (by simp [msgCells, one]) fun h2 s2 on2 => ?_
    simp only [List.set_cons_zero] at s2
    rw [hnil, htm]
    exact ⟨0, 0, 0, 0, false, none, 0, 0, s2.cell 0 rfl rfl, s2.cell 0 rfl rfl, s2.cell 0 rfl rfl, s2.cell 0 rfl rfl, s2.cell 0 rfl rfl, s2.cell 0 rfl rfl, rfl, ⟨nilH, [], rfl, ⟨⟨rfl, OwnR.nil _ _ ⟨Nat.zero_le _, fun k hk => absurd hk (Nat.not_lt_zero _)⟩, by simp⟩, fun k e => (by cases e), by simp, by decide, by simp, by simp [zeroM]⟩⟩, NX.growx s2.ext, s2.ext.keep _⟩
  have g : ¬ (lb : Int) = 0 := by simpa using g
  obtain ⟨m, r, hmr⟩ : ∃ m r, M (.box n) = m :: r := by
    cases hM : M (.box n) with
    | nil => rw [hM] at hlb; simp at hlb; omega
    | cons m r => exact ⟨m, r, rfl⟩
  rw [hmr] at hdb hlb ob hmb
  obtain ⟨d, dr, hdd⟩ : ∃ d dr, db = d :: dr := by
    cases db with
    | nil => simp at hdb
    | cons d dr => exact ⟨d, dr, rfl⟩
  subst hdd
  obtain ⟨es, tm⟩ := hmb 0 m d rfl rfl
  obtain ⟨qa, ea, hlt, hcs, _⟩ := row_load (ob.grow x1).rows (i := 0) (m := m) (d := d) rfl
  unfold F22_k2
  have hc := fun j v hv => hcs j v hv
  refine ⟨at0 q, rfl, some b2, (cell_net NI.net).2, semK_lookup keyed3 Try.underlying60 zero29 NI.m2 (a := n) trivial ⟨ab, lb, cb, eb', qa, ea, by omega, by omega, m.kind, m.from_, m.to, m.txn, m.yes, d.a, d.l, d.c, hc 0 _ rfl, hc 1 _ rfl, hc 2 _ rfl, hc 3 _ rfl, hc 4 _ rfl, hc 5 _ rfl, rfl, s1.new fun b6 h2 s2 x2 hb6 => ?_⟩⟩
  refine s2.storeAll 0 rfl rfl zeroC24 (vs := (msgCells m d).toArray) (by simp [msgCells, one]) fun h3 s3 on3 => ?_
  simp only [List.set_cons_zero] at s3
  have x13 : Ext h1 h3 := ⟨by have := x2.size; have := on3.size; omega, fun k hk => (on3.block k (by show k ≠ b6; omega)).trans (x2.block k hk)⟩
  have q3 := cell_net (x13.blk NI.net)
  have m23 := NI.m2.grow x13
  refine ⟨at0 q, rfl, some b2, q3.2, at0 q, rfl, some b2, q3.2, ab, lb, cb, fun w hw => ?_, by omega, by omega, fun h4 hc4 => ?_⟩
  · have hw := Cls.eq hw
    have := quiet_lookup keyed3 Try.underlying60 zero29 m23 (a := n) trivial w (by rw [hw])
    rw [eb'] at this; exact this
  obtain rfl := Cls.eq hc4
  refine semU_update keyed3 Try.underlying60 m23 (a := n) trivial fun h5 m5 o5 => ?_
  have g6 := (s3.at_ 0 _ rfl).2
  have g4 := (s3.at_ 1 _ rfl).2
  simp only at g6 g4
  obtain ⟨⟨es2, cl2, hm2, _⟩, _⟩ := m23
  have nb : ∀ {k : Nat} {cs : Array Value} {ty : TypeId} {hh : Heap}, hh[k]? = some (.cells cs ty (0, 0)) → hh[b2]? = some (.map es2 cl2) → k ≠ b2 := fun hk h2 e => by rw [e, h2] at hk; cases hk
  have g65 := o5.blk g6 (nb g6 hm2)
  have g45 := o5.blk g4 (nb g4 hm2)
  have n64 : b4 ≠ b6 := fun e => by have := s3.apart 0 1 _ _ rfl rfl e.symm; omega
  have c6 : ∀ j v, (msgCells m d)[j]? = some v → Vc.cell h5 ((at0 b6).add j) = some v := fun j v hv => by rw [add_at0, cell_blk g65]; simpa using hv
  refine ⟨m.kind, m.from_, m.to, m.txn, m.yes, d.a, d.l, d.c, c6 0 _ rfl, c6 1 _ rfl, c6 2 _ rfl, c6 3 _ rfl, c6 4 _ rfl, c6 5 _ rfl, rfl, storeK_whole (vs := (msgCells m d).toArray) g45 rfl zeroC24 (by simp [msgCells, one]) fun h6 g46 o6 => ?_⟩
  have c4 : ∀ j v, (msgCells m d)[j]? = some v → Vc.cell h6 ((at0 b4).add j) = some v := fun j v hv => by rw [add_at0, cell_blk g46]; simpa using hv
  have x03 := s3.ext
  have ge4 := (s3.at_ 1 _ rfl).1
  simp only at ge4
  have K6 : Keep (fun k => (k = b2 ∨ (∃ ad, ab = some ad ∧ ad.block = k)) ∨ h.size ≤ k) h h6 := ((x03.keep _).trans (o5.keep (.inl (.inl rfl)))).trans (o6.keep (.inr ge4))
  have K6' : Keep (fun k => ((k = b1 ∨ k = b2) ∨ (∃ ad, ab = some ad ∧ ad.block = k)) ∨ h.size ≤ k) h h6 := K6.mono fun k _ hs => hs.imp (Or.imp .inr id) id
  obtain ⟨⟨es1, cl1, hm1, _⟩, _⟩ := N0.m1
  obtain ⟨⟨es2', cl2', hm2', _⟩, _⟩ := N0.m2
  have nmap : ∀ {k : Nat} {es : Array MapEntry} {cl : Nat}, h[k]? = some (.map es cl) → ∀ ad, ab = some ad → ad.block ≠ k := fun hk ad ea hs => by
    obtain ⟨cs', g, _⟩ := ob.type_ ea
    rw [hs, hk] at g; cases g
  have nb1 : ¬ (((b1 = b2) ∨ (∃ ad, ab = some ad ∧ ad.block = b1)) ∨ h.size ≤ b1) := fun hs => by
    rcases hs with (hs | ⟨ad, ea, hs⟩) | hs
    · exact N0.ne hs
    · exact nmap hm1 ad ea hs
    · have := N0.m1.lt; omega
  have m26 : MapAt intV (fun _ => True) h6 b2 (updA kb n (.slice (cutAt cb 1 6 ab) (lb - 1) (cb - 1))) := m5.block (o6.block b2 (fun e => by have := N0.m2.lt; omega))
  have htm : takeM M n = updM M (.box n) r := by unfold takeM; rw [hmr]; rfl
  have keepM : ∀ {m : MsgV} {d : Hdr} {es : List Hdr}, MsgF F h m d es → MsgF (Fx F h h6) h6 m d es := fun t => t.keep K6' (fun k hk => .inl hk) fun k cs _ h2 => h2.elim (fun h2 => N0.other eb h2 (by decide)) (fun h2 => N0.other eb h2 (by decide))
  have lt : ∀ ad, ab = some ad → ad.block < h.size := fun ad ea => by
    obtain ⟨cs', g, _⟩ := ob.type_ ea
    exact blk_lt g
  have o6' : OwnS 24 6 h6 ab lb cb (List.zipWith msgCells (m :: r) (d :: dr)) := (((ob.grow x03).keep (S := (· = b2)) (o5.keep rfl) (nmap hm2')).keep (S := (· = b4)) (o6.keep rfl) (fun ad ea e => by have := lt ad ea; omega))
  rw [hmr, htm]
  refine ⟨m.kind, m.from_, m.to, m.txn, m.yes, d.a, d.l, d.c, c4 0 _ rfl, c4 1 _ rfl, c4 2 _ rfl, c4 3 _ rfl, c4 4 _ rfl, c4 5 _ rfl, rfl, ⟨d, es, rfl, keepM tm⟩, ⟨b1, b2, _, _, N0.step eb K6' (fun k hk => .inl hk) (Fx_bound NX K6.size) (N0.m1.block (K6.block b1 N0.m1.lt nb1)) m26 (lookK_box kl kb n _) ⟨⟨dr, OwnS.tail (r := msgCells m d) o6', by simpa using hdb, fun i m' d' hi hd => ?_⟩, ?_, fun ad ea => ?_⟩ (fun ad ea => .inl (cut_block ea))⟩, N0.keepF eb K6'⟩
  · obtain ⟨es', t⟩ := hmb (i + 1) m' d' (by simpa using hi) (by simpa using hd)
    exact ⟨es', keepM t⟩
  · have := sb.few
    rw [hmr] at this
    simp at this; omega
  · obtain ⟨ad0, e0, e1⟩ := cut_block ea
    exact .inl (e1 ▸ sb.f ad0 e0)

theorem clear_ok {F : Nat → Prop} {h : Heap} {q : Nat} {M : NetM} (N : NetAt F h q M) (n : Int) :
    HEnt Try.prog 28 #[.pointer (some (at0 q)), .int .i64 n] h fun v h' => v = .int .i64 (M (.box n)).length ∧ NetAt (Fx F h h') h' q (updM M (.box n) []) ∧ Keep F h h' := by
  refine F28_ent _ _ _ _ ?_
  unfold F28
  refine HEnt.use (none_ok N) ?_
  rintro _ h ⟨rfl, rfl⟩
  have NX := N
  obtain ⟨b1, b2, kl, kb, N0⟩ := N
  obtain ⟨ab, lb, cb, eb, sb⟩ := N0.slot (.box n)
  have eb' : (lookA kb n).getD nilS = .slice ab lb cb := eb
  have hlb := sb.len
  obtain ⟨db, ob, hdb, hmb⟩ := sb.ex
  refine ⟨false, rfl, br_of (fun g => by cases g) (fun _ => ?_)⟩
  unfold F28_k1
  refine ⟨at0 q, rfl, some b2, (cell_net N0.net).2, semK_lookup keyed3 Try.underlying60 zero29 N0.m2 (a := n) trivial ⟨ab, lb, cb, eb', at0 q, rfl, some b2, (cell_net N0.net).2, ?_⟩⟩
  refine semK_delete (ts := [3]) keyed3 Try.underlying60 N0.m2 (a := n) trivial fun h1 m1 o1 => ?_
  have K6 : Keep (fun k => (k = b2 ∨ (∃ ad, ab = some ad ∧ ad.block = k)) ∨ h.size ≤ k) h h1 := o1.keep (.inl (.inl rfl))
  have K6' : Keep (fun k => ((k = b1 ∨ k = b2) ∨ (∃ ad, ab = some ad ∧ ad.block = k)) ∨ h.size ≤ k) h h1 := K6.mono fun k _ hs => hs.imp (Or.imp .inr id) id
  obtain ⟨⟨es1, cl1, hm1, _⟩, _⟩ := N0.m1
  have nb1 : ¬ (((b1 = b2) ∨ (∃ ad, ab = some ad ∧ ad.block = b1)) ∨ h.size ≤ b1) := fun hs => by
    rcases hs with (hs | ⟨ad, ea, hs⟩) | hs
    · exact N0.ne hs
    · obtain ⟨cs', g, _⟩ := ob.type_ ea
      rw [hs, hm1] at g; cases g
    · have := N0.m1.lt; omega
  exact ⟨by rw [hlb], ⟨b1, b2, _, _, N0.step eb K6' (fun k hk => .inl hk) (Fx_bound NX K6.size) (N0.m1.block (K6.block b1 N0.m1.lt nb1)) m1 (lookK_del kl kb n) (SlotAt.nil _ _) (fun ad ea => by cases ea)⟩, N0.keepF eb K6'⟩
end Go.Proofs.Ytnhnioodlciajaa
