/- Chapter 14: a net in memory. -/
import Derived.Test.YtnhnioodlciajaaWireG
namespace Go.Wire
open Go.Vc Go.Packs Go.Proofs.Ytnhnioodlciajaa
set_option linter.unusedVariables false
/-- where messages are -/
inductive Key where
  | link (f t : Int)
  | box (n : Int)
deriving DecidableEq
/-- what is where -/
abbrev NetM := Key → List MsgV
def updM (M : NetM) (k : Key) (l : List MsgV) : NetM := fun x => if x = k then l else M x
/-- a footprint, and what was made since -/
def Fx (F : Nat → Prop) (h h' : Heap) : Nat → Prop := fun k => F k ∨ (h.size ≤ k ∧ k < h'.size)
def nilS : Value := .slice none 0 0

/-- a message in memory of its own -/
structure MsgF (F : Nat → Prop) (h : Heap) (m : MsgV) (d : Hdr) (es : List Hdr) : Prop where
  twin : TwinAt #[] h d m.packs es
  f1 : ∀ k, d.a = some ⟨k, 0, none⟩ → F k
  f2 : ∀ (i : Nat) (x : Hdr), es[i]? = some x → ∀ k, x.a = some ⟨k, 0, none⟩ → F k
  l1 : d.l ≤ 20
  l2 : ∀ x ∈ es, x.l ≤ 20
  ok : ∀ p ∈ m.packs, p.ok ∧ ∀ r ∈ p.refs, r.ok
/-- messages in an array of their own -/
structure SlotAt (F : Nat → Prop) (h : Heap) (a : Option Addr) (l c : Nat) (ms : List MsgV) : Prop where
  ex : ∃ ds : List Hdr, OwnS 24 6 h a l c (List.zipWith msgCells ms ds) ∧ ds.length = ms.length ∧ ∀ (i : Nat) (m : MsgV) (d : Hdr), ms[i]? = some m → ds[i]? = some d → ∃ es, MsgF F h m d es
  few : ms.length ≤ 64
  f : ∀ ad, a = some ad → F ad.block
/-- the slices of a net -/
def lookK (kl : List ((Int × Int) × Value)) (kb : List (Int × Value)) : Key → Value
  | .link f t => (lookA kl (f, t)).getD nilS
  | .box n => (lookA kb n).getD nilS
/-- a net at q, its maps at b1 and b2 -/
structure NetIn (F : Nat → Prop) (h : Heap) (q b1 b2 : Nat) (kl : List ((Int × Int) × Value)) (kb : List (Int × Value)) (M : NetM) : Prop where
  net : h[q]? = some (.cells #[.map (some b1), .map (some b2)] 62 (0, 0))
  fq : F q
  f1 : F b1
  f2 : F b2
  ne : b1 ≠ b2
  m1 : MapAt pairV (fun _ => True) h b1 kl
  m2 : MapAt intV (fun _ => True) h b2 kb
  slot : ∀ k, ∃ a l c, lookK kl kb k = .slice a l c ∧ SlotAt F h a l c (M k)
  apart : ∀ k k' a l c a' l' c', k ≠ k' → lookK kl kb k = .slice (some a) l c → lookK kl kb k' = .slice (some a') l' c' → a.block ≠ a'.block
  bound : ∀ k, F k → k < h.size
def NetAt (F : Nat → Prop) (h : Heap) (q : Nat) (M : NetM) : Prop := ∃ b1 b2 kl kb, NetIn F h q b1 b2 kl kb M

theorem OwnR.blk {el : TypeId} {n : Nat} {h0 h : Heap} {a : Option Addr} {l c : Nat} {rows : List (List Value)} (o : OwnR el n h0 h a l c rows) {k : Nat} (e : a = some ⟨k, 0, none⟩) : ∃ cs, h[k]? = some (.cells cs el (0, 0)) := by
  rcases o.own with ⟨e2, _⟩ | ⟨b, cs, e2, _, h2, _⟩
  · rw [e] at e2; cases e2
  · rw [e] at e2; cases e2; exact ⟨cs, h2⟩
theorem MsgF.keep {S F F' : Nat → Prop} {h h' : Heap} {m : MsgV} {d : Hdr} {es : List Hdr} (t : MsgF F h m d es) (x : Keep S h h') (hF : ∀ k, F k → F' k) (hS : ∀ k cs, F k → h[k]? = some (.cells cs 68 (0, 0)) ∨ h[k]? = some (.cells cs 86 (0, 0)) → ¬ S k) : MsgF F' h' m d es := by
  refine ⟨t.twin.keep x (fun k hk => absurd hk (Nat.not_lt_zero _)) (fun k e => ?_) (fun i y hy k e => ?_), fun k e => hF k (t.f1 k e), fun i y hy k e => hF k (t.f2 i y hy k e), t.l1, t.l2, t.ok⟩
  · obtain ⟨cs, hb⟩ := OwnR.blk t.twin.rows e
    exact hS k cs (t.f1 k e) (.inl hb)
  · obtain ⟨_, o⟩ := t.twin.ref hy
    obtain ⟨cs, hb⟩ := OwnR.blk o e
    exact hS k cs (t.f2 i y hy k e) (.inr hb)
theorem MsgF.packs {F : Nat → Prop} {h : Heap} {m : MsgV} {d : Hdr} {es : List Hdr} (t : MsgF F h m d es) : PacksAt h d.a d.l d.c m.packs es := t.twin.packs t.ok
theorem SlotAt.keep {S F F' : Nat → Prop} {h h' : Heap} {a : Option Addr} {l c : Nat} {ms : List MsgV} (s : SlotAt F h a l c ms) (x : Keep S h h') (hF : ∀ k, F k → F' k) (hS : ∀ k cs, F k → h[k]? = some (.cells cs 68 (0, 0)) ∨ h[k]? = some (.cells cs 86 (0, 0)) → ¬ S k) (ha : ∀ ad, a = some ad → ¬ S ad.block) : SlotAt F' h' a l c ms := by
  obtain ⟨ds, o, hl, hm⟩ := s.ex
  exact ⟨⟨ds, o.keep x ha, hl, fun i m d hi hd => let ⟨es, t⟩ := hm i m d hi hd; ⟨es, t.keep x hF hS⟩⟩, s.few, fun ad e => hF _ (s.f ad e)⟩
theorem SlotAt.nil (F : Nat → Prop) (h : Heap) : SlotAt F h none 0 0 [] := ⟨⟨[], OwnS.nil _ _ _, rfl, by simp⟩, by simp, fun ad e => by cases e⟩
theorem SlotAt.len {F : Nat → Prop} {h : Heap} {a : Option Addr} {l c : Nat} {ms : List MsgV} (s : SlotAt F h a l c ms) : l = ms.length := by
  obtain ⟨ds, o, hl, _⟩ := s.ex
  have := o.len
  rw [List.length_zipWith, hl, Nat.min_self] at this
  exact this.symm
/-- nothing of a net has turned -/
theorem NetIn.keep {S F F' : Nat → Prop} {h h' : Heap} {q b1 b2 : Nat} {kl : List ((Int × Int) × Value)} {kb : List (Int × Value)} {M : NetM} (N : NetIn F h q b1 b2 kl kb M) (x : Keep S h h') (hS : ∀ k, F k → ¬ S k) (hF : ∀ k, F k → F' k) (hb : ∀ k, F' k → k < h'.size) : NetIn F' h' q b1 b2 kl kb M :=
  ⟨x.blk N.net (hS _ N.fq), hF _ N.fq, hF _ N.f1, hF _ N.f2, N.ne, N.m1.block (x.block _ N.m1.lt (hS _ N.f1)), N.m2.block (x.block _ N.m2.lt (hS _ N.f2)), fun k => by
    obtain ⟨a, l, c, e, s⟩ := N.slot k
    exact ⟨a, l, c, e, s.keep x hF (fun k _ hk _ => hS k hk) (fun ad e => hS _ (s.f ad e))⟩, N.apart, hb⟩
theorem NetAt.keep {S F F' : Nat → Prop} {h h' : Heap} {q : Nat} {M : NetM} (N : NetAt F h q M) (x : Keep S h h') (hS : ∀ k, F k → ¬ S k) (hF : ∀ k, F k → F' k) (hb : ∀ k, F' k → k < h'.size) : NetAt F' h' q M :=
  let ⟨b1, b2, kl, kb, N⟩ := N; ⟨b1, b2, kl, kb, N.keep x hS hF hb⟩
theorem NetAt.bound {F : Nat → Prop} {h : Heap} {q : Nat} {M : NetM} (N : NetAt F h q M) : ∀ k, F k → k < h.size := let ⟨_, _, _, _, N⟩ := N; N.bound
theorem NetAt.grow {F : Nat → Prop} {h h' : Heap} {q : Nat} {M : NetM} (N : NetAt F h q M) (x : Ext h h') : NetAt F h' q M :=
  N.keep (x.keep (fun _ => False)) (fun _ _ h => h) (fun _ h => h) (fun k hk => Nat.lt_of_lt_of_le (N.bound k hk) x.size)
theorem NetAt.growx {F : Nat → Prop} {h h' : Heap} {q : Nat} {M : NetM} (N : NetAt F h q M) (x : Ext h h') : NetAt (Fx F h h') h' q M :=
  N.keep (x.keep (fun _ => False)) (fun _ _ h => h) (fun _ h => .inl h) (fun k hk => hk.elim (fun hk => Nat.lt_of_lt_of_le (N.bound k hk) x.size) (fun hk => hk.2))
theorem NetAt.mono {F F' : Nat → Prop} {h : Heap} {q : Nat} {M : NetM} (N : NetAt F h q M) (hF : ∀ k, F k → F' k) (hb : ∀ k, F' k → k < h.size) : NetAt F' h q M :=
  N.keep (Keep.refl (fun _ => False) h) (fun _ _ h => h) hF hb
/-- what an operation on a net may turn -/
def Turns (h : Heap) (a : Option Addr) : Nat → Prop := fun k => (∃ es clock, h[k]? = some (.map es clock)) ∨ (∃ ad, a = some ad ∧ ad.block = k) ∨ h.size ≤ k
/-- one slot has turned -/
theorem NetIn.step {F F' : Nat → Prop} {h h' : Heap} {q b1 b2 : Nat} {kl kl' : List ((Int × Int) × Value)} {kb kb' : List (Int × Value)} {M : NetM} (N : NetIn F h q b1 b2 kl kb M) {k0 : Key} {a0 : Option Addr} {l0 c0 : Nat} (e0 : lookK kl kb k0 = .slice a0 l0 c0) (x : Keep (fun k => ((k = b1 ∨ k = b2) ∨ (∃ ad, a0 = some ad ∧ ad.block = k)) ∨ h.size ≤ k) h h')
    (hF : ∀ k, F k → F' k) (hb : ∀ k, F' k → k < h'.size) (m1 : MapAt pairV (fun _ => True) h' b1 kl') (m2 : MapAt intV (fun _ => True) h' b2 kb') {a' : Option Addr} {l' c' : Nat} {ms : List MsgV} (hl : ∀ k, lookK kl' kb' k = if k = k0 then .slice a' l' c' else lookK kl kb k) (s : SlotAt F' h' a' l' c' ms)
    (ha : ∀ ad, a' = some ad → (∃ ad0, a0 = some ad0 ∧ ad0.block = ad.block) ∨ h.size ≤ ad.block) : NetIn F' h' q b1 b2 kl' kb' (updM M k0 ms) := by
  have notmap : ∀ k cs t, h[k]? = some (.cells cs t (0, 0)) → k ≠ b1 ∧ k ≠ b2 := by
    intro k cs t hk
    obtain ⟨⟨es, cl, h1, _⟩, _⟩ := N.m1
    obtain ⟨⟨es', cl', h2, _⟩, _⟩ := N.m2
    exact ⟨fun e => (by rw [e, h1] at hk; cases hk), fun e => (by rw [e, h2] at hk; cases hk)⟩
  obtain ⟨a0', l0', c0', e0', s0⟩ := N.slot k0
  rw [e0] at e0'
  obtain ⟨rfl, rfl, rfl⟩ : a0 = a0' ∧ l0 = l0' ∧ c0 = c0' := by cases e0'; exact ⟨rfl, rfl, rfl⟩
  have slot24 : ∀ ad, a0 = some ad → ∃ cs, h[ad.block]? = some (.cells cs 24 (0, 0)) := by
    intro ad e
    obtain ⟨ds, o, _, _⟩ := s0.ex
    obtain ⟨cs, g, _⟩ := o.type_ e
    exact ⟨cs, g⟩
  have other : ∀ k cs t, h[k]? = some (.cells cs t (0, 0)) → t ≠ 24 → ¬ (((k = b1 ∨ k = b2) ∨ (∃ ad, a0 = some ad ∧ ad.block = k)) ∨ h.size ≤ k) := by
    intro k cs t hk ht hs
    have hn := notmap k cs t hk
    rcases hs with (hs | ⟨ad, e, hs⟩) | hs
    · exact hs.elim hn.1 hn.2
    · obtain ⟨cs', g⟩ := slot24 ad e
      rw [hs, hk] at g
      injection g with g; injection g with _ g; exact ht g
    · have := blk_lt hk; omega
  refine ⟨x.blk N.net (other _ _ _ N.net (by decide)), hF _ N.fq, hF _ N.f1, hF _ N.f2, N.ne, m1, m2, fun k => ?_, ?_, hb⟩
  · by_cases hk : k = k0
    · subst hk
      refine ⟨a', l', c', by rw [hl, if_pos rfl], ?_⟩
      unfold updM; rw [if_pos rfl]; exact s
    · obtain ⟨a, l, c, e, sk⟩ := N.slot k
      refine ⟨a, l, c, by rw [hl, if_neg hk]; exact e, ?_⟩
      unfold updM; rw [if_neg hk]
      refine sk.keep x hF (fun k cs _ h2 => h2.elim (fun h2 => other k cs 68 h2 (by decide)) (fun h2 => other k cs 86 h2 (by decide))) (fun ad ea hs => ?_)
      obtain ⟨ds, o, _, _⟩ := sk.ex
      obtain ⟨cs, g, _⟩ := o.type_ ea
      have hn := notmap _ _ _ g
      rcases hs with (hs | ⟨ad0, ea0, hs⟩) | hs
      · exact hs.elim hn.1 hn.2
      · subst ea; subst ea0
        exact N.apart k k0 _ _ _ _ _ _ hk e e0 hs.symm
      · have := blk_lt g; omega
  · intro k k' a l c a2 l2 c2 hne h1 h2
    rw [hl] at h1 h2
    have old : ∀ k a l c, lookK kl kb k = .slice (some a) l c → k ≠ k0 → (∀ ad0, a0 = some ad0 → ad0.block ≠ a.block) ∧ a.block < h.size := by
      intro k a l c e hk
      refine ⟨fun ad0 ea0 hb => ?_, ?_⟩
      · subst ea0
        exact N.apart k k0 _ _ _ _ _ _ hk e e0 hb.symm
      · obtain ⟨a3, l3, c3, e3, s3⟩ := N.slot k
        rw [e] at e3; cases e3
        exact N.bound _ (s3.f _ rfl)
    by_cases hk : k = k0
    · rw [if_pos hk] at h1
      rw [if_neg (fun e => hne (hk.trans e.symm))] at h2
      cases h1
      have o2 := old k' a2 l2 c2 h2 (fun e => hne (hk.trans e.symm))
      intro hb
      rcases ha a rfl with ⟨ad0, e, e2⟩ | hx
      · exact o2.1 ad0 e (e2.trans hb)
      · omega
    · rw [if_neg hk] at h1
      by_cases hk' : k' = k0
      · rw [if_pos hk'] at h2
        cases h2
        have o2 := old k a l c h1 hk
        intro hb
        rcases ha a2 rfl with ⟨ad0, e, e2⟩ | hx
        · exact o2.1 ad0 e (e2.trans hb.symm)
        · omega
      · rw [if_neg hk'] at h2
        exact N.apart k k' _ _ _ _ _ _ hne h1 h2
theorem lookK_link (kl : List ((Int × Int) × Value)) (kb : List (Int × Value)) (f t : Int) (v : Value) : ∀ k, lookK (updA kl (f, t) v) kb k = if k = .link f t then v else lookK kl kb k := by
  intro k
  cases k with
  | link f' t' =>
    show (lookA (updA kl (f, t) v) (f', t')).getD nilS = if _ then v else (lookA kl (f', t')).getD nilS
    rw [look_upd]
    by_cases h : (f', t') = (f, t)
    · cases h; simp
    · have : ¬ (Key.link f' t' = Key.link f t) := fun e => h (by cases e; rfl)
      rw [if_neg h, if_neg this]
  | box n => rw [if_neg (fun e => by cases e)]; rfl
theorem lookK_box (kl : List ((Int × Int) × Value)) (kb : List (Int × Value)) (n : Int) (v : Value) : ∀ k, lookK kl (updA kb n v) k = if k = .box n then v else lookK kl kb k := by
  intro k
  cases k with
  | box n' =>
    show (lookA (updA kb n v) n').getD nilS = if _ then v else (lookA kb n').getD nilS
    rw [look_upd]
    by_cases h : n' = n
    · cases h; simp
    · have : ¬ (Key.box n' = Key.box n) := fun e => h (by cases e; rfl)
      rw [if_neg h, if_neg this]
  | link f t => rw [if_neg (fun e => by cases e)]; rfl
theorem lookK_del (kl : List ((Int × Int) × Value)) (kb : List (Int × Value)) (n : Int) : ∀ k, lookK kl (delA kb n) k = if k = .box n then nilS else lookK kl kb k := by
  intro k
  cases k with
  | box n' =>
    show (lookA (delA kb n) n').getD nilS = if _ then nilS else (lookA kb n').getD nilS
    rw [look_del]
    by_cases h : n' = n
    · cases h; simp
    · have : ¬ (Key.box n' = Key.box n) := fun e => h (by cases e; rfl)
      rw [if_neg h, if_neg this]
  | link f t => rw [if_neg (fun e => by cases e)]; rfl
end Go.Wire
