import Derived.Test.YtnhnioodlciajaaWireX
import Derived.Test.YtnhnioodlciajaaVwpF

namespace Go.Wire
open Go.Vc Go.Packs Go.Proofs Go.Proofs.Ytnhnioodlciajaa
set_option linter.unusedVariables false
/-- messages that may be read -/
structure MsgsRd (h : Heap) (a : Option Addr) (l : Nat) (ms : List MsgV) : Prop where
  len : l = ms.length
  get : ∀ (i : Nat) (m : MsgV), ms[i]? = some m → ∃ q d es, a = some q ∧ PacksAt h d.a d.l d.c m.packs es ∧ d.l ≤ 20 ∧ (∀ x ∈ es, x.l ≤ 20) ∧ (∀ j v, (msgCells m d)[j]? = some v → Vc.cell h ((q.add (i * 6)).add j) = some v)
theorem MsgsRd.grow {h h' : Heap} {a : Option Addr} {l : Nat} {ms : List MsgV} (t : MsgsRd h a l ms) (x : Ext h h') : MsgsRd h' a l ms :=
  ⟨t.len, fun i m hm => let ⟨q, d, es, e, hp, l1, l2, hc⟩ := t.get i m hm; ⟨q, d, es, e, hp.grow x, l1, l2, fun j v hv => x.some (hc j v hv)⟩⟩
theorem SlotAt.rd {F : Nat → Prop} {h : Heap} {a : Option Addr} {l c : Nat} {ms : List MsgV} (s : SlotAt F h a l c ms) : MsgsRd h a l ms :=
  ⟨s.len, fun i m hm => let ⟨q, d, es, e, _, t, hc, _⟩ := s.get hm; ⟨q, d, es, e, t.packs, t.l1, t.l2, hc⟩⟩
/-- one more behind: just its array, or what is new, turns -/
theorem SlotAt.pushP {G : Nat → Prop} {h : Heap} {a : Option Addr} {l c : Nat} {ms : List MsgV} {m : MsgV} {e : Hdr} {fs : List Hdr} {K : Option Addr → Nat → Nat → Heap → Prop} (s : SlotAt G h a l c ms) (tm : MsgF G h m e fs) (room : ms.length < 64) {b : Nat} (hb : h[b]? = some (.cells (msgCells m e).toArray 24 (0, 0)))
    (hK : ∀ a' c' h', SlotAt (Fx G h h') h' a' (l + 1) c' (ms ++ [m]) → Keep (fun k => (∃ ad, a = some ad ∧ ad.block = k) ∨ h.size ≤ k) h h' → (∀ ad, a' = some ad → (∃ ad0, a = some ad0 ∧ ad0.block = ad.block) ∨ (h.size ≤ ad.block ∧ ad.block < h'.size)) → K a' (l + 1) c' h') : appK Try.prog 24 h a l c (.slice (some (at0 b)) 1 1) K := by
  obtain ⟨ds, o, hds, hm⟩ := s.ex
  have hlen := s.len
  have src : OwnR 24 6 (#[] : Heap) h (some ⟨b, 0, none⟩) 1 1 [msgCells m e] := OwnR.new_ (by simpa using hb) ⟨Nat.zero_le _, fun k hk => absurd hk (Nat.not_lt_zero _)⟩ (Nat.zero_le _) (by simp [msgCells]) rfl
  refine appK_S (new := [msgCells m e]) size24 o src.rows.src rfl (by simp [msgCells]) (fun r hr => by simp at hr; subst hr; exact msg_one m e) (by rw [bytes24]; omega) z24 fun a' c' h' o' k' ha => hK a' c' h' ?_ k' ha
  have hz : List.zipWith msgCells ms ds ++ [msgCells m e] = List.zipWith msgCells (ms ++ [m]) (ds ++ [e]) := by rw [List.zipWith_append (by rw [hds])]; rfl
  rw [hz] at o'
  have keep : ∀ {m : MsgV} {d : Hdr} {es : List Hdr}, MsgF G h m d es → MsgF (Fx G h h') h' m d es := fun t => t.keep k' (fun k hk => .inl hk) fun k cs _ h2 hs => by
    have bad : ∀ {t}, h[k]? = some (.cells cs t (0, 0)) → t ≠ 24 → False := by
      intro t hk ht
      rcases hs with ⟨ad, ea, hs⟩ | hs
      · obtain ⟨cs', g, _⟩ := o.type_ ea
        rw [hs, hk] at g
        injection g with g; injection g with _ g; exact ht g
      · have := blk_lt hk; omega
    exact h2.elim (fun h2 => bad h2 (by decide)) (fun h2 => bad h2 (by decide))
  refine ⟨⟨ds ++ [e], o', by simp [hds], fun i m' d' hi hd => ?_⟩, by simp; omega, fun ad ea => (ha ad ea).elim (fun ⟨ad0, e1, e2⟩ => .inl (e2 ▸ s.f ad0 e1)) .inr⟩
  by_cases hlt : i < ms.length
  · rw [List.getElem?_append_left hlt] at hi
    rw [List.getElem?_append_left (by omega)] at hd
    obtain ⟨es, t⟩ := hm i m' d' hi hd
    exact ⟨es, keep t⟩
  · have hi' : i = ms.length := by
      have := (List.getElem?_eq_some_iff.1 hi).1
      simp at this; omega
    subst hi'
    rw [List.getElem?_append_right (Nat.le_refl _), Nat.sub_self] at hi
    rw [List.getElem?_append_right (by omega), hds, Nat.sub_self] at hd
    cases hi; cases hd
    exact ⟨fs, keep tm⟩
/-- the document's net -/
structure RefIn (G : Nat → Prop) (h : Heap) (p : Nat) (aL : Option Addr) (lL cL : Nat) (aB : Option Addr) (lB cB : Nat) (Ls Bs : List MsgV) : Prop where
  net : h[p]? = some (.cells #[.slice aL lL cL, .slice aB lB cB] 31 (0, 0))
  sl : SlotAt G h aL lL cL Ls
  sb : SlotAt G h aB lB cB Bs
  apart : ∀ x y, aL = some x → aB = some y → x.block ≠ y.block
  gp : G p
  bound : ∀ k, G k → k < h.size
def RefAt (G : Nat → Prop) (h : Heap) (p : Nat) (Ls Bs : List MsgV) : Prop := ∃ aL lL cL aB lB cB, RefIn G h p aL lL cL aB lB cB Ls Bs
theorem RefIn.keep {S G G' : Nat → Prop} {h h' : Heap} {p : Nat} {aL : Option Addr} {lL cL : Nat} {aB : Option Addr} {lB cB : Nat} {Ls Bs : List MsgV} (r : RefIn G h p aL lL cL aB lB cB Ls Bs) (x : Keep S h h') (hS : ∀ k, G k → ¬ S k) (hG : ∀ k, G k → G' k) (hb : ∀ k, G' k → k < h'.size) : RefIn G' h' p aL lL cL aB lB cB Ls Bs :=
  ⟨x.blk r.net (hS _ r.gp), r.sl.keep' x hG hS, r.sb.keep' x hG hS, r.apart, hG _ r.gp, hb⟩
theorem RefIn.grow {G : Nat → Prop} {h h' : Heap} {p : Nat} {aL : Option Addr} {lL cL : Nat} {aB : Option Addr} {lB cB : Nat} {Ls Bs : List MsgV} (r : RefIn G h p aL lL cL aB lB cB Ls Bs) (x : Ext h h') : RefIn G h' p aL lL cL aB lB cB Ls Bs :=
  r.keep (x.keep (fun _ => False)) (fun _ _ h => h) (fun _ h => h) (fun k hk => Nat.lt_of_lt_of_le (r.bound k hk) x.size)
theorem RefAt.keep {S G G' : Nat → Prop} {h h' : Heap} {p : Nat} {Ls Bs : List MsgV} (r : RefAt G h p Ls Bs) (x : Keep S h h') (hS : ∀ k, G k → ¬ S k) (hG : ∀ k, G k → G' k) (hb : ∀ k, G' k → k < h'.size) : RefAt G' h' p Ls Bs :=
  let ⟨_, _, _, _, _, _, r⟩ := r; ⟨_, _, _, _, _, _, r.keep x hS hG hb⟩
theorem RefAt.bound {G : Nat → Prop} {h : Heap} {p : Nat} {Ls Bs : List MsgV} (r : RefAt G h p Ls Bs) : ∀ k, G k → k < h.size := let ⟨_, _, _, _, _, _, r⟩ := r; r.bound
theorem RefAt.grow {G : Nat → Prop} {h h' : Heap} {p : Nat} {Ls Bs : List MsgV} (r : RefAt G h p Ls Bs) (x : Ext h h') : RefAt G h' p Ls Bs :=
  r.keep (x.keep (fun _ => False)) (fun _ _ h => h) (fun _ h => h) (fun k hk => Nat.lt_of_lt_of_le (r.bound k hk) x.size)
def onL (x y : Int) (ms : List MsgV) : List MsgV := ms.filter fun m => decide (m.from_ = x ∧ m.to = y)
def onB (x : Int) (ms : List MsgV) : List MsgV := ms.filter fun m => decide (m.to = x)
theorem filter_take {α : Type} (p : α → Bool) {l : List α} {k : Nat} {x : α} (h : l[k]? = some x) : (l.take (k + 1)).filter p = (l.take k).filter p ++ (if p x then [x] else []) := by
  rw [takeR_succ h, List.filter_append]
  simp only [List.filter_cons, List.filter_nil]
theorem filter_len {α : Type} (p : α → Bool) (l : List α) (k : Nat) : ((l.take k).filter p).length ≤ l.length := Nat.le_trans (List.length_filter_le _ _) (by rw [List.length_take]; omega)
end Go.Wire
namespace Go.Proofs.Ytnhnioodlciajaa
open Go.Vc Go.Sha Go.Trail Go.Packs Go.Wire
set_option linter.unusedVariables false
theorem cell_ref {h : Heap} {p : Nat} {a b : Option Addr} {l c l' c' : Nat} (hq : h[p]? = some (.cells #[.slice a l c, .slice b l' c'] 31 (0, 0))) : Vc.cell h ((at0 p).add 0) = some (.slice a l c) ∧ Vc.cell h ((at0 p).add 1) = some (.slice b l' c') := by
  constructor <;> (rw [add_at0, cell_blk hq]; rfl)
/-- what a list grows to -/
structure Acc (G : Nat → Prop) (h h' : Heap) (a : Option Addr) (l c : Nat) (ms : List MsgV) : Prop where
  ext : Ext h h'
  sl : SlotAt (Fx G h h') h' a l c ms
  new : ∀ ad, a = some ad → h.size ≤ ad.block
theorem Acc.push {G : Nat → Prop} {h h1 : Heap} {a : Option Addr} {l c : Nat} {ms : List MsgV} {m : MsgV} {d : Hdr} {es : List Hdr} {K : Option Addr → Nat → Nat → Heap → Prop} (t : Acc G h h1 a l c ms) (hG : ∀ k, G k → k < h.size) (tm : MsgF G h m d es) (room : ms.length < 64)
    (hK : ∀ a' c' h', Acc G h h' a' (l + 1) c' (ms ++ [m]) → K a' (l + 1) c' h') : newK h1 (.cells (msgCells m d).toArray 24) fun b h2 => appK Try.prog 24 h2 a l c (.slice (some (at0 b)) 1 1) K := by
  refine newK_intro fun h2 n2 x2 e2 => ?_
  have x02 := t.ext.trans x2
  have z0 := t.ext.size
  have sl2 : SlotAt (Fx G h h2) h2 a l c ms := t.sl.keep' (x2.keep (fun _ => False)) (fun k hk => hk.imp id fun hk => ⟨hk.1, by omega⟩) (fun _ _ h => h)
  have tm2 : MsgF (Fx G h h2) h2 m d es := tm.keep' (x02.keep (fun _ => False)) (fun _ h => .inl h) (fun _ _ h => h)
  refine SlotAt.pushP sl2 tm2 room n2 fun a' c' h3 sl3 k3 ha => hK a' c' h3 ⟨?_, ?_, fun ad ea => ?_⟩
  · refine ⟨Nat.le_trans x02.size k3.size, fun k hk => (k3.block k (Nat.lt_of_lt_of_le hk x02.size) fun hs => ?_).trans (x02.block k hk)⟩
    rcases hs with ⟨ad, ea, hs⟩ | hs
    · have := t.new ad ea; omega
    · omega
  · exact sl3.keep' (Keep.refl (fun _ => False) _) (Fx_fx x02.size k3.size) (fun _ _ h => h)
  · rcases ha ad ea with ⟨ad0, e1, e2⟩ | hx
    · have := t.new ad0 e1; omega
    · omega

theorem refLink_ok {G : Nat → Prop} {h : Heap} {p : Nat} {Ls Bs : List MsgV} (r : RefAt G h p Ls Bs) (x y : Int) :
    HEnt Try.prog 35 #[.pointer (some (at0 p)), .int .i64 x, .int .i64 y] h fun v h' => ∃ a l c, v = .slice a l c ∧ Acc G h h' a l c (onL x y Ls) := by
  refine F35_ent _ _ _ _ _ ?_
  obtain ⟨aL, lL, cL, aB, lB, cB, r⟩ := r
  have hlen := r.sl.len
  have hfew := r.sl.few
  unfold F35
  rintro _ rfl
  refine ⟨fun a l c i h' => ∃ k : Nat, i = k ∧ k ≤ lL ∧ Acc G h h' a l c (onL x y (Ls.take k)), fun _ _ _ i _ => ((lL : Int) - i).toNat, ⟨0, rfl, by omega, ⟨Ext.refl h, SlotAt.nil _ _, fun ad e => by cases e⟩⟩, ?_⟩
  rintro h1 a7 l7 c7 _ ⟨k, rfl, hk, t⟩
  have r1 := r.grow t.ext
  have cL1 := (cell_ref r1.net).1
  unfold F35_b1
  refine ⟨at0 p, rfl, aL, lL, cL, cL1, br_of (fun g => ?_) (fun g => ?_)⟩
  · have hk' : k < lL := by
      have : (k : Int) < (lL : Int) := by simpa using g
      omega
    have hm : Ls[k]? = some (Ls[k]'(by omega)) := List.getElem?_eq_getElem _
    generalize Ls[k]'(by omega) = m at hm
    obtain ⟨q, d, es, ea, _, _, hc, _⟩ := r1.sl.get hm
    obtain ⟨q', d', es', ea', _, tm, hc', _⟩ := r.sl.get hm
    have hc1 : ∀ j v, (msgCells m d')[j]? = some v → Vc.cell h1 ((q'.add ((k : Int).toNat * 6)).add j) = some v := fun j v hv => by rw [Int.toNat_natCast]; exact t.ext.some (hc' j v hv)
    have hft := filter_take (fun m => decide (m.from_ = x ∧ m.to = y)) hm
    have k3 : ∀ bb : Bool, (bb = true ↔ (m.from_ = x ∧ m.to = y)) → F35_k3 (fun a l c i h' => ∃ k : Nat, i = k ∧ k ≤ lL ∧ Acc G h h' a l c (onL x y (Ls.take k))) (fun _ _ _ i _ => ((lL : Int) - i).toNat) (((lL : Int) - (k : Int)).toNat) (some (at0 p)) x y a7 l7 c7 (k : Int) bb h1 fun v h' => ∃ a l c, v = .slice a l c ∧ Acc G h h' a l c (onL x y Ls) := by
      intro bb hbb
      unfold F35_k3
      refine br_of (fun g => ?_) (fun g => ?_)
      · have hp := hbb.1 g
        refine ⟨at0 p, rfl, aL, lL, cL, cL1, q', ea', by omega, by omega, m.kind, m.from_, m.to, m.txn, m.yes, d'.a, d'.l, d'.c, hc1 0 _ rfl, hc1 1 _ rfl, hc1 2 _ rfl, hc1 3 _ rfl, hc1 4 _ rfl, hc1 5 _ rfl, rfl, rfl, by omega, ?_⟩
        refine Acc.push t r.bound tm ?_ fun a' c' h' t' => ?_
        · have := filter_len (fun m => decide (m.from_ = x ∧ m.to = y)) Ls k
          have h3 : (onL x y (Ls.take k)).length ≤ k := Nat.le_trans (List.length_filter_le _ _) (by rw [List.length_take]; omega)
          omega
        · unfold F35_k4
          rintro _ rfl
          rw [wrap_succ k _ hk' (by omega)]
          refine ⟨⟨k + 1, rfl, by omega, ?_⟩, less_succ _ _ hk'⟩
          rw [show onL x y (Ls.take (k + 1)) = onL x y (Ls.take k) ++ [m] by unfold onL; rw [hft, if_pos (by simpa using hp)]]
          exact t'
      · have hp : ¬ (m.from_ = x ∧ m.to = y) := fun h => by rw [hbb.2 h] at g; cases g
        unfold F35_k4
        rintro _ rfl
        rw [wrap_succ k _ hk' (by omega)]
        refine ⟨⟨k + 1, rfl, by omega, ?_⟩, less_succ _ _ hk'⟩
        rw [show onL x y (Ls.take (k + 1)) = onL x y (Ls.take k) by unfold onL; rw [hft, if_neg (by simpa using hp), List.append_nil]]
        exact t
    unfold F35_k2
    refine ⟨at0 p, rfl, aL, lL, cL, cL1, q', ea', by omega, by omega, m.from_, hc1 1 _ rfl, br_of (fun g => ⟨at0 p, rfl, aL, lL, cL, cL1, q', ea', by omega, by omega, m.to, hc1 2 _ rfl, k3 _ ?_⟩) (fun g => k3 _ ?_)⟩
    · have g : m.from_ = x := by simpa using g
      rw [beq_iff_eq]
      exact ⟨fun h => ⟨g, h⟩, fun h => h.2⟩
    · have g : ¬ m.from_ = x := by simpa using g
      exact ⟨fun h => (by cases h), fun h => absurd h.1 g⟩
  · have hk' : k = lL := by
      have : ¬ (k : Int) < (lL : Int) := by simpa using g
      omega
    rw [hk', List.take_of_length_le (by omega)] at t
    unfold F35_k5
    exact ⟨a7, l7, c7, rfl, t⟩

theorem refBox_ok {G : Nat → Prop} {h : Heap} {p : Nat} {Ls Bs : List MsgV} (r : RefAt G h p Ls Bs) (x : Int) :
    HEnt Try.prog 39 #[.pointer (some (at0 p)), .int .i64 x] h fun v h' => ∃ a l c, v = .slice a l c ∧ Acc G h h' a l c (onB x Bs) := by
  refine F39_ent _ _ _ _ ?_
  obtain ⟨aL, lL, cL, aB, lB, cB, r⟩ := r
  have hlen := r.sb.len
  have hfew := r.sb.few
  unfold F39
  rintro _ rfl
  refine ⟨fun a l c i h' => ∃ k : Nat, i = k ∧ k ≤ lB ∧ Acc G h h' a l c (onB x (Bs.take k)), fun _ _ _ i _ => ((lB : Int) - i).toNat, ⟨0, rfl, by omega, ⟨Ext.refl h, SlotAt.nil _ _, fun ad e => by cases e⟩⟩, ?_⟩
  rintro h1 a7 l7 c7 _ ⟨k, rfl, hk, t⟩
  have r1 := r.grow t.ext
  have cL1 := (cell_ref r1.net).2
  unfold F39_b1
  refine ⟨at0 p, rfl, aB, lB, cB, cL1, br_of (fun g => ?_) (fun g => ?_)⟩
  · have hk' : k < lB := by
      have : (k : Int) < (lB : Int) := by simpa using g
      omega
    have hm : Bs[k]? = some (Bs[k]'(by omega)) := List.getElem?_eq_getElem _
    generalize Bs[k]'(by omega) = m at hm
    obtain ⟨q', d', es', ea', _, tm, hc', _⟩ := r.sb.get hm
    have hc1 : ∀ j v, (msgCells m d')[j]? = some v → Vc.cell h1 ((q'.add ((k : Int).toNat * 6)).add j) = some v := fun j v hv => by rw [Int.toNat_natCast]; exact t.ext.some (hc' j v hv)
    have hft := filter_take (fun m => decide (m.to = x)) hm
    unfold F39_k2
    refine ⟨at0 p, rfl, aB, lB, cB, cL1, q', ea', by omega, by omega, m.to, hc1 2 _ rfl, br_of (fun g => ?_) (fun g => ?_)⟩
    · have hp : m.to = x := by simpa using g
      refine ⟨at0 p, rfl, aB, lB, cB, cL1, q', ea', by omega, by omega, m.kind, m.from_, m.to, m.txn, m.yes, d'.a, d'.l, d'.c, hc1 0 _ rfl, hc1 1 _ rfl, hc1 2 _ rfl, hc1 3 _ rfl, hc1 4 _ rfl, hc1 5 _ rfl, rfl, rfl, by omega, ?_⟩
      refine Acc.push t r.bound tm ?_ fun a' c' h' t' => ?_
      · have h3 : (onB x (Bs.take k)).length ≤ k := Nat.le_trans (List.length_filter_le _ _) (by rw [List.length_take]; omega)
        omega
      · unfold F39_k3
        rintro _ rfl
        rw [wrap_succ k _ hk' (by omega)]
        refine ⟨⟨k + 1, rfl, by omega, ?_⟩, less_succ _ _ hk'⟩
        rw [show onB x (Bs.take (k + 1)) = onB x (Bs.take k) ++ [m] by unfold onB; rw [hft, if_pos (by simpa using hp)]]
        exact t'
    · have hp : ¬ m.to = x := by simpa using g
      unfold F39_k3
      rintro _ rfl
      rw [wrap_succ k _ hk' (by omega)]
      refine ⟨⟨k + 1, rfl, by omega, ?_⟩, less_succ _ _ hk'⟩
      rw [show onB x (Bs.take (k + 1)) = onB x (Bs.take k) by unfold onB; rw [hft, if_neg (by simpa using hp), List.append_nil]]
      exact t
  · have hk' : k = lB := by
      have : ¬ (k : Int) < (lB : Int) := by simpa using g
      omega
    rw [hk', List.take_of_length_le (by omega)] at t
    unfold F39_k4
    exact ⟨a7, l7, c7, rfl, t⟩

theorem find_ok {G : Nat → Prop} {h : Heap} {p : Nat} {Ls Bs : List MsgV} (r : RefAt G h p Ls Bs) (x y : Int) (hall : ∀ m ∈ Ls, m.from_ = x ∧ m.to = y) :
    HEnt Try.prog 37 #[.pointer (some (at0 p)), .int .i64 x, .int .i64 y, .int .i64 0] h fun v h' => v = .int .i64 (if Ls = [] then -1 else 0) ∧ h' = h := by
  refine F37_ent _ _ _ _ _ _ ?_
  obtain ⟨aL, lL, cL, aB, lB, cB, r⟩ := r
  have hlen := r.sl.len
  unfold F37
  rintro _ rfl _ rfl
  refine ⟨fun s i h' => s = 0 ∧ i = 0 ∧ h' = h, fun _ _ _ => 0, ⟨rfl, rfl, rfl⟩, ?_⟩
  rintro h _ _ ⟨rfl, rfl, rfl⟩
  have cL1 := (cell_ref r.net).1
  unfold F37_b1
  refine ⟨at0 p, rfl, aL, lL, cL, cL1, br_of (fun g => ?_) (fun g => ?_)⟩
  · have hk' : 0 < lL := by
      have : (0 : Int) < (lL : Int) := by simpa using g
      omega
    have hm : Ls[0]? = some (Ls[0]'(by omega)) := List.getElem?_eq_getElem _
    generalize Ls[0]'(by omega) = m at hm
    obtain ⟨q', d', es', ea', _, tm, hc', _⟩ := r.sl.get hm
    have hp := hall m (List.mem_of_getElem? hm)
    unfold F37_k2
    refine ⟨at0 p, rfl, aL, lL, cL, cL1, q', ea', by omega, by omega, m.from_, hc' 1 _ rfl, br_of (fun _ => ⟨at0 p, rfl, aL, lL, cL, cL1, q', ea', by omega, by omega, m.to, hc' 2 _ rfl, ?_⟩) (fun g => by simp [hp.1] at g)⟩
    unfold F37_k3
    refine br_of (fun _ => br_of (fun _ => ?_) (fun g => by cases g)) (fun g => by simp [hp.2] at g)
    have hne : ¬ Ls = [] := fun e => by rw [e] at hm; cases hm
    rw [if_neg hne]
    exact ⟨rfl, rfl⟩
  · have hk' : lL = 0 := by
      have : ¬ (0 : Int) < (lL : Int) := by simpa using g
      omega
    have hne : Ls = [] := List.eq_nil_of_length_eq_zero (by omega)
    unfold F37_k6
    rw [if_pos hne]
    exact ⟨rfl, rfl⟩

theorem without_ok {G : Nat → Prop} {h : Heap} {a : Option Addr} {l c : Nat} {ms : List MsgV} (s : SlotAt G h a l c ms) (hG : ∀ k, G k → k < h.size) (w : Nat) :
    HEnt Try.prog 40 #[.slice a l c, .int .i64 w] h fun v h' => ∃ a' l' c', v = .slice a' l' c' ∧ Acc G h h' a' l' c' (ms.eraseIdx w) := by
  refine F40_ent _ _ _ _ _ _ ?_
  have hlen := s.len
  have hfew := s.few
  unfold F40
  rintro _ rfl
  refine ⟨fun a l' c i h' => ∃ k : Nat, i = k ∧ k ≤ l ∧ Acc G h h' a l' c ((ms.take k).eraseIdx w), fun _ _ _ i _ => ((l : Int) - i).toNat, ⟨0, rfl, by omega, ⟨Ext.refl h, SlotAt.nil _ _, fun ad e => by cases e⟩⟩, ?_⟩
  rintro h1 a7 l7 c7 _ ⟨k, rfl, hk, t⟩
  unfold F40_b1
  refine br_of (fun g => ?_) (fun g => ?_)
  · have hk' : k < l := by
      have : (k : Int) < (l : Int) := by simpa using g
      omega
    have hm : ms[k]? = some (ms[k]'(by omega)) := List.getElem?_eq_getElem _
    generalize ms[k]'(by omega) = m at hm
    obtain ⟨q', d', es', ea', _, tm, hc', _⟩ := s.get hm
    have hc1 : ∀ j v, (msgCells m d')[j]? = some v → Vc.cell h1 ((q'.add ((k : Int).toNat * 6)).add j) = some v := fun j v hv => by rw [Int.toNat_natCast]; exact t.ext.some (hc' j v hv)
    have htl : (ms.take k).length = k := by rw [List.length_take]; omega
    unfold F40_k2
    refine br_of (fun g => ?_) (fun g => ?_)
    · have g : k ≠ w := by
        have : (k : Int) ≠ (w : Int) := by simpa using g
        omega
      refine ⟨q', ea', by omega, by omega, m.kind, m.from_, m.to, m.txn, m.yes, d'.a, d'.l, d'.c, hc1 0 _ rfl, hc1 1 _ rfl, hc1 2 _ rfl, hc1 3 _ rfl, hc1 4 _ rfl, hc1 5 _ rfl, rfl, rfl, by omega, ?_⟩
      refine Acc.push t hG tm ?_ fun a' c' h' t' => ?_
      · have := List.length_eraseIdx_le (ms.take k) w
        omega
      · unfold F40_k3
        rintro _ rfl
        rw [wrap_succ k _ hk' (by omega)]
        refine ⟨⟨k + 1, rfl, by omega, ?_⟩, less_succ _ _ hk'⟩
        have : (ms.take (k + 1)).eraseIdx w = (ms.take k).eraseIdx w ++ [m] := by
          rw [takeR_succ hm]
          by_cases hw : w < k
          · rw [List.eraseIdx_append_of_lt_length (by omega)]
          · rw [List.eraseIdx_of_length_le (by simp; omega), List.eraseIdx_of_length_le (by omega)]
        rw [this]
        exact t'
    · have g : k = w := by
        have : (k : Int) = (w : Int) := by simpa using g
        omega
      unfold F40_k3
      rintro _ rfl
      rw [wrap_succ k _ hk' (by omega)]
      refine ⟨⟨k + 1, rfl, by omega, ?_⟩, less_succ _ _ hk'⟩
      have : (ms.take (k + 1)).eraseIdx w = (ms.take k).eraseIdx w := by
        rw [takeR_succ hm, List.eraseIdx_append_of_length_le (by omega), htl, List.eraseIdx_of_length_le (l := ms.take k) (by omega)]
        simp [g]
      rw [this]
      exact t
  · have hk' : k = l := by
      have : ¬ (k : Int) < (l : Int) := by simpa using g
      omega
    rw [hk', List.take_of_length_le (by omega)] at t
    unfold F40_k4
    exact ⟨a7, l7, c7, rfl, t⟩
end Go.Proofs.Ytnhnioodlciajaa

namespace Go.Vc
set_option linter.unusedVariables false
/-- what was there stays where it was, whatever is appended -/
theorem appK_old {P : Program} {el : TypeId} {n : Nat} {h : Heap} {l c : Nat} {a : Option Addr} {xa : Option Addr} {xl xc : Nat} {rows : List (List Value)} {K K' : Option Addr → Nat → Nat → Heap → Prop} (hs : P.cellsOf el = n) (o : OwnS el n h a l c rows) (H : appK P el h a l c (.slice xa xl xc) K)
    (hK : ∀ a' l' c' h', K a' l' c' h' → (∀ q, a = some q → ∀ k v, k < l * n → cell h (q.add k) = some v → cell h' (q.add k) = some v) → K' a' l' c' h') : appK P el h a l c (.slice xa xl xc) K' := by
  obtain ⟨m, news, src, hin, hgr⟩ := H
  have hnl : news.length = m * n := by
    simp only [srcK] at src
    rw [src.2.1, src.1, hs]
  refine ⟨m, news, src, fun hle => ?_, fun hgt => ?_⟩
  · obtain ⟨h1, h2, h3⟩ := hin hle
    refine ⟨h1, h2, fun h' hput hn => hK _ _ _ _ (h3 h' hput hn) fun q e k v hk hv => ?_⟩
    subst e
    rcases o.own with ⟨e, _⟩ | ⟨b, oo, cs, e, g2, g3, g4⟩
    · cases e
    obtain rfl := Option.some.inj e
    have hp := hput _ rfl
    rw [hs, add_mk, Put] at hp
    have hfit : l * n + m * n ≤ c * n := by rw [← Nat.add_mul]; exact Nat.mul_le_mul_right n hle
    obtain ⟨h5, h6⟩ := setCs_blk news h b (oo + l * n) 0 cs el (0, 0) g2 (by omega)
    rw [← hp] at h5 h6
    rw [Nat.add_zero] at h5
    rw [add_mk, cell_blk g2] at hv
    rw [add_mk, cell_blk h5]
    have hlt : oo + k < (cs.toList.take (oo + l * n)).length := by
      rw [List.length_take, Array.length_toList]
      have := (Array.getElem?_eq_some_iff.1 hv).1
      omega
    rw [List.getElem?_toArray, List.append_assoc, List.getElem?_append_left hlt, List.getElem?_take, if_pos (by omega), Array.getElem?_toList]
    exact hv
  · obtain ⟨olds, h1, h2, h3, h4, h5⟩ := hgr hgt
    refine ⟨olds, h1, h2, h3, h4, fun c' b h' hc hn => hK _ _ _ _ (h5 c' b h' hc hn) fun q e k v hk hv => ?_⟩
    obtain ⟨rfl, rfl⟩ := hn
    exact (Ext.push _ _).some hv
end Go.Vc
namespace Go.Wire
open Go.Vc Go.Packs Go.Proofs Go.Proofs.Ytnhnioodlciajaa
set_option linter.unusedVariables false
theorem onL_all {x y : Int} {ms : List MsgV} (h : ∀ m ∈ ms, m.from_ = x ∧ m.to = y) : onL x y ms = ms := List.filter_eq_self.2 fun m hm => by simpa using h m hm
theorem onB_all {x : Int} {ms : List MsgV} (h : ∀ m ∈ ms, m.to = x) : onB x ms = ms := List.filter_eq_self.2 fun m hm => by simpa using h m hm
def rSend (Ls : List MsgV) (m : MsgV) : Int × List MsgV := if msgC m ≠ 0 then (msgC m, Ls) else if 64 ≤ Ls.length then (7, Ls) else (0, Ls ++ [m])
def rDouble (Ls : List MsgV) : Int × List MsgV := match Ls with
  | [] => (9, Ls)
  | m :: _ => if 64 ≤ Ls.length then (7, Ls) else (0, Ls ++ [m])
def rDeliver (Ls Bs : List MsgV) : Int × List MsgV × List MsgV := match Ls with
  | [] => (9, Ls, Bs)
  | m :: r => if 64 ≤ Bs.length then (7, Ls, Bs) else (0, r, Bs ++ [m])
/-- messages of one's own stay -/
def MK (G : Nat → Prop) (h h' : Heap) : Prop := ∀ m d es, MsgF G h m d es → MsgF G h' m d es
theorem MK.refl (G : Nat → Prop) (h : Heap) : MK G h h := fun _ _ _ t => t
theorem MK.trans {G : Nat → Prop} {a b c : Heap} (x : MK G a b) (y : MK G b c) : MK G a c := fun m d es t => y m d es (x m d es t)
theorem MK.ext {G : Nat → Prop} {h h' : Heap} (x : Ext h h') : MK G h h' := fun m d es t => t.keep' (x.keep (fun _ => False)) (fun _ h => h) (fun _ _ h => h)
theorem MK.less {G G' : Nat → Prop} {h h' : Heap} (x : MK G' h h') (hG : ∀ k, G k → G' k) : MK G h h' := fun m d es t =>
  ⟨(x m d es (t.keep' (Keep.refl (fun _ => False) _) hG (fun _ _ h => h))).twin, t.f1, t.f2, t.l1, t.l2, t.ok⟩
theorem slot_ne {G : Nat → Prop} {h : Heap} {a : Option Addr} {l c : Nat} {ms : List MsgV} (s : SlotAt G h a l c ms) {k : Nat} {cs : Array Value} {t : TypeId} (hk : h[k]? = some (.cells cs t (0, 0))) (ht : t ≠ 24) : ∀ ad, a = some ad → ad.block ≠ k := by
  intro ad ea hs
  obtain ⟨ds, o, _⟩ := s.ex
  obtain ⟨cs', g, _⟩ := o.type_ ea
  rw [hs, hk] at g
  injection g with g; injection g with _ g; exact ht g
theorem RefIn.setL {G : Nat → Prop} {h h' : Heap} {p : Nat} {aL : Option Addr} {lL cL : Nat} {aB : Option Addr} {lB cB : Nat} {Ls Bs : List MsgV} (r : RefIn G h p aL lL cL aB lB cB Ls Bs) (x : Keep (fun k => ((∃ ad, aL = some ad ∧ ad.block = k) ∨ k = p) ∨ h.size ≤ k) h h') {a' : Option Addr} {l' c' : Nat} {Ls' : List MsgV} (hp : h'[p]? = some (.cells #[.slice a' l' c', .slice aB lB cB] 31 (0, 0))) (s : SlotAt (Fx G h h') h' a' l' c' Ls')
    (ha : ∀ ad, a' = some ad → (∃ ad0, aL = some ad0 ∧ ad0.block = ad.block) ∨ (h.size ≤ ad.block ∧ ad.block < h'.size)) : RefIn (Fx G h h') h' p a' l' c' aB lB cB Ls' Bs ∧ Keep G h h' ∧ MK G h h' := by
  have bd : ∀ k cs, h[k]? = some (.cells cs 68 (0, 0)) ∨ h[k]? = some (.cells cs 86 (0, 0)) → ¬ (((∃ ad, aL = some ad ∧ ad.block = k) ∨ k = p) ∨ h.size ≤ k) := by
    intro k cs h2 hs
    have bad : ∀ {t}, h[k]? = some (.cells cs t (0, 0)) → t ≠ 24 → t ≠ 31 → False := by
      intro t hk ht ht2
      rcases hs with (⟨ad, ea, hs⟩ | hs) | hs
      · exact slot_ne r.sl hk ht ad ea hs
      · rw [hs, r.net] at hk
        injection hk with hk; injection hk with _ hk; exact ht2 hk.symm
      · have := blk_lt hk; omega
    exact h2.elim (fun h2 => bad h2 (by decide) (by decide)) (fun h2 => bad h2 (by decide) (by decide))
  refine ⟨⟨hp, s, r.sb.keep x (fun _ h => .inl h) (fun k cs _ h2 => bd k cs h2) (fun ad ea hs => ?_), fun u v eu ev hb => ?_, .inl r.gp, fun k hk => hk.elim (fun hk => Nat.lt_of_lt_of_le (r.bound k hk) x.size) (fun hk => hk.2)⟩, ⟨x.size, fun k hk hg => x.block k hk fun hs => ?_⟩, fun m d es t => t.keep x (fun _ h => h) fun k cs _ h2 => bd k cs h2⟩
  · rcases hs with (⟨ad0, e0, hs⟩ | hs) | hs
    · exact r.apart ad0 ad e0 ea hs
    · exact slot_ne r.sb r.net (by decide) ad ea hs
    · have := r.bound _ (r.sb.f ad ea); omega
  · rcases ha u eu with ⟨ad0, e0, e1⟩ | hx
    · exact r.apart ad0 v e0 ev (e1.trans hb)
    · have := r.bound _ (r.sb.f v ev); omega
  · rcases hs with (⟨ad, ea, hs⟩ | hs) | hs
    · exact hg (hs ▸ r.sl.f ad ea)
    · exact hg (hs ▸ r.gp)
    · omega
theorem RefIn.setB {G : Nat → Prop} {h h' : Heap} {p : Nat} {aL : Option Addr} {lL cL : Nat} {aB : Option Addr} {lB cB : Nat} {Ls Bs : List MsgV} (r : RefIn G h p aL lL cL aB lB cB Ls Bs) (x : Keep (fun k => ((∃ ad, aB = some ad ∧ ad.block = k) ∨ k = p) ∨ h.size ≤ k) h h') {a' : Option Addr} {l' c' : Nat} {Bs' : List MsgV} (hp : h'[p]? = some (.cells #[.slice aL lL cL, .slice a' l' c'] 31 (0, 0))) (s : SlotAt (Fx G h h') h' a' l' c' Bs')
    (ha : ∀ ad, a' = some ad → (∃ ad0, aB = some ad0 ∧ ad0.block = ad.block) ∨ (h.size ≤ ad.block ∧ ad.block < h'.size)) : RefIn (Fx G h h') h' p aL lL cL a' l' c' Ls Bs' ∧ Keep G h h' ∧ MK G h h' := by
  have bd : ∀ k cs, h[k]? = some (.cells cs 68 (0, 0)) ∨ h[k]? = some (.cells cs 86 (0, 0)) → ¬ (((∃ ad, aB = some ad ∧ ad.block = k) ∨ k = p) ∨ h.size ≤ k) := by
    intro k cs h2 hs
    have bad : ∀ {t}, h[k]? = some (.cells cs t (0, 0)) → t ≠ 24 → t ≠ 31 → False := by
      intro t hk ht ht2
      rcases hs with (⟨ad, ea, hs⟩ | hs) | hs
      · exact slot_ne r.sb hk ht ad ea hs
      · rw [hs, r.net] at hk
        injection hk with hk; injection hk with _ hk; exact ht2 hk.symm
      · have := blk_lt hk; omega
    exact h2.elim (fun h2 => bad h2 (by decide) (by decide)) (fun h2 => bad h2 (by decide) (by decide))
  refine ⟨⟨hp, r.sl.keep x (fun _ h => .inl h) (fun k cs _ h2 => bd k cs h2) (fun ad ea hs => ?_), s, fun u v eu ev hb => ?_, .inl r.gp, fun k hk => hk.elim (fun hk => Nat.lt_of_lt_of_le (r.bound k hk) x.size) (fun hk => hk.2)⟩, ⟨x.size, fun k hk hg => x.block k hk fun hs => ?_⟩, fun m d es t => t.keep x (fun _ h => h) fun k cs _ h2 => bd k cs h2⟩
  · rcases hs with (⟨ad0, e0, hs⟩ | hs) | hs
    · exact r.apart ad ad0 ea e0 hs.symm
    · exact slot_ne r.sl r.net (by decide) ad ea hs
    · have := r.bound _ (r.sl.f ad ea); omega
  · rcases ha v ev with ⟨ad0, e0, e1⟩ | hx
    · exact r.apart u ad0 eu e0 (hb.trans e1.symm)
    · have := r.bound _ (r.sl.f u eu); omega
  · rcases hs with (⟨ad, ea, hs⟩ | hs) | hs
    · exact hg (hs ▸ r.sb.f ad ea)
    · exact hg (hs ▸ r.gp)
    · omega
end Go.Wire
namespace Go.Proofs.Ytnhnioodlciajaa
open Go.Vc Go.Sha Go.Trail Go.Packs Go.Wire
set_option linter.unusedVariables false

/-- a message is put behind the link's -/
theorem ref_push {G : Nat → Prop} {h : Heap} {p : Nat} {aL : Option Addr} {lL cL : Nat} {aB : Option Addr} {lB cB : Nat} {Ls Bs : List MsgV} (r : RefIn G h p aL lL cL aB lB cB Ls Bs) {m : MsgV} {d : Hdr} {es : List Hdr} (tm : MsgF G h m d es) (room : Ls.length < 64) {Kk : Heap → Prop} {Rl : Heap → Heap → Prop} (hx : ∀ h', Ext h h' → Rl h h') (happ : ∀ h1 h2, Ext h h1 → Keep (fun k => (∃ ad, aL = some ad ∧ ad.block = k) ∨ h1.size ≤ k) h1 h2 → (∀ q, aL = some q → ∀ k v, k < lL * 6 → Vc.cell h1 (q.add k) = some v → Vc.cell h2 (q.add k) = some v) → Rl h1 h2)
    (hK : ∀ h', RefAt (Fx G h h') h' p (Ls ++ [m]) Bs → Keep G h h' → MK G h h' → Kk h') :
    newK h (.cells (msgCells m d).toArray 24) fun b h1 => Rl h h1 ∧ appK Try.prog 24 h1 aL lL cL (.slice (some (at0 b)) 1 1) fun a l c h2 => Rl h1 h2 ∧ ∃ q27 : Addr, (some (at0 p) : Option Addr) = some q27 ∧ storeK 1 h2 (q27.add 0) (.slice a l c) fun h3 => True ∧ Kk h3 := by
  refine newK_intro fun h1 n1 x1 e1 => ⟨hx h1 x1, ?_⟩
  have hp := r.bound p r.gp
  have hpL : ∀ ad, aL = some ad → ad.block ≠ p := slot_ne r.sl r.net (by decide)
  have tm1 : MsgF G h1 m d es := tm.keep' (x1.keep (fun _ => False)) (fun _ h => h) (fun _ _ h => h)
  have sl1 : SlotAt G h1 aL lL cL Ls := r.sl.keep' (x1.keep (fun _ => False)) (fun _ h => h) (fun _ _ h => h)
  obtain ⟨ds1, os1, _, _⟩ := sl1.ex
  refine appK_old (K := fun a l c h2 => (l = lL + 1 ∧ SlotAt (Fx G h1 h2) h2 a l c (Ls ++ [m])) ∧ Keep (fun k => (∃ ad, aL = some ad ∧ ad.block = k) ∨ h1.size ≤ k) h1 h2 ∧ ∀ ad, a = some ad → (∃ ad0, aL = some ad0 ∧ ad0.block = ad.block) ∨ (h1.size ≤ ad.block ∧ ad.block < h2.size)) size24 os1 (SlotAt.pushP sl1 tm1 room n1 fun a' c' h2 sl2 k2 ha => ⟨⟨rfl, sl2⟩, k2, ha⟩) ?_
  rintro a' l' c' h2 ⟨⟨rfl, sl2⟩, k2, ha⟩ hold
  refine ⟨happ h1 h2 x1 k2 hold, at0 p, rfl, ?_⟩
  have z1 := x1.size
  have z2 := k2.size
  have hp2 : h2[p]? = some (.cells #[.slice aL lL cL, .slice aB lB cB] 31 (0, 0)) := k2.blk (x1.blk r.net) (fun hs => hs.elim (fun ⟨ad, ea, hs⟩ => hpL ad ea hs) (fun hs => by omega))
  rw [add_at0]
  refine storeK_one hp2 (Nat.le_of_ble_eq_true rfl) (.inr (Nat.zero_le _)) rfl fun h3 hp3 on3 => ⟨trivial, ?_⟩
  have z3 := on3.size
  have K : Keep (fun k => ((∃ ad, aL = some ad ∧ ad.block = k) ∨ k = p) ∨ h.size ≤ k) h h3 := ((x1.keep _).trans (k2.mono fun k _ hs => hs.elim (fun hs => .inl (.inl hs)) (fun hs => .inr (by omega)))).trans (on3.keep (.inl (.inr rfl)))
  have sl3 : SlotAt (Fx G h h3) h3 a' (lL + 1) c' (Ls ++ [m]) := sl2.keep (S := (· = p)) (on3.keep rfl) (fun k hk => hk.imp id fun hk => ⟨by omega, by omega⟩) (fun k cs _ h2' hs => by
    have bad : ∀ {t}, h2[k]? = some (.cells cs t (0, 0)) → t ≠ 31 → False := by
      intro t hk ht
      rw [hs, hp2] at hk
      injection hk with hk; injection hk with _ hk; exact ht hk.symm
    exact h2'.elim (fun h => bad h (by decide)) (fun h => bad h (by decide))) (slot_ne sl2 hp2 (by decide))
  obtain ⟨r3, k3, mk3⟩ := r.setL K hp3 sl3 (fun ad ea => (ha ad ea).imp id fun hx => ⟨by omega, by omega⟩)
  exact hK h3 ⟨_, _, _, _, _, _, r3⟩ k3 mk3
/-- .. behind the box's -/
theorem ref_pushB {G : Nat → Prop} {h : Heap} {p : Nat} {aL : Option Addr} {lL cL : Nat} {aB : Option Addr} {lB cB : Nat} {Ls Bs : List MsgV} (r : RefIn G h p aL lL cL aB lB cB Ls Bs) {m : MsgV} {d : Hdr} {es : List Hdr} (tm : MsgF G h m d es) (room : Bs.length < 64) {Kk : Heap → Prop} {Rl : Heap → Heap → Prop} (hx : ∀ h', Ext h h' → Rl h h') (happ : ∀ h1 h2, Ext h h1 → Keep (fun k => (∃ ad, aB = some ad ∧ ad.block = k) ∨ h1.size ≤ k) h1 h2 → Rl h1 h2)
    (hK : ∀ h' a' l' c', RefIn (Fx G h h') h' p aL lL cL a' l' c' Ls (Bs ++ [m]) → Keep G h h' → MK G h h' → Kk h') :
    newK h (.cells (msgCells m d).toArray 24) fun b h1 => Rl h h1 ∧ appK Try.prog 24 h1 aB lB cB (.slice (some (at0 b)) 1 1) fun a l c h2 => Rl h1 h2 ∧ ∃ q27 : Addr, (some (at0 p) : Option Addr) = some q27 ∧ storeK 1 h2 (q27.add 1) (.slice a l c) fun h3 => True ∧ Kk h3 := by
  refine newK_intro fun h1 n1 x1 e1 => ⟨hx h1 x1, ?_⟩
  have hp := r.bound p r.gp
  have hpL : ∀ ad, aB = some ad → ad.block ≠ p := slot_ne r.sb r.net (by decide)
  have tm1 : MsgF G h1 m d es := tm.keep' (x1.keep (fun _ => False)) (fun _ h => h) (fun _ _ h => h)
  have sl1 : SlotAt G h1 aB lB cB Bs := r.sb.keep' (x1.keep (fun _ => False)) (fun _ h => h) (fun _ _ h => h)
  refine SlotAt.pushP sl1 tm1 room n1 fun a' c' h2 sl2 k2 ha => ⟨happ h1 h2 x1 k2, at0 p, rfl, ?_⟩
  have z1 := x1.size
  have z2 := k2.size
  have hp2 : h2[p]? = some (.cells #[.slice aL lL cL, .slice aB lB cB] 31 (0, 0)) := k2.blk (x1.blk r.net) (fun hs => hs.elim (fun ⟨ad, ea, hs⟩ => hpL ad ea hs) (fun hs => by omega))
  rw [add_at0]
  refine storeK_one hp2 (Nat.le_of_ble_eq_true rfl) (.inr (Nat.zero_le _)) rfl fun h3 hp3 on3 => ⟨trivial, ?_⟩
  have z3 := on3.size
  have K : Keep (fun k => ((∃ ad, aB = some ad ∧ ad.block = k) ∨ k = p) ∨ h.size ≤ k) h h3 := ((x1.keep _).trans (k2.mono fun k _ hs => hs.elim (fun hs => .inl (.inl hs)) (fun hs => .inr (by omega)))).trans (on3.keep (.inl (.inr rfl)))
  have sl3 : SlotAt (Fx G h h3) h3 a' (lB + 1) c' (Bs ++ [m]) := sl2.keep (S := (· = p)) (on3.keep rfl) (fun k hk => hk.imp id fun hk => ⟨by omega, by omega⟩) (fun k cs _ h2' hs => by
    have bad : ∀ {t}, h2[k]? = some (.cells cs t (0, 0)) → t ≠ 31 → False := by
      intro t hk ht
      rw [hs, hp2] at hk
      injection hk with hk; injection hk with _ hk; exact ht hk.symm
    exact h2'.elim (fun h => bad h (by decide)) (fun h => bad h (by decide))) (slot_ne sl2 hp2 (by decide))
  obtain ⟨r3, k3, mk3⟩ := r.setB K hp3 sl3 (fun ad ea => (ha ad ea).imp id fun hx => ⟨by omega, by omega⟩)
  exact hK h3 _ _ _ r3 k3 mk3

theorem refSend_ok {G : Nat → Prop} {h : Heap} {p : Nat} {Ls Bs : List MsgV} (r : RefAt G h p Ls Bs) {m : MsgV} {d : Hdr} {es : List Hdr} (tm : MsgF G h m d es) (hall : ∀ x ∈ Ls, x.from_ = m.from_ ∧ x.to = m.to) :
    HEnt Try.prog 13 #[.pointer (some (at0 p)), .agg (msgCells m d).toArray] h fun v h' => v = .int .i64 (rSend Ls m).1 ∧ RefAt (Fx G h h') h' p (rSend Ls m).2 Bs ∧ Keep G h h' ∧ MK G h h' := by
  refine F13_ent _ _ _ _ _ _ _ _ _ _ _ ?_
  have stay : ∀ h', Ext h h' → RefAt (Fx G h h') h' p Ls Bs := fun h' x => r.keep (x.keep (fun _ => False)) (fun _ _ h => h) (fun _ h => .inl h) (fun k hk => hk.elim (fun hk => Nat.lt_of_lt_of_le (r.bound k hk) x.size) (fun hk => hk.2))
  unfold F13
  refine (St.start h).new fun b3 h1 s1 _ _ => ?_
  have tmK : ∀ {h' : Heap}, Ext h h' → MsgF G h' m d es := fun x => tm.keep' (x.keep (fun _ => False)) (fun _ h => h) (fun _ _ h => h)
  refine ⟨m.kind, m.from_, m.to, m.txn, m.yes, d.a, d.l, d.c, s1.cell 0 rfl rfl, s1.cell 0 rfl rfl, s1.cell 0 rfl rfl, s1.cell 0 rfl rfl, s1.cell 0 rfl rfl, s1.cell 0 rfl rfl, rfl, HEnt.use (refCheck_ok m d es h1 (tmK s1.ext).packs (by have := tm.l1; omega)) ?_⟩
  rintro _ h2 ⟨rfl, x2⟩
  have s2 := s1.grow x2
  refine ⟨_, rfl, br_of (fun g => ?_) (fun g => ?_)⟩
  · have g : msgC m ≠ 0 := fun e => by rw [e] at g; simp at g
    have hv : rSend Ls m = ((msgC m : Int), Ls) := if_pos g
    rw [hv]
    exact ⟨rfl, stay _ s2.ext, s2.ext.keep _, MK.ext s2.ext⟩
  have g : ¬ msgC m ≠ 0 := fun e => e (by simpa using g)
  unfold F13_k1
  refine ⟨m.from_, s2.cell 0 rfl rfl, m.to, s2.cell 0 rfl rfl, HEnt.use (refLink_ok (r.grow s2.ext) m.from_ m.to) ?_⟩
  rintro _ h3 ⟨a3, l3, c3, rfl, t3⟩
  rw [onL_all hall] at t3
  have e3 := t3.sl.len
  have s3 := s2.grow t3.ext
  refine ⟨a3, l3, c3, rfl, br_of (fun g2 => ?_) (fun g2 => ?_)⟩
  · have g2 : 64 ≤ Ls.length := by
      have : (l3 : Int) ≥ 64 := by simpa using g2
      omega
    have hv : rSend Ls m = (7, Ls) := by unfold rSend; rw [if_neg g, if_pos g2]
    rw [hv]
    exact ⟨rfl, stay _ s3.ext, s3.ext.keep _, MK.ext s3.ext⟩
  have g2 : ¬ 64 ≤ Ls.length := by
    have : ¬ (l3 : Int) ≥ 64 := by simpa using g2
    omega
  have hv : rSend Ls m = (0, Ls ++ [m]) := by unfold rSend; rw [if_neg g, if_neg g2]
  rw [hv]
  have rN := r.grow s3.ext
  obtain ⟨aL, lL, cL, aB, lB, cB, r3⟩ := rN
  unfold F13_k2
  have g3 := (s3.at_ 0 _ rfl).2
  have ge3 := (s3.at_ 0 _ rfl).1
  simp only at g3 ge3
  have lp := r3.bound p r3.gp
  have l3 := blk_lt g3
  refine ⟨Keep (fun k => ¬ (k = p ∨ k = b3)), fun h => Keep.refl _ h, fun _ _ _ x y => x.trans y, at0 p, rfl, aL, lL, cL, fun w hw => run_loadCell (cell_ref (hw.blk r3.net (fun n => n (.inl rfl)))).1 Try.underlying29 rfl, m.kind, m.from_, m.to, m.txn, m.yes, d.a, d.l, d.c, fun w hw => run_loadAgg (hw.blk g3 (fun n => n (.inr rfl))) Try.underlying24 rfl (by show 6 = Try.prog.cellsOf 24; rw [size24]), rfl, by omega, ?_⟩
  refine ref_push r3 (tmK s3.ext) (by omega) (fun h' x => x.keep _) (fun h1 h2 x k _ => k.mono fun j _ hs n => ?_) (Kk := fun h' => (fun (v : Value) (h' : Heap) => v = .int .i64 ((0, Ls ++ [m]) : Int × List MsgV).1 ∧ RefAt (Fx G h h') h' p ((0, Ls ++ [m]) : Int × List MsgV).2 Bs ∧ Keep G h h' ∧ MK G h h') (.int .i64 0) h') fun h' rr kk mk => ?_
  · rcases hs with ⟨ad, ea, hs⟩ | hs
    · rcases n with n | n
      · exact slot_ne r3.sl r3.net (by decide) ad ea (hs.trans n)
      · have := r.bound _ (r3.sl.f ad ea); omega
    · have := x.size; rcases n with n | n <;> omega
  have z3 := s3.ext.size
  have zk := kk.size
  exact ⟨rfl, rr.keep (Keep.refl (fun _ => False) _) (fun _ _ h => h) (fun k hk => hk.imp id fun hk => ⟨by omega, hk.2⟩) (fun k hk => hk.elim (fun hk => by have := r.bound k hk; omega) (fun hk => hk.2)), Keep.after s3.ext kk, (MK.ext s3.ext).trans mk⟩

theorem refDouble_ok {G : Nat → Prop} {h : Heap} {p : Nat} {Ls Bs : List MsgV} (r : RefAt G h p Ls Bs) (f t : Int) (hall : ∀ x ∈ Ls, x.from_ = f ∧ x.to = t) :
    HEnt Try.prog 15 #[.pointer (some (at0 p)), .int .i64 f, .int .i64 t, .int .i64 0] h fun v h' => v = .int .i64 (rDouble Ls).1 ∧ RefAt (Fx G h h') h' p (rDouble Ls).2 Bs ∧ Keep G h h' ∧ MK G h h' := by
  refine F15_ent _ _ _ _ _ _ ?_
  have stay : ∀ h', Ext h h' → RefAt (Fx G h h') h' p Ls Bs := fun h' x => r.keep (x.keep (fun _ => False)) (fun _ _ h => h) (fun _ h => .inl h) (fun k hk => hk.elim (fun hk => Nat.lt_of_lt_of_le (r.bound k hk) x.size) (fun hk => hk.2))
  unfold F15
  refine HEnt.use (find_ok r f t hall) ?_
  rintro _ h ⟨rfl, rfl⟩
  by_cases hne : Ls = []
  · have hv : rDouble Ls = (9, Ls) := by rw [hne]; rfl
    rw [hv, if_pos hne]
    exact ⟨_, rfl, br_of (fun _ => ⟨rfl, stay _ (Ext.refl _), Keep.refl _ _, MK.refl _ _⟩) (fun g => by simp at g)⟩
  obtain ⟨m, rest, hLs⟩ : ∃ m rest, Ls = m :: rest := by
    cases Ls with
    | nil => exact absurd rfl hne
    | cons m rest => exact ⟨m, rest, rfl⟩
  rw [if_neg hne]
  refine ⟨_, rfl, br_of (fun g => by simp at g) (fun _ => ?_)⟩
  unfold F15_k1
  refine HEnt.use (refLink_ok r f t) ?_
  rintro _ h3 ⟨a3, l3, c3, rfl, t3⟩
  rw [onL_all hall] at t3
  have e3 := t3.sl.len
  have hv : rDouble Ls = if 64 ≤ Ls.length then (7, Ls) else (0, Ls ++ [m]) := by rw [hLs]; rfl
  rw [hv]
  refine ⟨a3, l3, c3, rfl, br_of (fun g => ?_) (fun g => ?_)⟩
  · have g : 64 ≤ Ls.length := by
      have : (l3 : Int) ≥ 64 := by simpa using g
      omega
    rw [if_pos g]
    exact ⟨rfl, stay _ t3.ext, t3.ext.keep _, MK.ext t3.ext⟩
  have g : ¬ 64 ≤ Ls.length := by
    have : ¬ (l3 : Int) ≥ 64 := by simpa using g
    omega
  rw [if_neg g]
  have rN := r.grow t3.ext
  obtain ⟨aL, lL, cL, aB, lB, cB, r3⟩ := rN
  have hm : Ls[0]? = some m := by rw [hLs]; rfl
  obtain ⟨q, d, es, ea, hlt, tm, hc, hw⟩ := r3.sl.get hm
  unfold F15_k2
  have lp := r3.bound p r3.gp
  refine ⟨fun x y => x.size ≤ y.size ∧ (∀ o, x[p]? = some o → y[p]? = some o) ∧ ∀ k v, k < lL * 6 → Vc.cell x (q.add k) = some v → Vc.cell y (q.add k) = some v, fun h => ⟨Nat.le_refl _, fun _ h => h, fun _ _ _ h => h⟩, fun _ _ _ x y => ⟨Nat.le_trans x.1 y.1, fun o ho => y.2.1 o (x.2.1 o ho), fun k v hk hv => y.2.2 k v hk (x.2.2 k v hk hv)⟩, at0 p, rfl, aL, lL, cL, fun w hw => run_loadCell (cell_ref (hw.2.1 _ r3.net)).1 Try.underlying29 rfl, at0 p, rfl, aL, lL, cL, fun w hw => run_loadCell (cell_ref (hw.2.1 _ r3.net)).1 Try.underlying29 rfl, q, ea, by omega, by omega, m.kind, m.from_, m.to, m.txn, m.yes, d.a, d.l, d.c, fun w hw => ?_, rfl, by omega, ?_⟩
  · have hq0 : q.add ((0 : Int).toNat * 6) = q := by unfold Addr.add; exact if_pos rfl
    have hcw : CellsAt w.heap q (msgCells m d) := fun j v hv => by
      have hj : j < 6 := (List.getElem?_eq_some_iff.1 hv).1
      refine hw.2.2 j v (by omega) ?_
      have := hc j v hv
      rw [show q.add (0 * 6) = q from hq0] at this
      exact this
    have hr := run_cells (P := Try.prog) hcw
    have h6 : (msgCells m d).length = Try.prog.cellsOf 24 := by show 6 = _; rw [size24]
    rw [h6] at hr
    rw [hq0]
    unfold loadVar
    simp [Sem.run_bind, run_isAgg_true Try.underlying24 rfl, run_size Try.underlying24, hr]
    rfl
  refine ref_push r3 tm (by omega) (Rl := fun x y => x.size ≤ y.size ∧ (∀ o, x[p]? = some o → y[p]? = some o) ∧ ∀ k v, k < lL * 6 → Vc.cell x (q.add k) = some v → Vc.cell y (q.add k) = some v) (fun h' x => ⟨x.size, fun o ho => x.blk ho, fun k v _ hv => x.some hv⟩) (fun h1 h2 x k hold => ⟨k.size, fun o ho => k.blk ho fun hs => ?_, fun j v hj hv => hold q ea j v hj hv⟩) (Kk := fun h' => (fun (v : Value) (h' : Heap) => v = .int .i64 ((0, Ls ++ [m]) : Int × List MsgV).1 ∧ RefAt (Fx G h h') h' p ((0, Ls ++ [m]) : Int × List MsgV).2 Bs ∧ Keep G h h' ∧ MK G h h') (.int .i64 0) h') fun h' rr kk mk => ?_
  · rcases hs with ⟨ad, ea, hs⟩ | hs
    · exact slot_ne r3.sl r3.net (by decide) ad ea hs
    · have := x.size; omega
  have z3 := t3.ext.size
  have zk := kk.size
  exact ⟨rfl, rr.keep (Keep.refl (fun _ => False) _) (fun _ _ h => h) (fun k hk => hk.imp id fun hk => ⟨by omega, hk.2⟩) (fun k hk => hk.elim (fun hk => by have := r.bound k hk; omega) (fun hk => hk.2)), Keep.after t3.ext kk, (MK.ext t3.ext).trans mk⟩

theorem refDeliver_ok {G : Nat → Prop} {h : Heap} {p : Nat} {Ls Bs : List MsgV} (r : RefAt G h p Ls Bs) (f t : Int) (hall : ∀ x ∈ Ls, x.from_ = f ∧ x.to = t) (hallB : ∀ x ∈ Bs, x.to = t) :
    HEnt Try.prog 17 #[.pointer (some (at0 p)), .int .i64 f, .int .i64 t, .int .i64 0] h fun v h' => v = .int .i64 (rDeliver Ls Bs).1 ∧ RefAt (Fx G h h') h' p (rDeliver Ls Bs).2.1 (rDeliver Ls Bs).2.2 ∧ Keep G h h' ∧ MK G h h' := by
  refine F17_ent _ _ _ _ _ _ ?_
  have stay : ∀ h', Ext h h' → RefAt (Fx G h h') h' p Ls Bs := fun h' x => r.keep (x.keep (fun _ => False)) (fun _ _ h => h) (fun _ h => .inl h) (fun k hk => hk.elim (fun hk => Nat.lt_of_lt_of_le (r.bound k hk) x.size) (fun hk => hk.2))
  unfold F17
  refine HEnt.use (find_ok r f t hall) ?_
  rintro _ h ⟨rfl, rfl⟩
  by_cases hne : Ls = []
  · have hv : rDeliver Ls Bs = (9, Ls, Bs) := by rw [hne]; rfl
    rw [hv, if_pos hne]
    exact ⟨_, rfl, br_of (fun _ => ⟨rfl, stay _ (Ext.refl _), Keep.refl _ _, MK.refl _ _⟩) (fun g => by simp at g)⟩
  obtain ⟨m, rest, hLs⟩ : ∃ m rest, Ls = m :: rest := by
    cases Ls with
    | nil => exact absurd rfl hne
    | cons m rest => exact ⟨m, rest, rfl⟩
  rw [if_neg hne]
  refine ⟨_, rfl, br_of (fun g => by simp at g) (fun _ => ?_)⟩
  unfold F17_k1
  refine HEnt.use (refBox_ok r t) ?_
  rintro _ h3 ⟨a3, l3, c3, rfl, t3⟩
  rw [onB_all hallB] at t3
  have e3 := t3.sl.len
  have hv : rDeliver Ls Bs = if 64 ≤ Bs.length then (7, Ls, Bs) else (0, rest, Bs ++ [m]) := by rw [hLs]; rfl
  rw [hv]
  refine ⟨a3, l3, c3, rfl, br_of (fun g => ?_) (fun g => ?_)⟩
  · have g : 64 ≤ Bs.length := by
      have : (l3 : Int) ≥ 64 := by simpa using g
      omega
    rw [if_pos g]
    exact ⟨rfl, stay _ t3.ext, t3.ext.keep _, MK.ext t3.ext⟩
  have g : ¬ 64 ≤ Bs.length := by
    have : ¬ (l3 : Int) ≥ 64 := by simpa using g
    omega
  rw [if_neg g]
  have rN := r.grow t3.ext
  obtain ⟨aL, lL, cL, aB, lB, cB, r3⟩ := rN
  have hm : Ls[0]? = some m := by rw [hLs]; rfl
  obtain ⟨q, d, es, ea, hlt, tm, hc, hw⟩ := r3.sl.get hm
  unfold F17_k2
  have lp := r3.bound p r3.gp
  have lq : q.block < h3.size := r3.bound _ (r3.sl.f q ea)
  refine ⟨Keep (fun k => ¬ (k = p ∨ k = q.block)), fun h => Keep.refl _ h, fun _ _ _ x y => x.trans y, at0 p, rfl, aB, lB, cB, fun w hw => run_loadCell (cell_ref (hw.blk r3.net (fun n => n (.inl rfl)))).2 Try.underlying29 rfl, at0 p, rfl, aL, lL, cL, fun w hw => run_loadCell (cell_ref (hw.blk r3.net (fun n => n (.inl rfl)))).1 Try.underlying29 rfl, q, ea, by omega, by omega, m.kind, m.from_, m.to, m.txn, m.yes, d.a, d.l, d.c, fun w hw2 => ?_, rfl, by omega, ?_⟩
  · have hcw : CellsAt w.heap (q.add ((0 : Int).toNat * 6)) (msgCells m d) := fun j v hv => by
      have h1 := hc j v hv
      have hbk : ∀ k, (q.add k).block = q.block := fun k => by unfold Addr.add; split <;> rfl
      have hbk2 : ∀ k j, ((q.add k).add j).block = q.block := fun k j => by
        have : ∀ (a : Addr) (k : Nat), (a.add k).block = a.block := fun a k => by unfold Addr.add; split <;> rfl
        rw [this, this]
      have h2 := hw2.block q.block lq (fun n => n (.inr rfl))
      show Vc.cell w.heap ((q.add (0 * 6)).add j) = some v
      rw [← h1]
      simp only [Vc.cell, hbk2, h2]
    have hr := run_cells (P := Try.prog) hcw
    have h6 : (msgCells m d).length = Try.prog.cellsOf 24 := by show 6 = _; rw [size24]
    rw [h6] at hr
    unfold loadVar
    simp only [Sem.run_bind, run_isAgg_true Try.underlying24 rfl, Result.andThen_ok, if_true, run_size Try.underlying24, hr, Sem.run_pure]
    rfl
  refine ref_pushB r3 tm (by omega) (fun h' x => x.keep _) (fun h1 h2 x k => k.mono fun j _ hs n => ?_) fun h4 a4 l4 c4 r4 k4 mk4 => ?_
  · rcases hs with ⟨ad, eb, hs⟩ | hs
    · rcases n with n | n
      · exact slot_ne r3.sb r3.net (by decide) ad eb (hs.trans n)
      · exact r3.apart q ad ea eb (hs.trans n).symm
    · have := x.size; rcases n with n | n <;> omega
  refine ⟨at0 p, rfl, aL, lL, cL, (cell_ref r4.net).1, HEnt.use (without_ok r4.sl r4.bound 0) ?_⟩
  rintro _ h5 ⟨a5, l5, c5, rfl, t5⟩
  have r5 := r4.grow t5.ext
  refine ⟨a5, l5, c5, rfl, at0 p, rfl, ?_⟩
  rw [add_at0]
  refine storeK_one r5.net (Nat.le_of_ble_eq_true rfl) (.inr (Nat.zero_le _)) rfl fun h6 hp6 on6 => ?_
  have z3 := t3.ext.size
  have z4 := k4.size
  have z5 := t5.ext.size
  have z6 := on6.size
  have K : Keep (fun k => ((∃ ad, aL = some ad ∧ ad.block = k) ∨ k = p) ∨ h4.size ≤ k) h4 h6 := (t5.ext.keep _).trans (on6.keep (.inl (.inr rfl)))
  have sl6 : SlotAt (Fx (Fx G h3 h4) h4 h6) h6 a5 l5 c5 rest := by
    have e : Ls.eraseIdx 0 = rest := by rw [hLs]; rfl
    have s5 := t5.sl
    rw [e] at s5
    exact s5.keep (S := (· = p)) (on6.keep rfl) (fun k hk => hk.imp id fun hk => ⟨hk.1, by omega⟩) (fun k cs _ h2' hs => by
      have bad : ∀ {t}, h5[k]? = some (.cells cs t (0, 0)) → t ≠ 31 → False := by
        intro t hk ht
        rw [hs, r5.net] at hk
        injection hk with hk; injection hk with _ hk; exact ht hk.symm
      exact h2'.elim (fun h => bad h (by decide)) (fun h => bad h (by decide))) (slot_ne s5 r5.net (by decide))
  obtain ⟨r6, k6, mk6⟩ := r4.setL K hp6 sl6 (fun ad ea => .inr ⟨t5.new ad ea, by
    obtain ⟨ds, o, _⟩ := t5.sl.ex
    obtain ⟨cs', g, _⟩ := o.type_ ea
    have := blk_lt g; omega⟩)
  refine ⟨rfl, RefAt.keep ⟨_, _, _, _, _, _, r6⟩ (Keep.refl (fun _ => False) _) (fun _ _ h => h) (fun k hk => ?_) (fun k hk => hk.elim (fun hk => by have := r.bound k hk; omega) (fun hk => hk.2)), Keep.after t3.ext (Keep.thenFx k4 k6), ((MK.ext t3.ext).trans mk4).trans (mk6.less fun _ h => .inl h)⟩
  rcases hk with (hk | hk) | hk
  · exact .inl hk
  · exact .inr ⟨by omega, by omega⟩
  · exact .inr ⟨by omega, hk.2⟩
end Go.Proofs.Ytnhnioodlciajaa

namespace Go.Vc
set_option linter.unusedVariables false
/-- behind B just ints have turned -/
structure IW (B : Nat) (h h' : Heap) : Prop where
  size : h.size ≤ h'.size
  low : ∀ k, k < B → h'[k]? = h[k]?
  blk : ∀ (k : Nat) (cs : Array Value) (t : TypeId), h[k]? = some (.cells cs t (0, 0)) → ∃ cs', h'[k]? = some (.cells cs' t (0, 0)) ∧ ∀ (j : Nat) (v : Value), cs[j]? = some v → cs'[j]? = some v ∨ ∃ x y, v = .int .i64 x ∧ cs'[j]? = some (.int .i64 y)
theorem IW.refl (B : Nat) (h : Heap) : IW B h h := ⟨Nat.le_refl _, fun _ _ => rfl, fun _ cs _ hk => ⟨cs, hk, fun _ _ hv => .inl hv⟩⟩
theorem IW.ext {B : Nat} {h h' : Heap} (x : Ext h h') (hB : B ≤ h.size) : IW B h h' := ⟨x.size, fun k hk => x.block k (by omega), fun _ cs _ hk => ⟨cs, x.blk hk, fun _ _ hv => .inl hv⟩⟩
theorem IW.trans {B : Nat} {a b c : Heap} (x : IW B a b) (y : IW B b c) : IW B a c := by
  refine ⟨Nat.le_trans x.size y.size, fun k hk => (y.low k hk).trans (x.low k hk), fun k cs t hk => ?_⟩
  obtain ⟨cs1, h1, g1⟩ := x.blk k cs t hk
  obtain ⟨cs2, h2, g2⟩ := y.blk k cs1 t h1
  refine ⟨cs2, h2, fun j v hv => ?_⟩
  rcases g1 j v hv with h3 | ⟨u, w, rfl, h3⟩
  · exact g2 j v h3
  · rcases g2 j _ h3 with h4 | ⟨u', w', _, h4⟩
    · exact .inr ⟨u, w, rfl, h4⟩
    · exact .inr ⟨u, w', rfl, h4⟩
theorem IW.keep {B : Nat} {h h' : Heap} (x : IW B h h') : Keep (B ≤ ·) h h' := ⟨x.size, fun k _ hs => x.low k (by omega)⟩
theorem IW.back {B : Nat} {h h' : Heap} (x : IW B h h') (hB : h.size ≤ B) : Ext h h' := ⟨x.size, fun k hk => x.low k (by omega)⟩
/-- an int, and what is no int, behind B -/
def IntB (B : Nat) (h : Heap) (b o : Nat) : Prop := B ≤ b ∧ ∃ cs t x, h[b]? = some (.cells cs t (0, 0)) ∧ cs[o]? = some (.int .i64 x)
def SlB (B : Nat) (h : Heap) (b o : Nat) (v : Value) : Prop := B ≤ b ∧ ∃ cs t, h[b]? = some (.cells cs t (0, 0)) ∧ cs[o]? = some v
theorem IntB.iw {B b o : Nat} {h h' : Heap} (i : IntB B h b o) (x : IW B h h') : IntB B h' b o := by
  obtain ⟨hb, cs, t, z, h1, h2⟩ := i
  obtain ⟨cs', h3, h4⟩ := x.blk _ _ _ h1
  rcases h4 _ _ h2 with h5 | ⟨u, w, _, h5⟩
  · exact ⟨hb, cs', t, z, h3, h5⟩
  · exact ⟨hb, cs', t, w, h3, h5⟩
theorem SlB.iw {B b o : Nat} {h h' : Heap} {v : Value} (i : SlB B h b o v) (x : IW B h h') (hv : ∀ z, v ≠ .int .i64 z) : SlB B h' b o v := by
  obtain ⟨hb, cs, t, h1, h2⟩ := i
  obtain ⟨cs', h3, h4⟩ := x.blk _ _ _ h1
  rcases h4 _ _ h2 with h5 | ⟨u, w, e, _⟩
  · exact ⟨hb, cs', t, h3, h5⟩
  · exact absurd e (hv u)
theorem IntB.cell {B b o : Nat} {h : Heap} (i : IntB B h b o) : ∃ x, Vc.cell h ⟨b, o, none⟩ = some (.int .i64 x) := by
  obtain ⟨hb, cs, t, z, h1, h2⟩ := i
  exact ⟨z, by rw [cell_blk h1]; exact h2⟩
theorem SlB.cell {B b o : Nat} {h : Heap} {v : Value} (i : SlB B h b o v) : Vc.cell h ⟨b, o, none⟩ = some v := by
  obtain ⟨hb, cs, t, h1, h2⟩ := i
  rw [cell_blk h1]; exact h2
theorem IntB.store {B b o : Nat} {h : Heap} {y : Int} {K : Heap → Prop} (i : IntB B h b o) (hK : ∀ h', IW B h h' → K h') : storeK 1 h ⟨b, o, none⟩ (.int .i64 y) K := by
  obtain ⟨hb, cs, t, z, h1, h2⟩ := i
  refine storeK_one h1 (Array.getElem?_eq_some_iff.1 h2).1 (.inr (Nat.zero_le _)) rfl fun h' g on => hK h' ⟨Nat.le_of_eq on.size.symm, fun k hk => on.block k (by omega), fun k cs' t' hk => ?_⟩
  by_cases hkb : k = b
  · subst hkb
    rw [h1] at hk; cases hk
    refine ⟨_, g, fun j v hv => ?_⟩
    rw [Array.getElem?_setIfInBounds]
    by_cases hj : o = j
    · subst hj
      rw [h2] at hv; cases hv
      rw [if_pos rfl, if_pos (Array.getElem?_eq_some_iff.1 h2).1]
      exact .inr ⟨z, y, rfl, rfl⟩
    · rw [if_neg hj]; exact .inl hv
  · exact ⟨cs', (on.block k hkb).trans hk, fun _ _ hv => .inl hv⟩
theorem OwnR.ats {el : TypeId} {n : Nat} {h0 h : Heap} {a : Option Addr} {l c : Nat} {rows : List (List Value)} (o : OwnR el n h0 h a l c rows) {i j : Nat} {r : List Value} {v : Value} (hi : rows[i]? = some r) (hj : r[j]? = some v) : ∃ b cs, a = some ⟨b, 0, none⟩ ∧ h0.size ≤ b ∧ h[b]? = some (.cells cs el (0, 0)) ∧ cs[i * n + j]? = some v := by
  have hne : rows ≠ [] := fun e => by rw [e] at hi; cases hi
  obtain ⟨b, oo, e, _, hc⟩ := o.rows.at_ hne
  have := hc i r hi j v hj
  rcases o.own with ⟨e2, _⟩ | ⟨b', cs, e2, g1, g2, _, _⟩
  · rw [e] at e2; cases e2
  · rw [e] at e2; cases e2
    rw [cell_blk g2, Nat.zero_add] at this
    exact ⟨b, cs, e, g1, g2, this⟩
end Go.Vc
namespace Go.Wire
open Go.Vc Go.Packs Go.Proofs Go.Proofs.Ytnhnioodlciajaa
set_option linter.unusedVariables false
/-- packs that may be spoiled -/
def SpAt (B : Nat) (h : Heap) (a : Option Addr) (l : Nat) : Prop := l ≤ 20 ∧ ∀ i, i < l → ∃ b a' l' c', a = some ⟨b, 0, none⟩ ∧ IntB B h b (i * 4) ∧ SlB B h b (i * 4 + 3) (.slice a' l' c') ∧ l' ≤ 20 ∧ ∀ j, j < l' → ∃ b', a' = some ⟨b', 0, none⟩ ∧ IntB B h b' (j * 33 + 32)
theorem SpAt.iw {B : Nat} {h h' : Heap} {a : Option Addr} {l : Nat} (s : SpAt B h a l) (x : IW B h h') : SpAt B h' a l :=
  ⟨s.1, fun i hi => let ⟨b, a', l', c', e, h1, h2, h3, h4⟩ := s.2 i hi; ⟨b, a', l', c', e, h1.iw x, h2.iw x (fun z e => by cases e), h3, fun j hj => let ⟨b', e', h5⟩ := h4 j hj; ⟨b', e', h5.iw x⟩⟩⟩
/-- messages that may be -/
def LSp (B : Nat) (h : Heap) (a : Option Addr) (l : Nat) : Prop := ∀ i, i < l → ∃ b bb a' l' c', a = some ⟨b, 0, none⟩ ∧ IntB B h b (i * 6 + 0) ∧ IntB B h b (i * 6 + 1) ∧ IntB B h b (i * 6 + 2) ∧ IntB B h b (i * 6 + 3) ∧ SlB B h b (i * 6 + 4) (.bool bb) ∧ SlB B h b (i * 6 + 5) (.slice a' l' c') ∧ SpAt B h a' l'
theorem LSp.iw {B : Nat} {h h' : Heap} {a : Option Addr} {l : Nat} (s : LSp B h a l) (x : IW B h h') : LSp B h' a l := fun i hi =>
  let ⟨b, bb, a', l', c', e, h0, h1, h2, h3, h4, h5, h6⟩ := s i hi
  ⟨b, bb, a', l', c', e, h0.iw x, h1.iw x, h2.iw x, h3.iw x, h4.iw x (fun z e => by cases e), h5.iw x (fun z e => by cases e), h6.iw x⟩
theorem TwinAt.spoils {B : Nat} {h0 h : Heap} {e : Hdr} {ps : List PackV} {es : List Hdr} (t : TwinAt h0 h e ps es) (hB : B ≤ h0.size) (l1 : e.l ≤ 20) (l2 : ∀ x ∈ es, x.l ≤ 20) : SpAt B h e.a e.l := by
  refine ⟨l1, fun i hi => ?_⟩
  have hl := t.rows.len
  rw [List.length_zipWith, t.len, Nat.min_self] at hl
  have hp : ps[i]? = some (ps[i]'(by omega)) := List.getElem?_eq_getElem _
  generalize ps[i]'(by omega) = p at hp
  have hd : es[i]? = some (es[i]'(by have := t.len; omega)) := List.getElem?_eq_getElem _
  generalize es[i]'(by have := t.len; omega) = d at hd
  have hr : (List.zipWith PackV.cells ps es)[i]? = some (p.cells d) := by rw [List.getElem?_zipWith, hp, hd]
  obtain ⟨b, cs, ea, g1, g2, g3⟩ := t.rows.ats hr (j := 0) rfl
  obtain ⟨b2, cs2, ea2, _, k2, k3⟩ := t.rows.ats hr (j := 3) rfl
  rw [ea] at ea2; cases ea2
  rw [g2] at k2; cases k2
  have o := t.refs i p d hp hd
  refine ⟨b, d.a, d.l, d.c, ea, ⟨by omega, cs, _, _, g2, g3⟩, ⟨by omega, cs, _, g2, k3⟩, l2 _ (List.mem_of_getElem? hd), fun j hj => ?_⟩
  have hl' := o.len
  rw [List.length_map] at hl'
  have hq : p.refs[j]? = some (p.refs[j]'(by omega)) := List.getElem?_eq_getElem _
  generalize p.refs[j]'(by omega) = q at hq
  have hrow : (p.refs.map RefV.cells)[j]? = some q.cells := by rw [List.getElem?_map, hq]; rfl
  have h33 : q.cells.length = 33 := o.row _ (List.mem_of_getElem? hrow)
  have h32 : q.cells[32]? = some (.int .i64 q.size) := by
    unfold RefV.cells at h33 ⊢
    simp only [List.length_append, List.length_singleton] at h33
    rw [List.getElem?_append_right (by omega), show 32 - (sumCells q.sum).length = 0 by omega]
    rfl
  obtain ⟨b', cs', e', g1', g2', g3'⟩ := o.ats hrow h32
  exact ⟨b', e', by omega, cs', _, _, g2', g3'⟩
theorem Copies.lsp {B : Nat} {h0 h : Heap} {a : Option Addr} {l c : Nat} {ms : List MsgV} (t : Copies h0 h a l c ms) (hB : B ≤ h0.size) : LSp B h a l := by
  intro i hi
  have hlen := t.len
  have hm : ms[i]? = some (ms[i]'(by omega)) := List.getElem?_eq_getElem _
  generalize ms[i]'(by omega) = m at hm
  obtain ⟨ds, o, hds, hms⟩ := t.ex
  have hd : ds[i]? = some (ds[i]'(by omega)) := List.getElem?_eq_getElem _
  generalize ds[i]'(by omega) = d at hd
  obtain ⟨es, tm, l1, l2, ok⟩ := hms _ m d hm hd
  have hr : (List.zipWith msgCells ms ds)[i]? = some (msgCells m d) := by rw [List.getElem?_zipWith, hm, hd]
  obtain ⟨b, cs, ea, g1, g2, g3⟩ := o.ats hr (j := 0) rfl
  have get : ∀ {j v}, (msgCells m d)[j]? = some v → cs[i * 6 + j]? = some v := by
    intro j v hj
    obtain ⟨b2, cs2, ea2, _, k2, k3⟩ := o.ats hr hj
    rw [ea] at ea2; cases ea2
    rw [g2] at k2; cases k2
    exact k3
  exact ⟨b, m.yes, d.a, d.l, d.c, ea, ⟨by omega, cs, _, _, g2, g3⟩, ⟨by omega, cs, _, _, g2, get rfl⟩, ⟨by omega, cs, _, _, g2, get rfl⟩, ⟨by omega, cs, _, _, g2, get rfl⟩, ⟨by omega, cs, _, g2, get rfl⟩, ⟨by omega, cs, _, g2, get rfl⟩, TwinAt.spoils tm hB l1 l2⟩
theorem Copies.rd {h0 h : Heap} {a : Option Addr} {l c : Nat} {ms : List MsgV} (t : Copies h0 h a l c ms) : MsgsRd h a l ms :=
  ⟨t.len, fun i m hm => let ⟨q, d, es, ea, _, hp, l1, l2, hc, _⟩ := Copies.get t hm; ⟨q, d, es, ea, hp, l1, l2, hc⟩⟩
end Go.Wire
namespace Go.Proofs.Ytnhnioodlciajaa
open Go.Vc Go.Sha Go.Trail Go.Packs Go.Wire
set_option linter.unusedVariables false
theorem msg_load {w : World} {q : Addr} {m : MsgV} {d : Hdr} (hc : CellsAt w.heap q (msgCells m d)) : (loadVar 24 q).run Try.prog w = .ok (.agg (msgCells m d).toArray) w := by
  have hr := run_cells (P := Try.prog) hc
  have h6 : (msgCells m d).length = Try.prog.cellsOf 24 := by show 6 = _; rw [size24]
  rw [h6] at hr
  unfold loadVar
  simp only [Sem.run_bind, run_isAgg_true Try.underlying24 rfl, Result.andThen_ok, if_true, run_size Try.underlying24, hr, Sem.run_pure]
theorem all_sameR {h : Heap} {a a' : Option Addr} {l l' c c' : Nat} {ms : List MsgV} (t : MsgsRd h a l ms) (t' : MsgsRd h a' l' ms) (hl : ms.length ≤ 64) :
    HEnt Try.prog 30 #[.slice a l c, .slice a' l' c'] h fun v h' => v = .bool true ∧ Ext h h' := by
  refine F30_ent _ _ _ _ _ _ _ _ ?_
  have e1 := t.len
  have e2 := t'.len
  unfold F30
  refine br_of (fun g => by rw [e1, e2] at g; simp at g) (fun _ => ?_)
  unfold F30_k1
  rintro _ rfl
  refine ⟨fun x h' => ∃ k : Nat, x = k ∧ k ≤ l ∧ Ext h h', fun x _ => ((l : Int) - x).toNat, ⟨0, rfl, by omega, Ext.refl h⟩, ?_⟩
  rintro h1 _ ⟨k, rfl, hk, x1⟩
  unfold F30_b2
  refine br_of (fun g => ?_) (fun _ => ?_)
  · have hk' : k < l := by
      have : (k : Int) < (l : Int) := by simpa using g
      omega
    have hm : ms[k]? = some (ms[k]'(by omega)) := List.getElem?_eq_getElem _
    generalize ms[k]'(by omega) = m at hm
    obtain ⟨q, d, es, ea, hp, l1, l2, hc⟩ := (t.grow x1).get k m hm
    obtain ⟨q', d', es', ea', hp', l1', l2', hc'⟩ := (t'.grow x1).get k m hm
    unfold F30_k3
    refine ⟨Ext, Ext.refl, fun _ _ _ x y => x.trans y, q, ea, by omega, by omega, m.kind, m.from_, m.to, m.txn, m.yes, d.a, d.l, d.c, fun w x => by rw [Int.toNat_natCast]; exact msg_load fun j v hv => x.some (hc j v hv), q', ea', by omega, by omega, m.kind, m.from_, m.to, m.txn, m.yes, d'.a, d'.l, d'.c, fun w x => by rw [Int.toNat_natCast]; exact msg_load fun j v hv => x.some (hc' j v hv), HEnt.use (msg_same m d d' es es' h1 hp hp' (by omega) (fun x hx => by have := l2 x hx; omega)) ?_⟩
    rintro _ h2 ⟨rfl, x2⟩
    refine ⟨true, rfl, trivial, br_of (fun g => by cases g) (fun _ => ?_)⟩
    unfold F30_k4
    rintro _ rfl
    rw [wrap_succ k _ hk' (by omega)]
    exact ⟨⟨k + 1, rfl, by omega, x1.trans x2⟩, less_succ _ _ hk'⟩
  · unfold F30_k5
    exact ⟨rfl, x1⟩

theorem spoil_ok {B : Nat} {h : Heap} {x0 x1 x2 x3 : Int} {b4 : Bool} {a : Option Addr} {l c : Nat} (s : SpAt B h a l) (hB : B ≤ h.size) :
    HEnt Try.prog 41 #[.agg #[.int .i64 x0, .int .i64 x1, .int .i64 x2, .int .i64 x3, .bool b4, .slice a l c]] h fun v h' => v = .tuple #[] ∧ IW B h h' := by
  refine F41_ent _ _ _ _ _ _ _ _ _ _ ?_
  have hl := s.1
  unfold F41
  refine newK_intro fun h1 n1 y1 e1 => ?_
  have w1 := IW.ext y1 hB
  have c5 : ∀ h', IW B h1 h' → Vc.cell h' ((at0 h.size).add 5) = some (.slice a l c) := by
    intro h' w
    have : SlB B h1 h.size 5 (.slice a l c) := ⟨hB, _, _, n1, rfl⟩
    have := (this.iw w (fun z e => by cases e)).cell
    rw [add_at0]; exact this
  refine ⟨a, l, c, c5 h1 (IW.refl _ _), fun x h' => ∃ k : Nat, x = k ∧ k ≤ l ∧ IW B h1 h', fun x _ => ((l : Int) - x).toNat, ⟨0, rfl, by omega, IW.refl _ _⟩, ?_⟩
  rintro h2 _ ⟨k, rfl, hk, w2⟩
  unfold F41_b1
  refine br_of (fun g => ?_) (fun _ => ⟨rfl, w1.trans w2⟩)
  have hk' : k < l := by
    have : (k : Int) < (l : Int) := by simpa using g
    omega
  obtain ⟨b, a', l', c', ea, i0, s3, hl', hin⟩ := ((s.iw w1).iw w2).2 k hk'
  obtain ⟨z, hz⟩ := i0.cell
  unfold F41_k2
  refine ⟨a, l, c, c5 h2 w2, ⟨b, 0, none⟩, ea, by omega, by omega, z, by rw [Int.toNat_natCast, add_mk, add_mk, Nat.zero_add]; exact hz, ⟨b, 0, none⟩, ea, by omega, by omega, ?_⟩
  rw [Int.toNat_natCast, add_mk, add_mk, Nat.zero_add, Nat.add_zero]
  refine i0.store fun h3 w3 => ?_
  have w13 := w2.trans w3
  refine ⟨a, l, c, c5 h3 w13, ⟨b, 0, none⟩, ea, by omega, by omega, a', l', c', ?_, ?_⟩
  · rw [add_mk, add_mk, add_mk, Nat.zero_add]
    exact (s3.iw w3 (fun z e => by cases e)).cell
  refine ⟨fun x h' => ∃ j : Nat, x = j ∧ j ≤ l' ∧ IW B h3 h', fun x _ => ((l' : Int) - x).toNat, ⟨0, rfl, by omega, IW.refl _ _⟩, ?_⟩
  rintro h4 _ ⟨j, rfl, hj, w4⟩
  have w14 := w13.trans w4
  have s34 := (s3.iw w3 (fun z e => by cases e)).iw w4 (fun z e => by cases e)
  unfold F41_b3
  refine br_of (fun g => ?_) (fun _ => ?_)
  · have hj' : j < l' := by
      have : (j : Int) < (l' : Int) := by simpa using g
      omega
    obtain ⟨b', ea', i5⟩ := hin j hj'
    have i6 := (i5.iw w3).iw w4
    obtain ⟨z', hz'⟩ := i6.cell
    unfold F41_k4
    refine ⟨a, l, c, c5 h4 w14, ⟨b, 0, none⟩, ea, by omega, by omega, a', l', c', by rw [Int.toNat_natCast, add_mk, add_mk, add_mk, Nat.zero_add]; exact s34.cell, ⟨b', 0, none⟩, ea', by omega, by omega, z', by rw [Int.toNat_natCast, add_mk, add_mk, Nat.zero_add]; exact hz', ⟨b', 0, none⟩, ea', by omega, by omega, ?_⟩
    rw [Int.toNat_natCast, add_mk, add_mk, Nat.zero_add]
    refine i6.store fun h5 w5 => ?_
    rw [wrap_succ j _ hj' (by omega)]
    exact ⟨⟨j + 1, rfl, by omega, w4.trans w5⟩, less_succ _ _ hj'⟩
  · unfold F41_k5
    rw [wrap_succ k _ hk' (by omega)]
    exact ⟨⟨k + 1, rfl, by omega, w14⟩, less_succ _ _ hk'⟩
end Go.Proofs.Ytnhnioodlciajaa

namespace Go.Wire
open Go.Vc Go.Packs Go.Proofs Go.Proofs.Ytnhnioodlciajaa
set_option linter.unusedVariables false
def chM (f t : Int) (A B : List MsgV) : NetM := fun k => if k = .box t then B else if k = .link f t then A else []
structure GoodN (m : MsgV) (A B : List MsgV) : Prop where
  a : ∀ x ∈ A, x = m
  b : ∀ x ∈ B, x = m
  c : A ≠ [] → msgC m = 0
theorem chM_a (f t : Int) (A B : List MsgV) : chM f t A B (.link f t) = A := by unfold chM; rw [if_neg (fun e => by cases e), if_pos rfl]
theorem chM_b (f t : Int) (A B : List MsgV) : chM f t A B (.box t) = B := by unfold chM; rw [if_pos rfl]
theorem chM_nil (f t : Int) : chM f t [] [] = fun _ => [] := by
  funext k; unfold chM; split
  · rfl
  · split <;> rfl
theorem chM_updA (f t : Int) (A B A' : List MsgV) : updM (chM f t A B) (.link f t) A' = chM f t A' B := by
  funext k; unfold updM chM
  by_cases h : k = .link f t
  · subst h; rw [if_pos rfl, if_neg (fun e => by cases e), if_pos rfl]
  · rw [if_neg h, if_neg h, if_neg h]
theorem chM_updB (f t : Int) (A B B' : List MsgV) : updM (chM f t A B) (.box t) B' = chM f t A B' := by
  funext k; unfold updM chM
  by_cases h : k = .box t
  · subst h; rw [if_pos rfl, if_pos rfl]
  · rw [if_neg h, if_neg h, if_neg h]
theorem GoodN.link {m : MsgV} {A B : List MsgV} (g : GoodN m A B) (x y : Int) : chM m.from_ m.to A B (.link x y) = onL x y A := by
  by_cases h : m.from_ = x ∧ m.to = y
  · obtain ⟨rfl, rfl⟩ := h
    rw [chM_a, onL_all fun z hz => by rw [g.a z hz]; exact ⟨rfl, rfl⟩]
  · have : onL x y A = [] := List.filter_eq_nil_iff.2 fun z hz => by rw [g.a z hz]; simpa using h
    rw [this]; unfold chM
    rw [if_neg (fun e => by cases e), if_neg (fun e => h (by cases e; exact ⟨rfl, rfl⟩))]
theorem GoodN.box {m : MsgV} {A B : List MsgV} (g : GoodN m A B) (x : Int) : chM m.from_ m.to A B (.box x) = onB x B := by
  by_cases h : m.to = x
  · subst h
    rw [chM_b, onB_all fun z hz => by rw [g.b z hz]]
  · have : onB x B = [] := List.filter_eq_nil_iff.2 fun z hz => by rw [g.b z hz]; simpa using h
    rw [this]; unfold chM
    rw [if_neg (fun e => h (by cases e; rfl)), if_neg (fun e => by cases e)]
theorem good_ends {m : MsgV} (h : msgC m = 0) : ¬ (m.from_ = 0 ∧ m.to = 0) := by
  rintro ⟨h1, h2⟩
  by_cases b1 : bad1 m
  · rw [msgC_1 b1] at h; cases h
  · by_cases b2 : bad2 m
    · rw [msgC_2 b1 b2] at h; cases h
    · refine b2 (.inl ?_)
      unfold goesP
      rw [h1, h2]
      unfold rootP
      split <;> omega
theorem GoodN.send {m : MsgV} {A B : List MsgV} (g : GoodN m A B) : sendN (chM m.from_ m.to A B) m = ((rSend A m).1, chM m.from_ m.to (rSend A m).2 B) ∧ GoodN m (rSend A m).2 B := by
  unfold sendN rSend
  by_cases h : msgC m ≠ 0
  · rw [if_pos h, if_pos h]; exact ⟨rfl, g⟩
  · rw [if_neg h, if_neg h]
    unfold putN
    rw [chM_a]
    by_cases h2 : 64 ≤ A.length
    · rw [if_pos h2, if_pos h2]; exact ⟨rfl, g⟩
    · rw [if_neg h2, if_neg h2, chM_updA]
      refine ⟨rfl, fun x hx => ?_, g.b, fun _ => Decidable.of_not_not h⟩
      rcases List.mem_append.1 hx with hx | hx
      · exact g.a x hx
      · exact List.mem_singleton.1 hx
theorem there0 {m x : MsgV} {A B : List MsgV} (g : GoodN m (x :: A) B) : thereN (chM m.from_ m.to (x :: A) B) m.from_ m.to 0 = 0 := by
  unfold thereN
  rw [if_neg]
  rw [chM_a]
  rintro (h | h | h)
  · exact good_ends (g.c (by simp)) h
  · omega
  · simp only [List.length_cons] at h; omega
theorem there9 {f t : Int} {B : List MsgV} : thereN (chM f t [] B) f t 0 = 9 := by
  unfold thereN
  rw [if_pos]
  right
  rw [chM_a]; simp
theorem GoodN.double {m : MsgV} {A B : List MsgV} (g : GoodN m A B) : doubleN (chM m.from_ m.to A B) m.from_ m.to 0 = ((rDouble A).1, chM m.from_ m.to (rDouble A).2 B) ∧ GoodN m (rDouble A).2 B := by
  unfold doubleN rDouble
  cases A with
  | nil => rw [there9]; exact ⟨rfl, g⟩
  | cons x A =>
    rw [there0 g, if_neg (by decide), chM_a]
    simp only [Int.toNat_zero, List.getElem?_cons_zero]
    unfold putN
    rw [chM_a]
    by_cases h2 : 64 ≤ (x :: A).length
    · rw [if_pos h2, if_pos h2]; exact ⟨rfl, g⟩
    · rw [if_neg h2, if_neg h2, chM_updA]
      refine ⟨rfl, fun z hz => ?_, g.b, fun _ => g.c (by simp)⟩
      rcases List.mem_append.1 hz with hz | hz
      · exact g.a z hz
      · rw [List.mem_singleton.1 hz]; exact g.a x (by simp)
theorem GoodN.deliver {m : MsgV} {A B : List MsgV} (g : GoodN m A B) : deliverN (chM m.from_ m.to A B) m.from_ m.to 0 = ((rDeliver A B).1, chM m.from_ m.to (rDeliver A B).2.1 (rDeliver A B).2.2) ∧ GoodN m (rDeliver A B).2.1 (rDeliver A B).2.2 := by
  unfold deliverN rDeliver
  cases A with
  | nil => rw [there9]; exact ⟨rfl, g⟩
  | cons x A =>
    rw [there0 g, if_neg (by decide), chM_a, chM_b]
    simp only [Int.toNat_zero, List.getElem?_cons_zero]
    by_cases h2 : 64 ≤ B.length
    · rw [if_pos h2, if_pos h2]; exact ⟨rfl, g⟩
    · rw [if_neg h2, if_neg h2, chM_updB]
      refine ⟨?_, fun z hz => g.a z (List.mem_cons_of_mem _ hz), fun z hz => ?_, fun _ => g.c (by simp)⟩
      · unfold outN
        rw [chM_a, chM_updA]; rfl
      rcases List.mem_append.1 hz with hz | hz
      · exact g.b z hz
      · rw [List.mem_singleton.1 hz]; exact g.a x (by simp)
/-- both nets -/
structure FI (h h' : Heap) (b3 qn br : Nat) (F G : Nat → Prop) (m : MsgV) (d : Hdr) (es : List Hdr) (M : NetM) (A B : List MsgV) : Prop where
  n : NetAt F h' qn M
  r : RefAt G h' br A B
  fr : ∀ k, F k → h.size ≤ k ∧ k ≠ b3
  gr : ∀ k, G k → h.size ≤ k ∧ k ≠ b3
  dis : ∀ k, F k → ¬ G k
  ext : Ext h h'
  g3 : h'[b3]? = some (.cells (msgCells m d).toArray 24 (0, 0))
  tm : MsgF G h' m d es
theorem FI.opn {h h1 h2 : Heap} {b3 qn br : Nat} {F G : Nat → Prop} {m : MsgV} {d : Hdr} {es : List Hdr} {M M2 : NetM} {A B : List MsgV} (x : FI h h1 b3 qn br F G m d es M A B) (N : NetAt (Fx F h1 h2) h2 qn M2) (k : Keep F h1 h2) : FI h h2 b3 qn br (Fx F h1 h2) G m d es M2 A B := by
  have l3 := blk_lt x.g3
  have xs := x.ext.size
  refine ⟨N, x.r.keep k (fun j hj hf => x.dis j hf hj) (fun _ h => h) (fun j hj => Nat.lt_of_lt_of_le (x.r.bound j hj) k.size), fun j hj => hj.elim (x.fr j) (fun hj => ⟨by omega, by omega⟩), x.gr, fun j hj hg => hj.elim (fun hj => x.dis j hj hg) (fun hj => by have := x.r.bound j hg; omega), Ext.thenKeep x.ext k (fun j hj => (x.fr j hj).1), k.blk x.g3 (fun hs => (x.fr _ hs).2 rfl), x.tm.keep' k (fun _ h => h) (fun j hj hf => x.dis j hf hj)⟩
theorem FI.opr {h h1 h2 : Heap} {b3 qn br : Nat} {F G : Nat → Prop} {m : MsgV} {d : Hdr} {es : List Hdr} {M : NetM} {A B A2 B2 : List MsgV} (x : FI h h1 b3 qn br F G m d es M A B) (N : RefAt (Fx G h1 h2) h2 br A2 B2) (k : Keep G h1 h2) (mk : MK G h1 h2) : FI h h2 b3 qn br F (Fx G h1 h2) m d es M A2 B2 := by
  have l3 := blk_lt x.g3
  have xs := x.ext.size
  refine ⟨x.n.keep k x.dis (fun _ h => h) (fun j hj => Nat.lt_of_lt_of_le (x.n.bound j hj) k.size), N, x.fr, fun j hj => hj.elim (x.gr j) (fun hj => ⟨by omega, by omega⟩), fun j hf hj => hj.elim (x.dis j hf) (fun hj => by have := x.n.bound j hf; omega), Ext.thenKeep x.ext k (fun j hj => (x.gr j hj).1), k.blk x.g3 (fun hs => (x.gr _ hs).2 rfl), (mk m d es x.tm).keep' (Keep.refl (fun _ => False) _) (fun _ h => .inl h) (fun _ _ h => h)⟩
end Go.Wire
namespace Go.Proofs.Ytnhnioodlciajaa
open Go.Vc Go.Sha Go.Trail Go.Packs Go.Wire
set_option linter.unusedVariables false
theorem same_ok {F G : Nat → Prop} {h : Heap} {qn br : Nat} {M : NetM} {Ls Bs : List MsgV} (N : NetAt F h qn M) (r : RefAt G h br Ls Bs) (hl : ∀ x y, M (.link x y) = onL x y Ls) (hb : ∀ x, M (.box x) = onB x Bs) (few : ∀ k, (M k).length ≤ 64) :
    HEnt Try.prog 18 #[.pointer (some (at0 qn)), .pointer (some (at0 br))] h fun v h' => v = .bool true ∧ Ext h h' := by
  refine F18_ent _ _ _ _ ?_
  unfold F18
  rintro _ rfl
  refine ⟨fun x h' => ∃ k : Nat, x = (k : Int) - 1 ∧ k ≤ 10 ∧ IW h.size h h', fun x _ => ((10 : Int) - x).toNat, ⟨0, rfl, by omega, IW.refl _ _⟩, ?_⟩
  rintro h1 _ ⟨k, rfl, hk, w1⟩
  have z1 := w1.size
  have N1 : NetAt F h1 qn M := N.keep w1.keep (fun j hj hs => by have := N.bound j hj; omega) (fun _ h => h) (fun j hj => Nat.lt_of_lt_of_le (N.bound j hj) z1)
  have r1 : RefAt G h1 br Ls Bs := r.keep w1.keep (fun j hj hs => by have := r.bound j hj; omega) (fun _ h => h) (fun j hj => Nat.lt_of_lt_of_le (r.bound j hj) z1)
  unfold F18_b1
  refine br_of (fun g => ?_) (fun _ => ?_)
  · have g : k < 10 := by
      have : (k : Int) - 1 ≤ 8 := by simpa using g
      omega
    generalize hx : (k : Int) - 1 = x
    unfold F18_k2
    refine HEnt.use (box_ok N1 x) ?_
    rintro _ h2 ⟨a2, l2, c2, rfl, t2⟩
    have y2 := t2.ext
    refine ⟨a2, l2, c2, rfl, HEnt.use (refBox_ok (r1.grow y2) x) ?_⟩
    rintro _ h3 ⟨a3, l3, c3, rfl, t3⟩
    have y3 := y2.trans t3.ext
    refine ⟨a3, l3, c3, rfl, HEnt.use (all_sameR (ms := onB x Bs) (by rw [← hb]; exact (t2.grow t3.ext).rd) t3.sl.rd (by rw [← hb]; exact few _)) ?_⟩
    rintro _ h4 ⟨rfl, x4⟩
    have y4 := y3.trans x4
    refine ⟨true, rfl, br_of (fun g => by cases g) (fun _ => HEnt.use (link_ok (N1.grow y4) x 0) ?_)⟩
    rintro _ h5 ⟨a5, l5, c5, rfl, t5⟩
    have y5 := y4.trans t5.ext
    refine ⟨a5, l5, c5, rfl, HEnt.use (refLink_ok (r1.grow y5) x 0) ?_⟩
    rintro _ h6 ⟨a6, l6, c6, rfl, t6⟩
    have y6 := y5.trans t6.ext
    refine ⟨a6, l6, c6, rfl, HEnt.use (all_sameR (ms := onL x 0 Ls) (by rw [← hl]; exact (t5.grow t6.ext).rd) t6.sl.rd (by rw [← hl]; exact few _)) ?_⟩
    rintro _ h7 ⟨rfl, x7⟩
    have y7 := y6.trans x7
    refine ⟨true, rfl, br_of (fun g => by cases g) (fun _ => HEnt.use (link_ok (N1.grow y7) 0 x) ?_)⟩
    rintro _ h8 ⟨a8, l8, c8, rfl, t8⟩
    have y8 := y7.trans t8.ext
    refine ⟨a8, l8, c8, rfl, HEnt.use (refLink_ok (r1.grow y8) 0 x) ?_⟩
    rintro _ h9 ⟨a9, l9, c9, rfl, t9⟩
    have y9 := y8.trans t9.ext
    refine ⟨a9, l9, c9, rfl, HEnt.use (all_sameR (ms := onL 0 x Ls) (by rw [← hl]; exact (t8.grow t9.ext).rd) t9.sl.rd (by rw [← hl]; exact few _)) ?_⟩
    rintro _ hA ⟨rfl, xA⟩
    have yA := y9.trans xA
    have z2 := y2.size
    have zA := yA.size
    have e2 := t2.len
    have f2 := few (.box x)
    have sp : LSp h.size hA a2 l2 := by
      have : LSp h.size h2 a2 l2 := t2.lsp z1
      have x2A : Ext h2 hA := ((((((t3.ext.trans x4).trans t5.ext).trans t6.ext).trans x7).trans t8.ext).trans t9.ext).trans xA
      exact this.iw (IW.ext x2A (by omega))
    refine ⟨true, rfl, ?_⟩
    unfold F18_k3
    refine br_of (fun g => by cases g) (fun _ => ?_)
    unfold F18_k4
    have wA := w1.trans (IW.ext yA z1)
    refine ⟨fun x h' => ∃ j : Nat, x = j ∧ j ≤ l2 ∧ IW h.size hA h', fun x _ => ((l2 : Int) - x).toNat, ⟨0, rfl, by omega, IW.refl _ _⟩, ?_⟩
    rintro hB _ ⟨j, rfl, hj, wB⟩
    unfold F18_b5
    refine br_of (fun g => ?_) (fun _ => ?_)
    · have hj' : j < l2 := by
        have : (j : Int) < (l2 : Int) := by simpa using g
        omega
      obtain ⟨b, bb, a', l', c', ea, i0, i1, i2, i3, s4, s5, ss⟩ := (sp.iw wB) j hj'
      obtain ⟨v0, q0⟩ := i0.cell
      obtain ⟨v1, q1⟩ := i1.cell
      obtain ⟨v2, q2⟩ := i2.cell
      obtain ⟨v3, q3⟩ := i3.cell
      have q4 := s4.cell
      have q5 := s5.cell
      unfold F18_k6
      simp only [Int.toNat_natCast]
      refine ⟨⟨b, 0, none⟩, ea, by omega, by omega, v0, v1, v2, v3, bb, a', l', c', ?_⟩
      simp only [add_mk, Nat.zero_add]
      refine ⟨q0, q1, q2, q3, q4, q5, trivial, HEnt.use (spoil_ok ss (by have := wB.size; omega)) ?_⟩
      rintro _ hC ⟨rfl, wC⟩
      rw [wrap_succ j _ hj' (by omega)]
      exact ⟨rfl, ⟨j + 1, rfl, by omega, wB.trans wC⟩, less_succ _ _ hj'⟩
    · unfold F18_k7
      rintro _ rfl
      have ew : IntKind.i64.wrap (x + 1) = ((k + 1 : Nat) : Int) - 1 := by rw [i64_lt _ (by omega) (by omega)]; omega
      rw [ew]
      refine ⟨⟨k + 1, rfl, by omega, wA.trans wB⟩, ?_⟩
      show ((10 : Int) - (((k + 1 : Nat) : Int) - 1)).toNat < ((10 : Int) - x).toNat
      omega
  · unfold F18_k8
    exact ⟨rfl, w1.back (Nat.le_refl _)⟩
theorem tmod70 (x : Int) : ∃ d : Nat, (IntKind.i64.wrap (x.tmod 70 + 70)).tmod 70 = d ∧ d < 70 := by
  have h1 := Int.tmod_lt_of_pos x (b := 70) (by decide)
  have h2 := Int.lt_tmod_of_pos x (b := 70) (by decide)
  rw [i64_lt _ (by omega) (by omega)]
  have h3 := Int.tmod_nonneg 70 (a := x.tmod 70 + 70) (by omega)
  have h4 := Int.tmod_lt_of_pos (x.tmod 70 + 70) (b := 70) (by decide)
  exact ⟨((x.tmod 70 + 70).tmod 70).toNat, by omega, by omega⟩
theorem full_all {h h1 : Heap} {b3 qn br : Nat} {F G : Nat → Prop} {m : MsgV} {d : Hdr} {es : List Hdr} {A B : List MsgV} (I : FI h h1 b3 qn br F G m d es (chM m.from_ m.to A B) A B) (g : GoodN m A B) :
    F3_k11 (some (at0 qn)) (at0 br) h1 fun v h' => v = .bool true ∧ Ext h h' := by
  unfold F3_k11
  refine HEnt.use (same_ok I.n I.r g.link g.box (fun k => by obtain ⟨_, _, _, _, N⟩ := I.n; obtain ⟨_, _, _, _, s⟩ := N.slot k; exact s.few)) ?_
  rintro _ h2 ⟨rfl, x2⟩
  refine ⟨true, rfl, br_of (fun _ => HEnt.use (works_ok h2) ?_) (fun g => by cases g)⟩
  rintro _ h3 ⟨rfl, x3⟩
  exact ⟨true, rfl, rfl, (I.ext.trans x2).trans x3⟩
/-- what reads the message reads it still -/
def R3 (b3 : Nat) : Heap → Heap → Prop := fun x y => ∀ o, x[b3]? = some o → y[b3]? = some o
theorem R3.int {b3 : Nat} {h : Heap} {m : MsgV} {d : Hdr} (g3 : h[b3]? = some (.cells (msgCells m d).toArray 24 (0, 0))) {j : Nat} {x : Int} (hj : (msgCells m d)[j]? = some (.int .i64 x)) (w : World) (hw : R3 b3 h w.heap) : (loadVar 3 ((at0 b3).add j)).run Try.prog w = .ok (.int .i64 x) w :=
  run_loadCell (by rw [add_at0, cell_blk (hw _ g3)]; simpa using hj) Try.underlying3 rfl
theorem R3.msg {b3 : Nat} {h : Heap} {m : MsgV} {d : Hdr} (g3 : h[b3]? = some (.cells (msgCells m d).toArray 24 (0, 0))) (w : World) (hw : R3 b3 h w.heap) : (loadVar 24 (at0 b3)).run Try.prog w = .ok (.agg (msgCells m d).toArray) w :=
  msg_load fun j v hj => by rw [add_at0, cell_blk (hw _ g3)]; simpa using hj
theorem full_moves {h h1 : Heap} {b3 qn br : Nat} {F G : Nat → Prop} {m : MsgV} {d : Hdr} {es : List Hdr} {A B : List MsgV} {x1 x2 : Int} {n k : Nat} {I7 : Int → Heap → Prop} {M7 : Int → Heap → Nat} (hn : n < 140) (hk : k < n) (I : FI h h1 b3 qn br F G m d es (chM m.from_ m.to A B) A B) (g : GoodN m A B)
    (next : ∀ h2 F2 G2 A2 B2, FI h h2 b3 qn br F2 G2 m d es (chM m.from_ m.to A2 B2) A2 B2 → GoodN m A2 B2 → I7 ((k + 1 : Nat) : Int) h2 ∧ M7 ((k + 1 : Nat) : Int) h2 < M7 (k : Int) h1) :
    F3_k8 I7 M7 (M7 (k : Int) h1) (at0 b3) (some (at0 qn)) (at0 br) (n : Int) (k : Int) h1 fun v h' => v = .bool true ∧ Ext h h' := by
  have r3 : ∀ {u v : Heap} {S : Nat → Prop}, Keep S u v → ¬ S b3 → R3 b3 u v := fun k hs o ho => k.blk ho hs
  have k9 : ∀ h2 F2 G2 A2 B2, FI h h2 b3 qn br F2 G2 m d es (chM m.from_ m.to A2 B2) A2 B2 → GoodN m A2 B2 → F3_k9 I7 M7 (M7 (k : Int) h1) (at0 b3) (some (at0 qn)) (at0 br) (n : Int) (k : Int) false h2 fun v h' => v = .bool true ∧ Ext h h' := by
    intro h2 F2 G2 A2 B2 I2 g2
    unfold F3_k9
    refine br_of (fun g => by cases g) (fun _ => ?_)
    unfold F3_k10
    rw [wrap_succ k _ hk (by omega)]
    exact next h2 F2 G2 A2 B2 I2 g2
  unfold F3_k8
  refine ⟨R3 b3, fun _ _ h => h, fun _ _ _ x y o ho => y o (x o ho), m.from_, R3.int I.g3 rfl, m.to, R3.int I.g3 rfl, m.from_, R3.int I.g3 rfl, m.to, R3.int I.g3 rfl, HEnt.use (deliver_ok I.n m.from_ m.to 0) ?_⟩
  obtain ⟨ed, gd⟩ := g.deliver
  rw [ed]
  rintro _ h2 ⟨rfl, N2, k2⟩
  have I2 := I.opn N2 k2
  refine ⟨_, rfl, r3 k2 (fun hs => (I.fr _ hs).2 rfl), HEnt.use (refDeliver_ok I2.r m.from_ m.to (fun x hx => by rw [g.a x hx]; exact ⟨rfl, rfl⟩) (fun x hx => by rw [g.b x hx])) ?_⟩
  rintro _ h3 ⟨rfl, N3, k3, mk3⟩
  have I3 := I2.opr N3 k3 mk3
  refine ⟨_, rfl, r3 k3 (fun hs => (I2.gr _ hs).2 rfl), br_of (fun g => by simp at g) (fun _ => ⟨by decide, br_of (fun _ => ?_) (fun _ => k9 h3 _ _ _ _ I3 gd)⟩)⟩
  refine ⟨m.kind, m.from_, m.to, m.txn, m.yes, d.a, d.l, d.c, R3.msg I3.g3, m.kind, m.from_, m.to, m.txn, m.yes, d.a, d.l, d.c, R3.msg I3.g3, HEnt.use (send_ok I3.n m d es I3.tm.packs I3.tm.l1 I3.tm.l2) ?_⟩
  obtain ⟨es_, gs⟩ := gd.send
  rw [es_]
  rintro _ h4 ⟨rfl, N4, k4⟩
  have I4 := I3.opn N4 k4
  refine ⟨_, rfl, r3 k4 (fun hs => (I3.fr _ hs).2 rfl), HEnt.use (refSend_ok I4.r I4.tm (fun x hx => by rw [gd.a x hx]; exact ⟨rfl, rfl⟩)) ?_⟩
  rintro _ h5 ⟨rfl, N5, k5, mk5⟩
  have I5 := I4.opr N5 k5 mk5
  refine ⟨_, rfl, trivial, ?_⟩
  rw [bne_self_eq_false]
  exact k9 h5 _ _ _ _ I5 gs
theorem full_doubles {h h1 : Heap} {b3 qn br : Nat} {F G : Nat → Prop} {m : MsgV} {d : Hdr} {es : List Hdr} {A B : List MsgV} {x1 x2 : Int} (I : FI h h1 b3 qn br F G m d es (chM m.from_ m.to A B) A B) (g : GoodN m A B) :
    F3_k2 x1 x2 (at0 b3) (some (at0 qn)) (at0 br) h1 fun v h' => v = .bool true ∧ Ext h h' := by
  have r3 : ∀ {u v : Heap} {S : Nat → Prop}, Keep S u v → ¬ S b3 → R3 b3 u v := fun k hs o ho => k.blk ho hs
  unfold F3_k2
  refine ⟨by decide, by decide, by decide, by decide, ?_⟩
  obtain ⟨n, en, hn⟩ := tmod70 x1
  obtain ⟨n', en', hn'⟩ := tmod70 x2
  rw [en, en']
  have hnn : IntKind.i64.wrap ((n : Int) + (n' : Int)) = ((n + n' : Nat) : Int) := by rw [i64_lt _ (by omega) (by omega)]; omega
  refine ⟨fun x h' => ∃ k : Nat, x = k ∧ k ≤ n ∧ ∃ F G A B, FI h h' b3 qn br F G m d es (chM m.from_ m.to A B) A B ∧ GoodN m A B, fun x _ => ((n : Int) - x).toNat, ⟨0, rfl, by omega, F, G, A, B, I, g⟩, ?_⟩
  rintro h1 _ ⟨k, rfl, hk, F, G, A, B, I, g⟩
  unfold F3_b3
  refine br_of (fun gk => ?_) (fun _ => ?_)
  · have hk' : k < n := by
      have : (k : Int) < (n : Int) := by simpa using gk
      omega
    unfold F3_k4
    refine ⟨R3 b3, fun _ _ h => h, fun _ _ _ x y o ho => y o (x o ho), m.from_, R3.int I.g3 rfl, m.to, R3.int I.g3 rfl, m.from_, R3.int I.g3 rfl, m.to, R3.int I.g3 rfl, HEnt.use (double_ok I.n m.from_ m.to 0) ?_⟩
    obtain ⟨ed, gd⟩ := g.double
    rw [ed]
    rintro _ h2 ⟨rfl, N2, k2⟩
    have I2 := I.opn N2 k2
    refine ⟨_, rfl, r3 k2 (fun hs => (I.fr _ hs).2 rfl), HEnt.use (refDouble_ok I2.r m.from_ m.to (fun x hx => by rw [g.a x hx]; exact ⟨rfl, rfl⟩)) ?_⟩
    rintro _ h3 ⟨rfl, N3, k3, mk3⟩
    have I3 := I2.opr N3 k3 mk3
    refine ⟨_, rfl, trivial, br_of (fun g => by simp at g) (fun _ => ?_)⟩
    unfold F3_k5
    rw [wrap_succ k _ hk' (by omega)]
    exact ⟨⟨k + 1, rfl, by omega, _, _, _, _, I3, gd⟩, less_succ _ _ hk'⟩
  · unfold F3_k6
    rw [hnn]
    refine ⟨fun x h' => ∃ k : Nat, x = k ∧ k ≤ n + n' ∧ ∃ F G A B, FI h h' b3 qn br F G m d es (chM m.from_ m.to A B) A B ∧ GoodN m A B, fun x _ => (((n + n' : Nat) : Int) - x).toNat, ⟨0, rfl, by omega, F, G, A, B, I, g⟩, ?_⟩
    rintro h2 _ ⟨j, rfl, hj, F, G, A, B, I, g⟩
    unfold F3_b7
    refine br_of (fun gk => ?_) (fun _ => full_all I g)
    have hj' : j < n + n' := by
      have : (j : Int) < ((n + n' : Nat) : Int) := by simpa using gk
      omega
    exact full_moves (x1 := x1) (x2 := x2) (by omega) hj' I g fun h3 F2 G2 A2 B2 I2 g2 => ⟨⟨j + 1, rfl, by omega, F2, G2, A2, B2, I2, g2⟩, less_succ _ _ hj'⟩
theorem full_ok (m0 : MsgV) (e : Hdr) (es : List Hdr) (x1 x2 : Int) (h : Heap) (hp : PacksAt h e.a e.l e.c m0.packs es) :
    HEnt Try.prog 3 #[.agg (msgCells m0 e).toArray, .int .i64 x1, .int .i64 x2] h fun v h' => v = .bool true ∧ Ext h h' := by
  refine F3_ent _ _ _ _ _ _ _ _ _ _ _ _ ?_
  unfold F3
  refine (St.start h).new fun b3 h1 s1 _ _ => ?_
  refine ⟨m0.kind, m0.from_, m0.to, m0.txn, m0.yes, e.a, e.l, e.c, s1.cell 0 rfl rfl, s1.cell 0 rfl rfl, s1.cell 0 rfl rfl, s1.cell 0 rfl rfl, s1.cell 0 rfl rfl, s1.cell 0 rfl rfl, rfl, HEnt.use (few_ok m0 e es h1 (hp.grow s1.ext)) ?_⟩
  rintro _ h2 ⟨e', es', rfl, t2, x2'⟩
  generalize hm : fewM m0 = m at t2
  have oks : ∀ p ∈ m.packs, p.ok ∧ ∀ r ∈ p.refs, r.ok := by rw [← hm]; exact few_oks (PacksAt.oks hp)
  have ll : e'.l ≤ 20 ∧ ∀ x ∈ es', x.l ≤ 20 := by subst hm; exact few_len t2
  refine ⟨m.kind, m.from_, m.to, m.txn, m.yes, e'.a, e'.l, e'.c, by rw [← hm]; rfl, ?_⟩
  have s2 := s1.grow x2'
  have lt1 := s1.lt (i := 0) rfl
  have lo1 := (s2.at_ 0 _ rfl).1
  simp only at lt1 lo1
  have tm2 : MsgF (fun k => h1.size ≤ k ∧ k < h2.size) h2 m e' es' := twin_msg t2 (fun k a b => ⟨a, b⟩) ll.1 ll.2 oks
  refine s2.storeAll 0 rfl rfl rfl (vs := (msgCells m e').toArray) (by simp [msgCells, one]) fun h3 s3 on3 => ?_
  simp only [List.set_cons_zero] at s3
  have tm3 : MsgF (fun k => h1.size ≤ k ∧ k < h2.size) h3 m e' es' := tm2.keep' (S := (· = b3)) (on3.keep rfl) (fun _ h => h) (fun k hk hs => by omega)
  have z2 := x2'.size
  have z3 := on3.size
  refine HEnt.use (new_ok h3) ?_
  rintro _ h4 ⟨q, F, rfl, N4, x4, hF⟩
  have z4 := x4.size
  refine ⟨_, rfl, newK_intro fun h5 n5 x5 e5 => ?_⟩
  have x35 := x4.trans x5
  have s5 := s3.grow x35
  have g5 := (s5.at_ 0 _ rfl).2
  simp only at g5
  have bF := N4.bound
  have I5 : FI h h5 b3 q h4.size F (fun k => (h1.size ≤ k ∧ k < h2.size) ∨ k = h4.size) m e' es' (chM m.from_ m.to [] []) [] [] := by
    rw [chM_nil]
    refine ⟨N4.grow x5, ⟨none, 0, 0, none, 0, 0, n5, SlotAt.nil _ _, SlotAt.nil _ _, (fun x y ex => by cases ex), .inr rfl, fun k hk => ?_⟩, fun k hk => ?_, fun k hk => ?_, fun k hk hg => ?_, s5.ext, g5, tm3.keep' (x35.keep (fun _ => False)) (fun _ h => .inl h) (fun _ _ h => h)⟩
    · omega
    · have := hF k hk; omega
    · omega
    · have := hF k hk; have := bF k hk; omega
  have g0 : GoodN m [] [] := ⟨by simp, by simp, fun h => absurd rfl h⟩
  refine ⟨R3 b3, fun _ _ h => h, fun _ _ _ x y o ho => y o (x o ho), br_of (fun g => by cases g) (fun _ => ?_)⟩
  refine ⟨m.kind, m.from_, m.to, m.txn, m.yes, e'.a, e'.l, e'.c, R3.msg g5, m.kind, m.from_, m.to, m.txn, m.yes, e'.a, e'.l, e'.c, R3.msg g5, HEnt.use (send_ok I5.n m e' es' I5.tm.packs ll.1 ll.2) ?_⟩
  obtain ⟨eq, gs⟩ := g0.send
  rw [eq]
  rintro _ h6 ⟨rfl, N6, k6⟩
  have I6 := I5.opn N6 k6
  refine ⟨_, rfl, fun o ho => k6.blk ho (fun hs => (I5.fr _ hs).2 rfl), HEnt.use (refSend_ok I6.r I6.tm (by simp)) ?_⟩
  rintro _ h7 ⟨rfl, N7, k7, mk7⟩
  have I7 := I6.opr N7 k7 mk7
  refine ⟨_, rfl, trivial, ?_⟩
  unfold F3_k1
  rw [bne_self_eq_false]
  exact br_of (fun g => by cases g) (fun _ => full_doubles I7 gs)
end Go.Proofs.Ytnhnioodlciajaa
