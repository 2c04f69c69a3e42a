import Derived.Test.YtnhnioodlciajaaWireT

namespace Go.Wire
open Go.Vc Go.Packs Go.Proofs Go.Proofs.Ytnhnioodlciajaa
set_option linter.unusedVariables false
theorem MsgF.mono {F F' : Nat → Prop} {h : Heap} {m : MsgV} {d : Hdr} {es : List Hdr} (t : MsgF F h m d es) (hF : ∀ k, F k → F' k) : MsgF F' h m d es :=
  ⟨t.twin, fun k e => hF k (t.f1 k e), fun i x hx k e => hF k (t.f2 i x hx k e), t.l1, t.l2, t.ok⟩
theorem MsgF.keep' {S F F' : Nat → Prop} {h h' : Heap} {m : MsgV} {d : Hdr} {es : List Hdr} (t : MsgF F h m d es) (x : Keep S h h') (hF : ∀ k, F k → F' k) (hS : ∀ k, F k → ¬ S k) : MsgF F' h' m d es := t.keep x hF fun k _ hk _ => hS k hk
theorem SlotAt.keep' {S F F' : Nat → Prop} {h h' : Heap} {a : Option Addr} {l c : Nat} {ms : List MsgV} (s : SlotAt F h a l c ms) (x : Keep S h h') (hF : ∀ k, F k → F' k) (hS : ∀ k, F k → ¬ S k) : SlotAt F' h' a l c ms :=
  s.keep x hF (fun k _ hk _ => hS k hk) (fun ad e => hS _ (s.f ad e))
theorem Ext.thenKeep {F : Nat → Prop} {h h1 h2 : Heap} (x : Ext h h1) (k : Keep F h1 h2) (hF : ∀ k, F k → h.size ≤ k) : Ext h h2 :=
  ⟨Nat.le_trans x.size k.size, fun j hj => (k.block j (Nat.lt_of_lt_of_le hj x.size) (fun hf => by have := hF j hf; omega)).trans (x.block j hj)⟩
/-- one more behind -/
theorem SlotAt.push {G : Nat → Prop} {h : Heap} {a : Option Addr} {l c : Nat} {ms : List MsgV} {m : MsgV} {e : Hdr} {fs : List Hdr} {K : Option Addr → Nat → Nat → Heap → Prop} (s : SlotAt G h a l c ms) (tm : MsgF G h m e fs) (room : ms.length < 64) (hG : ∀ k, G k → k < h.size) {b : Nat} (hb : h[b]? = some (.cells (msgCells m e).toArray 24 (0, 0)))
    (hK : ∀ a' c' h', SlotAt (Fx G h h') h' a' (l + 1) c' (ms ++ [m]) → Keep G h h' → K a' (l + 1) c' h') : appK Try.prog 24 h a l c (.slice (some (at0 b)) 1 1) K := by
  obtain ⟨ds, o, hds, hm⟩ := s.ex
  have hlen := s.len
  have src : OwnR 24 6 (#[] : Heap) h (some ⟨b, 0, none⟩) 1 1 [msgCells m e] := OwnR.new_ (by simpa using hb) ⟨Nat.zero_le _, fun k hk => absurd hk (Nat.not_lt_zero _)⟩ (Nat.zero_le _) (by simp [msgCells]) rfl
  refine appK_S (new := [msgCells m e]) size24 o src.rows.src rfl (by simp [msgCells]) (fun r hr => by simp at hr; subst hr; exact msg_one m e) (by rw [bytes24]; omega) z24 fun a' c' h' o' k' ha => hK a' c' h' ?_ ⟨k'.size, fun k hk hg => k'.block k hk fun hs => hs.elim (fun ⟨ad, e, e2⟩ => hg (e2 ▸ s.f ad e)) (fun hs => by omega)⟩
  have hz : List.zipWith msgCells ms ds ++ [msgCells m e] = List.zipWith msgCells (ms ++ [m]) (ds ++ [e]) := by rw [List.zipWith_append (by rw [hds])]; rfl
  rw [hz] at o'
  have keep : ∀ {m : MsgV} {d : Hdr} {es : List Hdr}, MsgF G h m d es → MsgF (Fx G h h') h' m d es := fun t => t.keep k' (fun k hk => .inl hk) fun k cs _ h2 hs => by
    have bad : ∀ {t}, h[k]? = some (.cells cs t (0, 0)) → t ≠ 24 → False := by
      intro t hk ht
      rcases hs with ⟨ad, ea, hs⟩ | hs
      · obtain ⟨cs', g, _⟩ := o.type_ ea
        rw [hs, hk] at g
        injection g with g; injection g with _ g; exact ht g
      · have := blk_lt hk; omega
    exact h2.elim (fun h2 => bad h2 (by decide)) (fun h2 => bad h2 (by decide))
  refine ⟨⟨ds ++ [e], o', by simp [hds], fun i m' d' hi hd => ?_⟩, by simp; omega, fun ad ea => (ha ad ea).elim (fun ⟨ad0, e1, e2⟩ => .inl (e2 ▸ s.f ad0 e1)) .inr⟩
  by_cases hlt : i < ms.length
  · rw [List.getElem?_append_left hlt] at hi
    rw [List.getElem?_append_left (by omega)] at hd
    obtain ⟨es, t⟩ := hm i m' d' hi hd
    exact ⟨es, keep t⟩
  · have hi' : i = ms.length := by
      have := (List.getElem?_eq_some_iff.1 hi).1
      simp at this; omega
    subst hi'
    rw [List.getElem?_append_right (Nat.le_refl _), Nat.sub_self] at hi
    rw [List.getElem?_append_right (by omega), hds, Nat.sub_self] at hd
    cases hi; cases hd
    exact ⟨fs, keep tm⟩
/-- what is at a place of a slot -/
theorem SlotAt.get {F : Nat → Prop} {h : Heap} {a : Option Addr} {l c : Nat} {ms : List MsgV} (s : SlotAt F h a l c ms) {i : Nat} {m : MsgV} (hm : ms[i]? = some m) : ∃ q d es, a = some q ∧ i < l ∧ MsgF F h m d es ∧ (∀ j v, (msgCells m d)[j]? = some v → Vc.cell h ((q.add (i * 6)).add j) = some v) ∧ ∀ w : World, Ext h w.heap → (loadVar 24 (q.add (i * 6))).run Try.prog w = .ok (.agg (msgCells m d).toArray) w := by
  obtain ⟨ds, o, hds, hms⟩ := s.ex
  have hd : ds[i]? = some (ds[i]'(by rw [hds]; exact (List.getElem?_eq_some_iff.1 hm).1)) := List.getElem?_eq_getElem _
  generalize ds[i]'(by rw [hds]; exact (List.getElem?_eq_some_iff.1 hm).1) = d at hd
  obtain ⟨es, tm⟩ := hms _ m d hm hd
  obtain ⟨q, e, hlt, hc, hw⟩ := row_load o.rows (i := i) (m := m) (d := d) (by rw [List.getElem?_zipWith, hm, hd])
  exact ⟨q, d, es, e, hlt, tm, hc, hw⟩
/-- messages that may be read -/
def MsgsAt (h : Heap) (a : Option Addr) (l : Nat) : Prop := ∀ i, i < l → ∃ (b o : Nat) (m : MsgV) (e : Hdr) (es : List Hdr), a = some ⟨b, o, none⟩ ∧ b < h.size ∧ PacksAt h e.a e.l e.c m.packs es ∧ ∀ j v, (msgCells m e)[j]? = some v → Vc.cell h ⟨b, o + i * 6 + j, none⟩ = some v
end Go.Wire
namespace Go.Proofs.Ytnhnioodlciajaa
open Go.Vc Go.Sha Go.Trail Go.Packs Go.Wire
set_option linter.unusedVariables false
def OM (n : Nat) : Int → Heap → Nat := fun i _ => ((n : Int) - i).toNat
theorem root_of (x : Int) : rootP (IntKind.i64.wrap (1 + ((IntKind.i64.wrap ((x.tmod 6) + 6)).tmod 6))) := by
  have h1 := Int.tmod_lt_of_pos x (show (0 : Int) < 6 by omega)
  have h2 : -6 < x.tmod 6 := by
    have := Int.lt_tmod_of_pos x (show (0 : Int) < 6 by omega)
    omega
  rw [i64_lt (x.tmod 6 + 6) (by omega) (by omega)]
  have h3 : 0 ≤ x.tmod 6 + 6 := by omega
  generalize x.tmod 6 + 6 = y at *
  have h4 := Int.tmod_nonneg 6 h3
  have h5 := Int.tmod_lt_of_pos y (show (0 : Int) < 6 by omega)
  rw [i64_lt _ (by omega) (by omega)]
  unfold rootP
  omega

end Go.Proofs.Ytnhnioodlciajaa
namespace Go.Proofs.Ytnhnioodlciajaa
open Go.Vc Go.Sha Go.Trail Go.Packs Go.Wire Go.ChangeShapes Go.WideShapes Go.ChangeAt Go.RowKit
variable {H : Type} {enc : TypeId × Value → H} {W : World} {hd : Bool}
theorem open_msgs {t : TypeId} (ht : Try.prog.underlying t = some (.slice 24)) {v : Value} {d : DataW H} {ps : List MemPlace} {b0 : Nat} {r : Reach} (hval : Value.okWide Try.prog W r b0 t v) (h : DataW.Trod enc Try.prog W 0 (fun _ => true) hd t v d ps) : ∃ (a : Option Addr) (l c : Nat), v = .slice a l c ∧ l < 9223372036854775808 ∧ MsgsAt W.heap a l := by
  obtain ⟨a, l, c, rfl⟩ := okWide_slice ht hval
  obtain ⟨fuel, h⟩ := h
  simp only [Value.cells] at h
  obtain ⟨a', l', c', rows, e, t, hl, hr⟩ := trod_tab ht size24 (by omega) h
  simp at e
  obtain ⟨rfl, rfl, rfl⟩ := e
  refine ⟨a, l, c, rfl, hl, fun i hi => ?_⟩
  have hlen := t.len
  have hx : rows[i]? = some (rows[i]'(by omega)) := List.getElem?_eq_getElem _
  generalize rows[i]'(by omega) = x at hx
  obtain ⟨_, _, hy⟩ := hr x (List.mem_of_getElem? hx)
  obtain ⟨m, e, es, rfl, hp⟩ := open_msgcells hy
  obtain ⟨b, o, ea, hb, hc⟩ := t.at_ (fun e => by rw [e] at hx; simp at hx)
  exact ⟨b, o, m, e, es, ea, hb, hp, fun j v hv => hc i _ hx j v hv⟩
end Go.Proofs.Ytnhnioodlciajaa
