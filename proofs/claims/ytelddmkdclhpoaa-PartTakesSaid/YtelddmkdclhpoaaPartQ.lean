/- Chapter 16: the document's Take. -/
import Derived.Test.YtelddmkdclhpoaaPartP
namespace Go.Proofs.Ytelddmkdclhpoaa
open Go.Vc Go.Sha Go.Trail Go.Packs
set_option linter.unusedVariables false

def rowOf (e0 : Hdr) (x : DeedV) : List Value := deedCells x (if x.kind = 2 then e0 else nilH)
theorem rowOf_len (e0 : Hdr) (ds : List DeedV) : ∀ r ∈ ds.map (rowOf e0), r.length = 9 := by
  intro r hr
  obtain ⟨x, _, rfl⟩ := List.mem_map.1 hr
  rfl
theorem rowOf_one (e0 : Hdr) (ds : List DeedV) : ∀ r ∈ ds.map (rowOf e0), ∀ u ∈ r, one u = true := by
  intro r hr
  obtain ⟨x, _, rfl⟩ := List.mem_map.1 hr
  exact deed_one _ _
/-- deeds whose packages are the message's own -/
def RDeeds (e0 : Hdr) (h0 : Heap) (v : Value) (h : Heap) (ds : List DeedV) : Prop := ∃ a l c, v = .slice a l c ∧ OwnR 37 9 h0 h a l c (ds.map (rowOf e0))
theorem RDeeds.nil_ {e0 : Hdr} {h0 h : Heap} (x : Ext h0 h) : RDeeds e0 h0 (.slice none 0 0) h [] := ⟨none, 0, 0, rfl, OwnR.nil _ _ x⟩
/-- some more deeds -/
theorem app_deeds {e0 : Hdr} {h0 h : Heap} {a : Option Addr} {l c b : Nat} {ds : List DeedV} {n : Nat} {L : List Vc.Loc} {K : Option Addr → Nat → Nat → Heap → Prop} (new : List DeedV) (s : St h0 h L) (hL : ∀ (i : Nat) (x : Vc.Loc), L[i]? = some x → x.t ≠ 37) (o : OwnR 37 9 h0 h a l c (ds.map (rowOf e0)))
    (hb : h[b]? = some (.cells (new.map (rowOf e0)).flatten.toArray 37 (0, 0))) (hn : new.length = n) (hl : l ≤ 10) (hn3 : n ≤ 3)
    (hK : ∀ a' c' h', St h0 h' L → OwnR 37 9 h0 h' a' (l + n) c' ((ds ++ new).map (rowOf e0)) → K a' (l + n) c' h') : appK Try.prog 37 h a l c (.slice (some (at0 b)) n n) K := by
  have src : Tab 9 h (some (at0 b)) n n (new.map (rowOf e0)) := (OwnR.new_ (h0 := (#[] : Heap)) (el := 37) hb (Ext.none h) (Nat.zero_le _) (rowOf_len e0 new) (by simp [hn])).rows
  refine appK_R (new := new.map (rowOf e0)) size37 o src.src (by simp [hn]) (rowOf_len e0 new) (rowOf_one e0 new) (by rw [bytes37]; omega) z37 fun a' c' h' o' k' _ => ?_
  refine hK a' c' h' (s.keep k' (fun k hk hs => ?_) (fun i x hi hs => ?_)) (by rw [List.map_append]; exact o')
  · rcases hs with hs | hs
    · have := (o.lt k hs).1; omega
    · have := s.ext.size; omega
  · rcases hs with hs | hs
    · exact o.loc_ne s hi (hL i x hi) _ hs rfl
    · have := s.lt hi; omega

theorem refTake_ok (p : PartV) (d : Hdr) (m : MsgV) (e : Hdr) (es : List Hdr) (h : Heap) (hn : NumsAt h d.a d.l d.c p.done) (hl : d.l ≤ 1099511627776) (hp : PacksAt h e.a e.l e.c m.packs es) (hel : e.l ≤ 1099511627776) :
    HEnt Try.prog 12 #[.agg (partCells p d).toArray, .agg (msgCells m e).toArray] h fun v h' => RDeeds e h v h' (takeV p m) ∧ Ext h h' := by
  refine F12_ent _ _ _ _ _ _ _ _ _ _ _ _ _ _ _ ?_
  have hlen := hn.len
  unfold F12
  refine (St.start h).new fun b2 h1 s1 _ _ => s1.new fun b3 h2 s2 _ _ => ?_
  have hL : ∀ (i : Nat) (x : Vc.Loc), [(⟨b3, (msgCells m e).toArray, 27⟩ : Vc.Loc), ⟨b2, (partCells p d).toArray, 24⟩][i]? = some x → x.t ≠ 37 := by
    intro i x hx
    match i, hx with
    | 0, hx => simp at hx; subst hx; exact Nat.ne_of_beq_eq_false rfl
    | 1, hx => simp at hx; subst hx; exact Nat.ne_of_beq_eq_false rfl
    | i + 2, hx => simp at hx
  -- behind the checks
  have k2 : ∀ h4, St h h4 [⟨b3, (msgCells m e).toArray, 27⟩, ⟨b2, (partCells p d).toArray, 24⟩] → goodP p → msgC m = 0 → m.to = p.root → F12_k2 (at0 b2) (at0 b3) h4 fun v h' => RDeeds e h v h' (takeV p m) ∧ Ext h h' := by
    intro h4 s4 hg hm ht
    have htx : 1 ≤ m.txn := by
      unfold msgC at hm
      split at hm
      · cases hm
      · split at hm
        · cases hm
        · rename_i h2
          have := fun h => h2 (.inr (.inl h)); omega
    rw [takeV_good hg hm ht]
    have cd := s4.cell 1 rfl (k := 2) (v := .slice d.a d.l d.c) rfl
    have n4 := NumsAt.grow hn s4.ext
    have hw : 0 < d.l → IntKind.i64.wrap ((d.l : Int) - 1) = ((d.l - 1 : Nat) : Int) := fun h0 => by rw [i64_lt _ (by omega) (by omega)]; omega
    have hlast : ∀ x, p.done[d.l - 1]? = some x → lastN p.done = x := fun x hx => by unfold lastN; rw [List.getLast?_eq_getElem?, hlen, hx]; rfl
    have nil0 : d.l = 0 → p.done = [] := fun h0 => List.eq_nil_of_length_eq_zero (by omega)
    -- what is known of the three
    have k3 : ∀ bn : Bool, (bn = true ↔ p.done ≠ [] ∧ lastN p.done = m.txn) → F12_k3 (at0 b2) (at0 b3) m.txn (decide (m.txn ∈ p.done)) bn h4 fun v h' => RDeeds e h v h' (if m.kind = 1 then prepV p m else if m.kind = 3 then commitV p m.txn else if m.kind = 4 then (if p.staged = m.txn then [doV 4 m.txn []] else []) else []) ∧ Ext h h' := by
      intro bn hbn
      generalize hE : (if m.kind = 1 then prepV p m else if m.kind = 3 then commitV p m.txn else if m.kind = 4 then (if p.staged = m.txn then [doV 4 m.txn []] else []) else []) = E
      have ck := s4.cell 0 rfl (k := 0) (v := .int .i64 m.kind) rfl
      have cs := s4.cell 1 rfl (k := 1) (v := .int .i64 p.staged) rfl
      have keq : ∀ {a : Int} {p q : Prop}, m.kind = a → p → br ((m.kind : Int) == a) p q := fun e hp => br_of (fun _ => hp) (fun g => by simp [e] at g)
      have kne : ∀ {a : Int} {p q : Prop}, m.kind ≠ a → q → br ((m.kind : Int) == a) p q := fun e hq => br_of (fun g => by simp at g; exact absurd g e) (fun _ => hq)
      have leaf : ∀ (ds : List DeedV), E = ds → ∀ (a : Option Addr) (l c : Nat) (h' : Heap), St h h' [⟨b3, (msgCells m e).toArray, 27⟩, ⟨b2, (partCells p d).toArray, 24⟩] → OwnR 37 9 h h' a l c (ds.map (rowOf e)) → F12_k6 a l c h' fun v h' => RDeeds e h v h' E ∧ Ext h h' := by
        rintro _ rfl a l c h' s' o'
        unfold F12_k6
        exact ⟨⟨a, l, c, rfl, o'⟩, s'.ext⟩
      have n11 : ∀ bb, (bb = true → E = [doV 4 m.txn []]) → (bb = false → E = []) → F12_k11 m.txn none 0 0 bb h4 fun v h' => RDeeds e h v h' E ∧ Ext h h' := by
        intro bb h1 h0
        unfold F12_k11
        refine br_of (fun g => ⟨rfl, by omega, newK_intro fun h5 n5 x5 _ => ?_⟩) (fun g => leaf [] (h0 g) _ _ _ _ s4 (OwnR.nil _ _ s4.ext))
        exact app_deeds (ds := []) [doV 4 m.txn []] (s4.grow x5) hL (OwnR.nil _ _ (s4.ext.trans x5)) n5 rfl (by omega) (by omega) fun a' c' h' s' o' => leaf _ (h1 g) _ _ _ _ s' o'
      have n10 : ∀ bb, (bb = true → E = [doV 3 m.txn [], doV 1 m.txn [], sendV p.root 5 m.txn false]) → (bb = false → E = if m.kind = 4 then (if p.staged = m.txn then [doV 4 m.txn []] else []) else []) → F12_k10 (at0 b2) (at0 b3) m.txn none 0 0 bb h4 fun v h' => RDeeds e h v h' E ∧ Ext h h' := by
        intro bb h1 h0
        unfold F12_k10
        refine br_of (fun g => ?_) (fun g => ?_)
        · refine ⟨1, m.txn, none, 0, 0, 0, 0, 0, 0, false, none, 0, 0, fun h' _ => settle_ok m.txn h', p.root, p.staged, d.a, d.l, d.c, s4.cell 1 rfl rfl, s4.cell 1 rfl rfl, s4.cell 1 rfl rfl, rfl, 5, 0, none, 0, 0, 5, p.root, 0, m.txn, false, none, 0, 0, fun h' _ => refSend_ok p d 5 m.txn false h', rfl, rfl, rfl, by omega, fun b h5 hb x5 n5 => ?_⟩
          exact app_deeds (ds := []) [doV 3 m.txn [], doV 1 m.txn [], sendV p.root 5 m.txn false] (s4.grow x5) hL (OwnR.nil _ _ (s4.ext.trans x5)) n5 rfl (by omega) (by omega) fun a' c' h' s' o' => leaf _ (h1 g) _ _ _ _ s' o'
        · have h0 := h0 g
          refine ⟨m.kind, ck, ?_⟩
          by_cases k4 : m.kind = 4
          · rw [if_pos k4] at h0
            refine keq k4 ⟨p.staged, cs, n11 _ (fun g => ?_) (fun g => ?_)⟩
            · rw [h0, if_pos (by simpa using g)]
            · rw [h0, if_neg (by simpa using g)]
          · rw [if_neg k4] at h0
            exact kne k4 (n11 _ (fun g => by cases g) (fun _ => h0))
      have n8 : ∀ bb, (bb = true → E = (if bn = true then [doV 1 m.txn []] else []) ++ [sendV p.root 5 m.txn false]) → (bb = false → m.kind = 3 → E = if p.staged = m.txn then [doV 3 m.txn [], doV 1 m.txn [], sendV p.root 5 m.txn false] else []) → (bb = false → m.kind ≠ 3 → E = if m.kind = 4 then (if p.staged = m.txn then [doV 4 m.txn []] else []) else []) → F12_k8 (at0 b2) (at0 b3) m.txn bn none 0 0 bb h4 fun v h' => RDeeds e h v h' E ∧ Ext h h' := by
        intro bb h1 h3 h0
        unfold F12_k8
        refine br_of (fun g => ?_) (fun g => ?_)
        · have h1 := h1 g
          have ack : ∀ (ds : List DeedV) (a : Option Addr) (l c : Nat) (h' : Heap), E = ds ++ [sendV p.root 5 m.txn false] → l ≤ 3 → St h h' [⟨b3, (msgCells m e).toArray, 27⟩, ⟨b2, (partCells p d).toArray, 24⟩] → OwnR 37 9 h h' a l c (ds.map (rowOf e)) → F12_k9 (at0 b2) m.txn a l c h' fun v h' => RDeeds e h v h' E ∧ Ext h h' := by
            intro ds a l c h' he hl3 s' o'
            unfold F12_k9
            refine ⟨p.root, p.staged, d.a, d.l, d.c, s'.cell 1 rfl rfl, s'.cell 1 rfl rfl, s'.cell 1 rfl rfl, rfl, HEnt.use (refSend_ok p d 5 m.txn false h') ?_⟩
            rintro _ h5 ⟨rfl, x5⟩
            refine ⟨5, 0, none, 0, 0, 5, p.root, 0, m.txn, false, none, 0, 0, rfl, rfl, by omega, newK_intro fun h6 n6 x6 _ => ?_⟩
            exact app_deeds (ds := ds) [sendV p.root 5 m.txn false] ((s'.grow x5).grow x6) hL ((o'.grow x5).grow x6) n6 rfl (by omega) (by omega) fun a' c' h' s' o' => leaf _ he _ _ _ _ s' o'
          refine br_of (fun gb => ?_) (fun gb => ack [] _ _ _ _ (by rw [h1, gb]; rfl) (by omega) s4 (OwnR.nil _ _ s4.ext))
          refine HEnt.use (settle_ok m.txn h4) ?_
          rintro _ h5 ⟨rfl, x5⟩
          refine ⟨1, m.txn, none, 0, 0, 0, 0, 0, 0, false, none, 0, 0, rfl, rfl, by omega, newK_intro fun h6 n6 x6 _ => ?_⟩
          exact app_deeds (ds := []) [doV 1 m.txn []] ((s4.grow x5).grow x6) hL (OwnR.nil _ _ ((s4.ext.trans x5).trans x6)) n6 rfl (by omega) (by omega) fun a' c' h' s' o' => ack [doV 1 m.txn []] _ _ _ _ (by rw [h1, gb]; rfl) (by omega) s' o'
        · refine ⟨m.kind, ck, ?_⟩
          by_cases k3 : m.kind = 3
          · refine keq k3 ⟨p.staged, cs, n10 _ (fun gs => ?_) (fun gs => ?_)⟩
            · rw [h3 g k3, if_pos (by simpa using gs)]
            · rw [h3 g k3, if_neg (by simpa using gs), if_neg (by omega)]
          · exact kne k3 (n10 _ (fun g => by cases g) (fun _ => h0 g k3))
      have n7 : ∀ bb, (bb = true → E = [sendV p.root 2 m.txn (decide (p.staged = m.txn))]) → (bb = false → (m.kind = 3 → F12_k8 (at0 b2) (at0 b3) m.txn bn none 0 0 (decide (m.txn ∈ p.done)) h4 fun v h' => RDeeds e h v h' E ∧ Ext h h') ∧ (m.kind ≠ 3 → F12_k8 (at0 b2) (at0 b3) m.txn bn none 0 0 false h4 fun v h' => RDeeds e h v h' E ∧ Ext h h')) → F12_k7 (at0 b2) (at0 b3) m.txn (decide (m.txn ∈ p.done)) bn none 0 0 bb h4 fun v h' => RDeeds e h v h' E ∧ Ext h h' := by
        intro bb h1 h0
        unfold F12_k7
        refine br_of (fun g => ?_) (fun g => ?_)
        · refine ⟨p.root, p.staged, d.a, d.l, d.c, s4.cell 1 rfl rfl, s4.cell 1 rfl rfl, s4.cell 1 rfl rfl, rfl, p.staged, cs, ?_⟩
          rw [show ((p.staged : Int) == m.txn) = decide (p.staged = m.txn) from by by_cases h : p.staged = m.txn <;> simp [h]]
          refine HEnt.use (refSend_ok p d 2 m.txn _ h4) ?_
          rintro _ h5 ⟨rfl, x5⟩
          refine ⟨5, 0, none, 0, 0, 2, p.root, 0, m.txn, _, none, 0, 0, rfl, rfl, by omega, newK_intro fun h6 n6 x6 _ => ?_⟩
          exact app_deeds (ds := []) [sendV p.root 2 m.txn (decide (p.staged = m.txn))] ((s4.grow x5).grow x6) hL (OwnR.nil _ _ ((s4.ext.trans x5).trans x6)) n6 rfl (by omega) (by omega) fun a' c' h' s' o' => leaf _ (h1 g) _ _ _ _ s' o'
        · refine ⟨m.kind, ck, ?_⟩
          by_cases k3 : m.kind = 3
          · exact keq k3 ((h0 g).1 k3)
          · exact kne k3 ((h0 g).2 k3)
      have stage : E = (if lastN p.done ≠ 0 then [doV 1 (lastN p.done) []] else []) ++ [doV 2 m.txn m.packs, sendV p.root 2 m.txn true] → F12_k4 (at0 b2) (at0 b3) m.txn (decide (m.txn ∈ p.done)) bn none 0 0 true h4 fun v h' => RDeeds e h v h' E ∧ Ext h h' := by
        intro he
        unfold F12_k4
        have k5 : ∀ (ds : List DeedV) (a : Option Addr) (l c : Nat) (h' : Heap), E = ds ++ [doV 2 m.txn m.packs, sendV p.root 2 m.txn true] → l ≤ 3 → St h h' [⟨b3, (msgCells m e).toArray, 27⟩, ⟨b2, (partCells p d).toArray, 24⟩] → OwnR 37 9 h h' a l c (ds.map (rowOf e)) → F12_k5 (at0 b2) (at0 b3) m.txn a l c h' fun v h' => RDeeds e h v h' E ∧ Ext h h' := by
          intro ds a l c h' he hl3 s' o'
          unfold F12_k5
          refine ⟨e.a, e.l, e.c, s'.cell 0 rfl rfl, p.root, p.staged, d.a, d.l, d.c, s'.cell 1 rfl rfl, s'.cell 1 rfl rfl, s'.cell 1 rfl rfl, rfl, 5, 0, none, 0, 0, 2, p.root, 0, m.txn, true, none, 0, 0, fun h' _ => refSend_ok p d 2 m.txn true h', rfl, rfl, by omega, fun b h5 hb x5 n5 => ?_⟩
          exact app_deeds (ds := ds) [doV 2 m.txn m.packs, sendV p.root 2 m.txn true] (s'.grow x5) hL (o'.grow x5) n5 rfl (by omega) (by omega) fun a' c' h' s' o' => leaf _ he _ _ _ _ s' o'
        refine br_of (fun _ => ⟨d.a, d.l, d.c, cd, br_of (fun g => ?_) (fun g => ?_)⟩) (fun g => by cases g)
        · have g : 0 < d.l := by
            have : (d.l : Int) > 0 := by simpa using g
            omega
          obtain ⟨q, x, hx, eq, hc⟩ := n4.get (i := d.l - 1) (by omega)
          have hnz : lastN p.done ≠ 0 := lastN_pos hg.2.2.2 (fun h0 => by rw [h0] at hlen; simp at hlen; omega)
          refine ⟨d.a, d.l, d.c, cd, d.a, d.l, d.c, cd, q, eq, by rw [hw g]; omega, by rw [hw g]; omega, x, by rw [hw g, Int.toNat_natCast]; exact hc, HEnt.use (settle_ok x h4) ?_⟩
          rintro _ h5 ⟨rfl, x5⟩
          refine ⟨1, x, none, 0, 0, 0, 0, 0, 0, false, none, 0, 0, rfl, rfl, by omega, newK_intro fun h6 n6 x6 _ => ?_⟩
          exact app_deeds (ds := []) [doV 1 x []] ((s4.grow x5).grow x6) hL (OwnR.nil _ _ ((s4.ext.trans x5).trans x6)) n6 rfl (by omega) (by omega) fun a' c' h' s' o' => k5 [doV 1 x []] _ _ _ _ (by rw [he, if_pos hnz, hlast x hx]) (by omega) s' o'
        · have g : ¬ (d.l : Int) > 0 := by simpa using g
          have hz : ¬ lastN p.done ≠ 0 := by rw [nil0 (by omega)]; decide
          exact k5 [] _ _ _ _ (by rw [he, if_neg hz]) (by omega) s4 (OwnR.nil _ _ s4.ext)
      have n4' : ∀ bb7, F12_k7 (at0 b2) (at0 b3) m.txn (decide (m.txn ∈ p.done)) bn none 0 0 bb7 h4 (fun v h' => RDeeds e h v h' E ∧ Ext h h') → (m.kind = 1 → bb7 = !(decide (m.txn ∈ p.done))) → (m.kind ≠ 1 → bb7 = false) → F12_k4 (at0 b2) (at0 b3) m.txn (decide (m.txn ∈ p.done)) bn none 0 0 false h4 fun v h' => RDeeds e h v h' E ∧ Ext h h' := by
        intro bb7 H h1 h0
        unfold F12_k4
        refine br_of (fun g => by cases g) (fun _ => ⟨m.kind, ck, ?_⟩)
        by_cases k1 : m.kind = 1
        · refine keq k1 ?_
          rw [← h1 k1]; exact H
        · refine kne k1 ?_
          rw [← h0 k1]; exact H
      unfold F12_k3
      refine ⟨m.kind, ck, ?_⟩
      by_cases k1 : m.kind = 1
      · rw [if_pos k1] at hE
        unfold prepV at hE
        refine keq k1 (br_of (fun g => ?_) (fun g => ?_))
        · have g : m.txn ∉ p.done := by simpa using g
          rw [if_neg g] at hE
          refine ⟨p.staged, cs, ?_⟩
          by_cases g3 : p.staged = 0
          · rw [show ((p.staged : Int) == 0) = true by simp [g3]]
            rw [if_neg (by omega), if_neg (fun h => h g3)] at hE
            exact stage hE.symm
          · rw [show ((p.staged : Int) == 0) = false by simp [g3]]
            refine n4' true (n7 _ (fun _ => ?_) (fun g => by cases g)) (fun _ => by simp [g]) (fun h => absurd k1 h)
            by_cases g2 : p.staged = m.txn
            · rw [if_pos g2] at hE
              rw [← hE, decide_eq_true g2]
            · rw [if_neg g2, if_pos g3] at hE
              rw [← hE, decide_eq_false g2]
        · have g : m.txn ∈ p.done := by simpa using g
          rw [if_pos g] at hE
          refine n4' false (n7 _ (fun g => by cases g) (fun _ => ⟨fun k3 => by omega, fun k3 => n8 _ (fun g => by cases g) (fun _ k => absurd k k3) (fun _ _ => by rw [← hE, if_neg (by omega)])⟩)) (fun _ => by simp [g]) (fun h => absurd k1 h)
      · rw [if_neg k1] at hE
        refine kne k1 (n4' false (n7 _ (fun g => by cases g) (fun _ => ⟨fun k3 => ?_, fun k3 => ?_⟩)) (fun h => absurd h k1) (fun _ => rfl))
        · rw [if_pos k3] at hE
          unfold commitV at hE
          refine n8 _ (fun g => ?_) (fun g _ => ?_) (fun _ h => absurd k3 h)
          · have g : m.txn ∈ p.done := by simpa using g
            have g1 : ¬ p.staged = m.txn := fun e => (hg.2.2.2.2 _ g).2.2 e.symm
            rw [if_neg g1] at hE
            by_cases g2 : lastN p.done = m.txn
            · rw [if_pos g2] at hE
              rw [if_pos (hbn.2 ⟨fun h => by rw [h] at g; simp at g, g2⟩), ← hE]; rfl
            · rw [if_neg g2, if_pos g] at hE
              rw [if_neg (fun h => g2 (hbn.1 h).2), ← hE]; rfl
          · have g : ¬ m.txn ∈ p.done := by simpa using g
            by_cases g1 : p.staged = m.txn
            · rw [if_pos g1] at hE
              rw [if_pos g1, hE]
            · have g2 : ¬ lastN p.done = m.txn := fun h => g (by rw [← h]; exact (last_mem (by omega)).2)
              rw [if_neg g1, if_neg g2, if_neg g] at hE
              rw [if_neg g1, hE]
        · rw [if_neg k3] at hE
          exact n8 _ (fun g => by cases g) (fun _ k => absurd k k3) (fun _ _ => hE.symm)
    unfold F12_k2
    refine ⟨m.txn, s4.cell 0 rfl rfl, d.a, d.l, d.c, cd, HEnt.use (in_ok d.a d.l d.c m.txn p.done h4 n4 (by omega)) ?_⟩
    rintro _ _ ⟨rfl, rfl⟩
    refine ⟨_, rfl, d.a, d.l, d.c, cd, br_of (fun g => ?_) (fun g => k3 _ ?_)⟩
    · have g : 0 < d.l := by
        have : (d.l : Int) > 0 := by simpa using g
        omega
      obtain ⟨q, x, hx, eq, hc⟩ := n4.get (i := d.l - 1) (by omega)
      refine ⟨d.a, d.l, d.c, cd, d.a, d.l, d.c, cd, q, eq, by rw [hw g]; omega, by rw [hw g]; omega, x, by rw [hw g, Int.toNat_natCast]; exact hc, k3 _ ?_⟩
      rw [beq_iff_eq, hlast x hx]
      exact ⟨fun e => ⟨fun h0 => by rw [h0] at hlen; simp at hlen; omega, e⟩, fun e => e.2⟩
    · have g : ¬ (d.l : Int) > 0 := by simpa using g
      rw [nil0 (by omega)]
      exact ⟨fun e => (by cases e), fun e => absurd rfl e.1⟩
  have k1 : ∀ bb h4, St h h4 [⟨b3, (msgCells m e).toArray, 27⟩, ⟨b2, (partCells p d).toArray, 24⟩] → (bb = true ↔ ¬ goodP p ∨ msgC m ≠ 0 ∨ m.to ≠ p.root) → F12_k1 (at0 b2) (at0 b3) bb h4 fun v h' => RDeeds e h v h' (takeV p m) ∧ Ext h h' := by
    intro bb h4 s4 hb
    unfold F12_k1
    refine br_of (fun g => ?_) (fun g => ?_)
    · unfold takeV
      rw [if_pos (hb.1 g)]
      exact ⟨RDeeds.nil_ s4.ext, s4.ext⟩
    · have g : ¬ (¬ goodP p ∨ msgC m ≠ 0 ∨ m.to ≠ p.root) := fun x => by rw [hb.2 x] at g; cases g
      exact k2 h4 s4 (Classical.not_not.1 fun x => g (.inl x)) (Classical.not_not.1 fun x => g (.inr (.inl x))) (Classical.not_not.1 fun x => g (.inr (.inr x)))
  refine ⟨p.root, p.staged, d.a, d.l, d.c, s2.cell 1 rfl rfl, s2.cell 1 rfl rfl, s2.cell 1 rfl rfl, rfl, HEnt.use (refGood_ok p d h2 (NumsAt.grow hn s2.ext) hl) ?_⟩
  rintro _ h3 ⟨rfl, x3⟩
  have s3 := s2.grow x3
  refine ⟨_, rfl, br_of (fun g => k1 _ _ s3 ?_) (fun g => ?_)⟩
  · have g : ¬ goodP p := by simpa using g
    exact ⟨fun _ => .inl g, fun _ => rfl⟩
  have g : goodP p := by simpa using g
  refine ⟨m.kind, m.from_, m.to, m.txn, m.yes, e.a, e.l, e.c, s3.cell 0 rfl rfl, s3.cell 0 rfl rfl, s3.cell 0 rfl rfl, s3.cell 0 rfl rfl, s3.cell 0 rfl rfl, s3.cell 0 rfl rfl, rfl, ?_⟩
  refine HEnt.use (refCheck_ok m e es h3 (hp.grow s3.ext) (by omega)) ?_
  rintro _ h4 ⟨rfl, x4⟩
  have s4 := s3.grow x4
  refine ⟨_, rfl, br_of (fun g2 => k1 _ _ s4 ?_) (fun g2 => ?_)⟩
  · have g2 : ¬ (msgC m : Int) = 0 := by simpa using g2
    exact ⟨fun _ => .inr (.inl (by omega)), fun _ => rfl⟩
  have g2 : (msgC m : Int) = 0 := by simpa using g2
  refine ⟨m.to, s4.cell 0 rfl rfl, p.root, s4.cell 1 rfl rfl, k1 _ _ s4 ?_⟩
  rw [bne_iff_ne]
  exact ⟨fun h => .inr (.inr h), fun h => (h.resolve_left fun x => x g).resolve_left fun x => x (by omega)⟩
end Go.Proofs.Ytelddmkdclhpoaa
