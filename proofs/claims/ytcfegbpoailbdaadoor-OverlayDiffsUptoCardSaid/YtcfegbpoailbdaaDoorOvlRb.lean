import Derived.Test.YtcfegbpoailbdaaDoorOvlP

namespace Go.Proofs.YtcfegbpoailbdaaDoor
open Go.Vc Go.Sha Go.Trail Go.Lay
set_option linter.unusedVariables false
set_option linter.unusedSimpArgs false
set_option maxRecDepth 20000
theorem find_at {es : List EntV} {i : Nat} {e : EntV} {P : EntV → Bool} (hi : es[i]? = some e) (hp : P e = true) (hn : ∀ f ∈ es.take i, P f = false) : es.find? P = some e := by
  have hlt := (List.getElem?_eq_some_iff.1 hi).1
  rw [← List.take_append_drop i es, List.find?_append, List.find?_eq_none.2 (fun f hf => by rw [hn f hf]; simp), Option.none_or]
  have : es.drop i = e :: es.drop (i + 1) := by
    rw [List.drop_eq_getElem_cons hlt]
    rw [List.getElem?_eq_getElem hlt] at hi
    rw [Option.some.inj hi]
  rw [this, List.find?_cons_of_pos hp]
/-- the place of a path: the first; or none -/
def HasR (es : List EntV) (p : ByteArray) (x : Int) : Prop := (x = -1 ∧ ∀ e ∈ es, e.path ≠ p) ∨ ∃ (i : Nat) (e : EntV), x = i ∧ es[i]? = some e ∧ e.path = p ∧ ∀ f ∈ es.take i, f.path ≠ p
theorem has_ok (a : Option Addr) (l c : Nat) (es : List EntV) (p : ByteArray) (h : Heap) (w : Tab 4 h a l c (ents es)) (hl : l < 2 ^ 40) :
    HEnt Tryd.prog 38 #[.slice a l c, .string p] h fun v h' => h' = h ∧ ∃ x, v = .int .i64 x ∧ HasR es p x := by
  have hlen := w.len
  rw [ents_len] at hlen
  refine F38_ent _ _ _ _ _ _ ?_
  unfold F38
  rintro _ rfl
  refine ⟨fun x hh => ∃ i : Nat, x = i ∧ i ≤ l ∧ hh = h ∧ ∀ e ∈ es.take i, e.path ≠ p, fun x _ => ((l : Int) - x).toNat, ⟨0, rfl, by omega, rfl, by simp⟩, ?_⟩
  rintro h1 _ ⟨i, rfl, hi, rfl, hn⟩
  unfold F38_b1
  refine br_of (fun gi => ?_) (fun gi => ?_)
  · have hil : i < l := by
      have : (i : Int) < (l : Int) := by simpa using gi
      omega
    have e1 : es[i]? = some (es[i]'(by omega)) := List.getElem?_eq_getElem (by omega)
    generalize es[i]'(by omega) = f at e1
    obtain ⟨q, eq, _, c0, _⟩ := ent_get w e1
    unfold F38_k2
    refine ⟨q, eq, by omega, by omega, f.path, by rw [Int.toNat_natCast]; exact c0, ?_⟩
    rw [seq_dec]
    refine br_of (fun g => ⟨rfl, _, rfl, .inr ⟨i, f, rfl, e1, by simpa using g, hn⟩⟩) (fun g => ?_)
    unfold F38_k3
    rintro _ rfl
    rw [wrapS i l hil (by omega)]
    refine ⟨⟨i + 1, rfl, by omega, rfl, fun e he => ?_⟩, lessS i l hil⟩
    rw [take_snoc e1, List.mem_append, List.mem_singleton] at he
    rcases he with he | rfl
    · exact hn e he
    · simpa using g
  · have hil : i = l := by
      have : ¬ (i : Int) < (l : Int) := by simpa using gi
      omega
    rw [List.take_of_length_le (by omega)] at hn
    unfold F38_k4
    exact ⟨rfl, _, rfl, .inl ⟨rfl, hn⟩⟩
def wayO (o : Option EntV) (way : Bool) (p : ByteArray) : Option EntV := match o with
  | none => if way = true then some (dirE p) else none
  | some e => if way = true ∧ e.kind = 1 then some (dirE p) else some e
theorem over_way (x : Option EntV) (hid way : Bool) (p : ByteArray) : overS x hid way p = wayO (if hid = true then none else x) way p := rfl
def SeenR (h0 : Heap) (o : Option EntV) : Value → Heap → Prop := fun v h' => v = .tuple #[eV (o.getD e0), .bool o.isSome] ∧ Ext h0 h'
theorem seen_ok (a : Option Addr) (l c : Nat) (stk : List (List EntV)) (hs : List HdE) (p : ByteArray) (hps : p.size < 2 ^ 40) (hl : l < 2 ^ 40) : ∀ (n : Nat) (h : Heap), StackE h a l c stk hs → n ≤ l →
    HEnt Tryd.prog 32 #[.slice a l c, .int .i64 (n : Int), .string p] h (SeenR h (seenS (stk.take n) p)) := by
  intro n
  induction n with
  | zero =>
    intro h t hn
    refine F32_ent _ _ _ _ _ _ _ ?_
    unfold F32
    refine newK_intro fun h1 hb1 x1 z1 => br_of (fun _ => ?_) (fun e => by cases e)
    refine storeK_whole (vs := entA e0) hb1 rfl zeroC38 (entA_one e0) fun h2 hb2 o2 => ?_
    have ec := ent_cells hb2
    exact ⟨_, _, _, _, ec.1, ec.2.1, ec.2.2.1, ec.2.2.2, rfl, rfl, Keep.since x1 (o2.keep rfl : Keep (· = h.size) h1 h2) fun j hj e => by omega⟩
  | succ n ih =>
    intro h t hn
    have hlt := t.length
    refine F32_ent _ _ _ _ _ _ _ ?_
    unfold F32
    refine newK_intro fun h1 hb1 x1 z1 => br_of (fun e => ?_) (fun _ => ?_)
    · have : ((n + 1 : Nat) : Int) = 0 := by simpa using e
      omega
    have ew : IntKind.i64.wrap (((n + 1 : Nat) : Int) - 1) = (n : Int) := by rw [i64_lt _ (by omega) (by omega)]; omega
    obtain ⟨q, es, d, s1, d1, eq, hc, tl, sm, dl⟩ := (t.grow x1).get (i := n) (by omega)
    have hel := tl.len
    rw [ents_len] at hel
    have hseen : seenS (stk.take (n + 1)) p = stepL (seenS (stk.take n)) es p := by
      rw [take_snoc s1, seenS_app]; rfl
    rw [hseen]
    -- what is handed back
    have ret : ∀ (h2 : Heap) (e : EntV), Ext h1 h2 → ∀ (K : Value → Heap → Prop), (∀ h3, Ext h h3 → K (eV e) h3) → storeK 4 h2 (at0 h.size) (.agg (entA e)) fun h3 => ∃ s0 : ByteArray, ∃ x1 : Int, ∃ x2 : Int, ∃ s3 : ByteArray, Vc.cell h3 ((at0 h.size).add 0) = some (.string s0) ∧ Vc.cell h3 ((at0 h.size).add 1) = some (.int .i64 x1) ∧ Vc.cell h3 ((at0 h.size).add 2) = some (.int .i64 x2) ∧ Vc.cell h3 ((at0 h.size).add 3) = some (.string s3) ∧ 4 = 4 ∧ K (.agg #[.string s0, .int .i64 x1, .int .i64 x2, .string s3]) h3 := by
      intro h2 e x2 K hK
      refine storeK_whole (vs := entA e) (x2.blk hb1) rfl zeroC38 (entA_one e) fun h3 hb3 o3 => ?_
      have ec := ent_cells hb3
      exact ⟨_, _, _, _, ec.1, ec.2.1, ec.2.2.1, ec.2.2.2, rfl, hK h3 (Keep.since (x1.trans x2) (o3.keep rfl : Keep (· = h.size) h2 h3) fun j hj e => by omega)⟩
    unfold F32_k1
    rw [ew]
    refine ⟨q, eq, by omega, by omega, d.a, d.l, d.c, by rw [Int.toNat_natCast]; exact hc, HEnt.use (has_ok d.a d.l d.c es p h1 tl dl) ?_⟩
    rintro _ h1' ⟨e1', x, rfl, hx⟩
    subst e1'
    refine ⟨x, rfl, br_of (fun g => ?_) (fun g => ?_)⟩
    · -- something is there
      have g : x ≥ 0 := by simpa using g
      rcases hx with ⟨hx, _⟩ | ⟨i, e, rfl, ei, hep, hfi⟩
      · omega
      have hil := (List.getElem?_eq_some_iff.1 ei).1
      have hfind : es.find? (fun e => decide (e.path = p)) = some e := find_at ei (by simpa using hep) fun f hf => by simpa using hfi f hf
      have hst : stepL (seenS (stk.take n)) es p = if e.kind = 3 then none else some (unB e) := by unfold stepL; rw [hfind]
      rw [hst]
      obtain ⟨q2, eq2, _, c0, c1, c2, c3⟩ := ent_get tl ei
      refine ⟨q2, eq2, by omega, by omega, e.kind, by rw [Int.toNat_natCast]; exact c1, br_of (fun k3 => ?_) (fun k3 => ?_)⟩
      · have k3 : e.kind = 3 := by simpa using k3
        rw [if_pos k3]
        exact ret h1' e0 (Ext.refl _) (fun v h' => SeenR h none (.tuple #[v, .bool false]) h') fun h3 x3 => ⟨rfl, x3⟩
      · have k3 : e.kind ≠ 3 := by simpa using k3
        rw [if_neg k3]
        unfold F32_k2
        refine ⟨q2, eq2, by omega, by omega, e.path, e.kind, e.mode, e.body, by rw [Int.toNat_natCast]; exact c0, by rw [Int.toNat_natCast]; exact c1, by rw [Int.toNat_natCast]; exact c2, by rw [Int.toNat_natCast]; exact c3, rfl, newK_intro fun h2 hb2 x2 z2 => ?_⟩
        refine storeK_whole (vs := entA e) hb2 rfl zeroC38 (entA_one e) fun h3 hb3 o3 => ?_
        have x13 : Ext h1' h3 := Keep.since x2 (o3.keep rfl : Keep (· = h1'.size) h2 h3) fun j hj e => by omega
        have fin : ∀ h4, Ext h1' h4 → h4[h1'.size]? = some (.cells (entA (unB e)) 38 (0, 0)) → F32_k3 (at0 h.size) (at0 h1'.size) h4 (SeenR h (some (unB e))) := by
          intro h4 x4 b4
          have ec := ent_cells b4
          unfold F32_k3
          exact ⟨_, _, _, _, ec.1, ec.2.1, ec.2.2.1, ec.2.2.2, rfl, ret h4 (unB e) x4 (fun v h' => SeenR h (some (unB e)) (.tuple #[v, .bool true]) h') fun h5 x5 => ⟨rfl, x5⟩⟩
        refine ⟨e.kind, (ent_cells hb3).2.1, br_of (fun k4 => ?_) (fun k4 => ?_)⟩
        · have k4 : e.kind = 4 := by simpa using k4
          rw [add_at0]
          refine storeK_one hb3 (show 1 < 4 by decide) (.inr (Nat.zero_le _)) rfl fun h4 hb4 o4 => ?_
          refine fin h4 (Keep.since x13 (o4.keep rfl : Keep (· = h1'.size) h3 h4) fun j hj e => by omega) ?_
          rw [show unB e = ⟨e.path, 2, e.mode, e.body⟩ by unfold unB; rw [if_pos k4]]
          exact hb4
        · have k4 : e.kind ≠ 4 := by simpa using k4
          refine fin h3 x13 ?_
          rw [show unB e = e by unfold unB; rw [if_neg k4]]
          exact hb3
    · -- nothing is there
      have g : ¬ x ≥ 0 := by simpa using g
      have hne : ∀ e ∈ es, e.path ≠ p := by
        rcases hx with ⟨_, hx⟩ | ⟨i, e, rfl, _⟩
        · exact hx
        · omega
      have hfind : es.find? (fun e => decide (e.path = p)) = none := List.find?_eq_none.2 fun e he => by simpa using hne e he
      have hst : stepL (seenS (stk.take n)) es p = overS (seenS (stk.take n) p) (es.any fun e => inB e.path p && decide (e.kind ≠ 2)) (es.any fun e => inB p e.path && decide (e.kind ≠ 3)) p := by
        unfold stepL; rw [hfind]
      rw [hst]
      unfold F32_k4
      refine ⟨fun b1 b2 x hh => ∃ i : Nat, x = i ∧ i ≤ d.l ∧ hh = h1' ∧ b1 = ((es.take i).any fun e => inB e.path p && decide (e.kind ≠ 2)) ∧ b2 = ((es.take i).any fun e => inB p e.path && decide (e.kind ≠ 3)), fun _ _ x _ => ((d.l : Int) - x).toNat, ⟨0, rfl, by omega, rfl, rfl, rfl⟩, ?_⟩
      rintro h2 b11 b12 _ ⟨i, rfl, hi, rfl, hb11, hb12⟩
      unfold F32_b5
      refine br_of (fun gi => ?_) (fun gi => ?_)
      · have hil : i < d.l := by
          have : (i : Int) < (d.l : Int) := by simpa using gi
          omega
        have e1 : es[i]? = some (es[i]'(by omega)) := List.getElem?_eq_getElem (by omega)
        generalize es[i]'(by omega) = f at e1
        obtain ⟨q2, eq2, _, c0, c1, _⟩ := ent_get tl e1
        have smf := (sm f (List.mem_of_getElem? e1)).1
        have t1 : ((es.take (i + 1)).any fun e => inB e.path p && decide (e.kind ≠ 2)) = (b11 || (inB f.path p && decide (f.kind ≠ 2))) := by
          rw [take_snoc e1, List.any_append, ← hb11]; simp
        have t2 : ((es.take (i + 1)).any fun e => inB p e.path && decide (e.kind ≠ 3)) = (b12 || (inB p f.path && decide (f.kind ≠ 3))) := by
          rw [take_snoc e1, List.any_append, ← hb12]; simp
        have k10 : ∀ b1 b2, b1 = (b11 || (inB f.path p && decide (f.kind ≠ 2))) → b2 = (b12 || (inB p f.path && decide (f.kind ≠ 3))) → F32_k10 (fun b1 b2 x hh => ∃ i : Nat, x = i ∧ i ≤ d.l ∧ hh = h2 ∧ b1 = ((es.take i).any fun e => inB e.path p && decide (e.kind ≠ 2)) ∧ b2 = ((es.take i).any fun e => inB p e.path && decide (e.kind ≠ 3)))
            (fun _ _ x _ => ((d.l : Int) - x).toNat) ((d.l : Int) - (i : Int)).toNat a l c ((n + 1 : Nat) : Int) p (at0 h.size) d.a d.l d.c b1 b2 i h2 (SeenR h (overS (seenS (stk.take n) p) (es.any fun e => inB e.path p && decide (e.kind ≠ 2)) (es.any fun e => inB p e.path && decide (e.kind ≠ 3)) p)) := by
          intro b1 b2 h1 h2
          unfold F32_k10
          rw [wrapS i d.l hil (by omega)]
          exact ⟨⟨i + 1, rfl, by omega, rfl, h1.trans t1.symm, h2.trans t2.symm⟩, lessS i d.l hil⟩
        have k9 : ∀ b1 b80, b1 = (b11 || (inB f.path p && decide (f.kind ≠ 2))) → b80 = (inB p f.path && decide (f.kind ≠ 3)) → F32_k9 (fun b1 b2 x hh => ∃ i : Nat, x = i ∧ i ≤ d.l ∧ hh = h2 ∧ b1 = ((es.take i).any fun e => inB e.path p && decide (e.kind ≠ 2)) ∧ b2 = ((es.take i).any fun e => inB p e.path && decide (e.kind ≠ 3)))
            (fun _ _ x _ => ((d.l : Int) - x).toNat) ((d.l : Int) - (i : Int)).toNat a l c ((n + 1 : Nat) : Int) p (at0 h.size) d.a d.l d.c b1 b12 i b80 h2 (SeenR h (overS (seenS (stk.take n) p) (es.any fun e => inB e.path p && decide (e.kind ≠ 2)) (es.any fun e => inB p e.path && decide (e.kind ≠ 3)) p)) := by
          intro b1 b80 h1 h3
          unfold F32_k9
          refine br_of (fun g => k10 b1 true h1 ?_) (fun g => k10 b1 b12 h1 ?_)
          · rw [← h3, g]; simp
          · rw [← h3, g]; simp
        have k8 : ∀ b1, b1 = (b11 || (inB f.path p && decide (f.kind ≠ 2))) → F32_k8 (fun b1 b2 x hh => ∃ i : Nat, x = i ∧ i ≤ d.l ∧ hh = h2 ∧ b1 = ((es.take i).any fun e => inB e.path p && decide (e.kind ≠ 2)) ∧ b2 = ((es.take i).any fun e => inB p e.path && decide (e.kind ≠ 3)))
            (fun _ _ x _ => ((d.l : Int) - x).toNat) ((d.l : Int) - (i : Int)).toNat a l c ((n + 1 : Nat) : Int) p (at0 h.size) d.a d.l d.c b1 b12 i h2 (SeenR h (overS (seenS (stk.take n) p) (es.any fun e => inB e.path p && decide (e.kind ≠ 2)) (es.any fun e => inB p e.path && decide (e.kind ≠ 3)) p)) := by
          intro b1 h1
          unfold F32_k8
          refine ⟨q2, eq2, by omega, by omega, f.path, by rw [Int.toNat_natCast]; exact c0, HEnt.use (refIn_ok p f.path (by omega) h2) ?_⟩
          rintro _ h3 ⟨rfl, rfl⟩
          refine ⟨_, rfl, br_of (fun g => ⟨q2, eq2, by omega, by omega, f.kind, by rw [Int.toNat_natCast]; exact c1, k9 b1 _ h1 ?_⟩) (fun g => k9 b1 false h1 ?_)⟩
          · rw [show inB p f.path = true from g]
            by_cases k : f.kind = 3 <;> simp [k]
          · rw [show inB p f.path = false from g]; rfl
        have k7 : ∀ b65, b65 = (inB f.path p && decide (f.kind ≠ 2)) → F32_k7 (fun b1 b2 x hh => ∃ i : Nat, x = i ∧ i ≤ d.l ∧ hh = h2 ∧ b1 = ((es.take i).any fun e => inB e.path p && decide (e.kind ≠ 2)) ∧ b2 = ((es.take i).any fun e => inB p e.path && decide (e.kind ≠ 3)))
            (fun _ _ x _ => ((d.l : Int) - x).toNat) ((d.l : Int) - (i : Int)).toNat a l c ((n + 1 : Nat) : Int) p (at0 h.size) d.a d.l d.c b11 b12 i b65 h2 (SeenR h (overS (seenS (stk.take n) p) (es.any fun e => inB e.path p && decide (e.kind ≠ 2)) (es.any fun e => inB p e.path && decide (e.kind ≠ 3)) p)) := by
          intro b65 h1
          unfold F32_k7
          refine br_of (fun g => k8 true ?_) (fun g => k8 b11 ?_)
          · rw [← h1, g]; simp
          · rw [← h1, g]; simp
        unfold F32_k6
        refine ⟨q2, eq2, by omega, by omega, f.path, by rw [Int.toNat_natCast]; exact c0, HEnt.use (refIn_ok f.path p (by omega) h2) ?_⟩
        rintro _ h3 ⟨rfl, rfl⟩
        refine ⟨_, rfl, br_of (fun g => ⟨q2, eq2, by omega, by omega, f.kind, by rw [Int.toNat_natCast]; exact c1, k7 _ ?_⟩) (fun g => k7 false ?_)⟩
        · rw [show inB f.path p = true from g]
          by_cases k : f.kind = 2 <;> simp [k]
        · rw [show inB f.path p = false from g]; rfl
      · have hil : i = d.l := by
          have : ¬ (i : Int) < (d.l : Int) := by simpa using gi
          omega
        rw [List.take_of_length_le (by omega)] at hb11 hb12
        rw [← hb11, ← hb12]
        generalize seenS (stk.take n) p = o at *
        unfold F32_k11
        refine newK_intro fun h3 hb3 x3 z3 => ?_
        refine storeK_whole (vs := entA e0) hb3 rfl zeroC38 (entA_one e0) fun h4 hb4 o4 => ?_
        have x24 : Ext h2 h4 := Keep.since x3 (o4.keep rfl : Keep (· = h2.size) h3 h4) fun j hj e => by omega
        -- with what is seen below
        have k12 : ∀ (h5 : Heap) (ob : Option EntV), Ext h2 h5 → h5[h2.size]? = some (.cells (entA (ob.getD e0)) 38 (0, 0)) → (if b11 = true then none else o) = ob → F32_k12 p (at0 h.size) b12 (at0 h2.size) ob.isSome h5 (SeenR h (overS o b11 b12 p)) := by
          intro h5 ob x5 b5 hob
          have ec := ent_cells b5
          have hov : overS o b11 b12 p = wayO ob b12 p := by rw [over_way, hob]
          have hdir : overS o b11 b12 p = some (dirE p) → F32_k13 p (at0 h.size) (at0 h2.size) ob.isSome true h5 (SeenR h (overS o b11 b12 p)) := by
            intro he
            unfold F32_k13
            refine br_of (fun _ => ?_) (fun e => by cases e)
            rw [he]
            exact ret h5 (dirE p) x5 (fun v h' => SeenR h (some (dirE p)) (.tuple #[v, .bool true]) h') fun h6 x6 => ⟨rfl, x6⟩
          have hsame : overS o b11 b12 p = ob → F32_k13 p (at0 h.size) (at0 h2.size) ob.isSome false h5 (SeenR h (overS o b11 b12 p)) := by
            intro he
            unfold F32_k13
            refine br_of (fun e => by cases e) (fun _ => ?_)
            unfold F32_k14
            rw [he]
            exact ⟨_, _, _, _, ec.1, ec.2.1, ec.2.2.1, ec.2.2.2, rfl, ret h5 (ob.getD e0) x5 (fun v h' => SeenR h ob (.tuple #[v, .bool ob.isSome]) h') fun h6 x6 => ⟨rfl, x6⟩⟩
          unfold F32_k12
          cases hob2 : ob with
          | none =>
            subst hob2
            refine br_of (fun g => br_of (fun _ => hdir (by rw [hov, g]; rfl)) (fun e => by cases e)) (fun g => hsame (by rw [hov, g]; rfl))
          | some e =>
            subst hob2
            refine br_of (fun g => br_of (fun e => by cases e) (fun _ => ⟨e.kind, ec.2.1, ?_⟩)) (fun g => hsame (by rw [hov, g]; simp [wayO]))
            by_cases k1 : e.kind = 1
            · rw [show (e.kind == 1) = true by simp [k1]]
              exact hdir (by rw [hov]; simp [wayO, g, k1])
            · rw [show (e.kind == 1) = false by simp [k1]]
              exact hsame (by rw [hov]; simp [wayO, k1])
        refine br_of (fun g => ?_) (fun g => ?_)
        · have hb : b11 = false := by simpa using g
          rw [ew]
          refine HEnt.use (ih h4 (t.grow (x1.trans x24)) (by omega)) ?_
          rintro _ h5 ⟨rfl, x5⟩
          refine ⟨_, _, _, _, _, rfl, ?_⟩
          refine storeK_whole (vs := entA (o.getD e0)) (x5.blk hb4) rfl rfl (entA_one _) fun h6 hb6 o6 => ?_
          exact k12 h6 o (Keep.since (x24.trans x5) (o6.keep rfl : Keep (· = h2.size) h5 h6) fun j hj e => by omega) hb6 (by rw [hb]; rfl)
        · have hb : b11 = true := by simpa using g
          exact k12 h4 none x24 hb4 (by rw [if_pos hb])
end Go.Proofs.YtcfegbpoailbdaaDoor
