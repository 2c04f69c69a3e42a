/- Chapter 14: the law WireApart. -/
import Derived.Test.YtnhnioodlciajaaWireX
import Derived.Test.YtnhnioodlciajaaVwpG
import Derived.LaidEqlPtr
namespace Go.Wire
open Go.Vc Go.Packs Go.Proofs Go.Proofs.Ytnhnioodlciajaa
set_option linter.unusedVariables false
/-- two nets that share nothing -/
structure AI (h h' : Heap) (qn qo : Nat) (F G : Nat → Prop) (M M' : NetM) : Prop where
  n : NetAt F h' qn M
  o : NetAt G h' qo M'
  fr : ∀ k, F k → h.size ≤ k
  gr : ∀ k, G k → h.size ≤ k
  dis : ∀ k, F k → ¬ G k
  ext : Ext h h'
theorem AI.grow {h h1 h2 : Heap} {qn qo : Nat} {F G : Nat → Prop} {M M' : NetM} (a : AI h h1 qn qo F G M M') (x : Ext h1 h2) : AI h h2 qn qo F G M M' := ⟨a.n.grow x, a.o.grow x, a.fr, a.gr, a.dis, a.ext.trans x⟩
theorem AI.opn {h h1 h2 : Heap} {qn qo : Nat} {F G : Nat → Prop} {M M' M2 : NetM} (a : AI h h1 qn qo F G M M') (N : NetAt (Fx F h1 h2) h2 qn M2) (k : Keep F h1 h2) : AI h h2 qn qo (Fx F h1 h2) G M2 M' :=
  ⟨N, a.o.keep k (fun j hj hf => a.dis j hf hj) (fun _ h => h) (fun j hj => Nat.lt_of_lt_of_le (a.o.bound j hj) k.size), fun j hj => hj.elim (a.fr j) (fun hj => by have := a.ext.size; omega), a.gr, fun j hj hg => hj.elim (fun hj => a.dis j hj hg) (fun hj => by have := a.o.bound j hg; omega), Ext.thenKeep a.ext k a.fr⟩
theorem AI.opo {h h1 h2 : Heap} {qn qo : Nat} {F G : Nat → Prop} {M M' M2 : NetM} (a : AI h h1 qn qo F G M M') (N : NetAt (Fx G h1 h2) h2 qo M2) (k : Keep G h1 h2) : AI h h2 qn qo F (Fx G h1 h2) M M2 :=
  ⟨a.n.keep k (fun j hj hg => a.dis j hj hg) (fun _ h => h) (fun j hj => Nat.lt_of_lt_of_le (a.n.bound j hj) k.size), N, a.fr, fun j hj => hj.elim (a.gr j) (fun hj => by have := a.ext.size; omega), fun j hf hj => hj.elim (a.dis j hf) (fun hj => by have := a.n.bound j hf; omega), Ext.thenKeep a.ext k a.gr⟩
/-- what a call is made from: the act, the two nets' pointers, the message -/
structure AL (h' : Heap) (F G T : Nat → Prop) (qn qo b8 b83 : Nat) (k f t a : Int) (m : MsgV) (e : Hdr) (fs : List Hdr) : Prop where
  g8 : h'[b8]? = some (.cells (actCells k f t a m e).toArray 50 (0, 0))
  g83 : h'[b83]? = some (.cells #[.pointer (some (at0 qn)), .pointer (some (at0 qo))] 26 (0, 0))
  tm : MsgF T h' m e fs
  tb : ∀ j, T j → j < h'.size
  dis : ∀ j, F j ∨ G j → ¬ T j ∧ j ≠ b8 ∧ j ≠ b83
theorem AL.op {h1 h2 : Heap} {F G T : Nat → Prop} {qn qo b8 b83 : Nat} {k f t a : Int} {m : MsgV} {e : Hdr} {fs : List Hdr} (l : AL h1 F G T qn qo b8 b83 k f t a m e fs) {S : Nat → Prop} (x : Keep S h1 h2) (hS : ∀ j, S j → F j ∨ G j) : AL h2 (fun j => F j ∨ (h1.size ≤ j ∧ j < h2.size)) (fun j => G j ∨ (h1.size ≤ j ∧ j < h2.size)) T qn qo b8 b83 k f t a m e fs := by
  have l8 := blk_lt l.g8
  have l83 := blk_lt l.g83
  refine ⟨x.blk l.g8 (fun hs => (l.dis _ (hS _ hs)).2.1 rfl), x.blk l.g83 (fun hs => (l.dis _ (hS _ hs)).2.2 rfl), l.tm.keep' x (fun _ h => h) (fun j hj hs => (l.dis j (hS j hs)).1 hj), fun j hj => Nat.lt_of_lt_of_le (l.tb j hj) x.size, fun j hj => ?_⟩
  by_cases ho : F j ∨ G j
  · exact l.dis j ho
  · have : h1.size ≤ j := by
      rcases hj with (hj | hj) | (hj | hj)
      · exact absurd (.inl hj) ho
      · exact hj.1
      · exact absurd (.inr hj) ho
      · exact hj.1
    exact ⟨fun ht => by have := l.tb j ht; omega, by omega, by omega⟩
theorem AL.less {h1 : Heap} {F G F' G' T : Nat → Prop} {qn qo b8 b83 : Nat} {k f t a : Int} {m : MsgV} {e : Hdr} {fs : List Hdr} (l : AL h1 F G T qn qo b8 b83 k f t a m e fs) (hF : ∀ j, F' j → F j) (hG : ∀ j, G' j → G j) : AL h1 F' G' T qn qo b8 b83 k f t a m e fs :=
  ⟨l.g8, l.g83, l.tm, l.tb, fun j hj => l.dis j (hj.imp (hF j) (hG j))⟩
/-- acts that may be read -/
def ActsAt (h : Heap) (a : Option Addr) (l : Nat) : Prop := ∀ i, i < l → ∃ (b o : Nat) (k f t c : Int) (m : MsgV) (e : Hdr) (es : List Hdr), a = some ⟨b, o, none⟩ ∧ b < h.size ∧ PacksAt h e.a e.l e.c m.packs es ∧ ∀ j v, (actCells k f t c m e)[j]? = some v → Vc.cell h ⟨b, o + i * 10 + j, none⟩ = some v
end Go.Wire
namespace Go.Proofs.Ytnhnioodlciajaa
open Go.Vc Go.Sha Go.Trail Go.Packs Go.Wire
set_option linter.unusedVariables false

theorem all_same {h0 h0' h : Heap} {a a' : Option Addr} {l l' c c' : Nat} {ms : List MsgV} (t : Copies h0 h a l c ms) (t' : Copies h0' h a' l' c' ms) (hl : ms.length ≤ 64) :
    HEnt Try.prog 30 #[.slice a l c, .slice a' l' c'] h fun v h' => v = .bool true ∧ Ext h h' := by
  refine F30_ent _ _ _ _ _ _ _ _ ?_
  have e1 := t.len
  have e2 := t'.len
  unfold F30
  refine br_of (fun g => by rw [e1, e2] at g; simp at g) (fun _ => ?_)
  unfold F30_k1
  rintro _ rfl
  refine ⟨fun x h' => ∃ k : Nat, x = k ∧ k ≤ l ∧ Ext h h', OM l, ⟨0, rfl, by omega, Ext.refl h⟩, ?_⟩
  rintro h1 _ ⟨k, rfl, hk, x1⟩
  unfold F30_b2
  refine br_of (fun g => ?_) (fun _ => ?_)
  · have hk' : k < l := by
      have : (k : Int) < (l : Int) := by simpa using g
      omega
    have hm : ms[k]? = some (ms[k]'(by omega)) := List.getElem?_eq_getElem _
    generalize ms[k]'(by omega) = m at hm
    obtain ⟨q, d, es, ea, _, hp, l1, l2, _, hw⟩ := Copies.get (t.grow x1) hm
    obtain ⟨q', d', es', ea', _, hp', l1', l2', _, hw'⟩ := Copies.get (t'.grow x1) hm
    unfold F30_k3
    refine ⟨Ext, Ext.refl, fun _ _ _ x y => x.trans y, q, ea, by omega, by omega, m.kind, m.from_, m.to, m.txn, m.yes, d.a, d.l, d.c, by rw [Int.toNat_natCast]; exact hw, q', ea', by omega, by omega, m.kind, m.from_, m.to, m.txn, m.yes, d'.a, d'.l, d'.c, by rw [Int.toNat_natCast]; exact hw', HEnt.use (msg_same m d d' es es' h1 hp hp' (by omega) (fun x hx => by have := l2 x hx; omega)) ?_⟩
    rintro _ h2 ⟨rfl, x2⟩
    refine ⟨true, rfl, trivial, br_of (fun g => by cases g) (fun _ => ?_)⟩
    unfold F30_k4
    rintro _ rfl
    rw [wrap_succ k _ hk' (by omega)]
    exact ⟨⟨k + 1, rfl, by omega, x1.trans x2⟩, less_succ _ _ hk'⟩
  · unfold F30_k5
    exact ⟨rfl, x1⟩

/-- a call on a net -/
theorem apart_act {h : Heap} {q : Nat} {F T : Nat → Prop} {M : NetM} (N : NetAt F h q M) {b8 : Nat} {k f t a : Int} {m : MsgV} {e : Hdr} {fs : List Hdr} (g8 : h[b8]? = some (.cells (actCells k f t a m e).toArray 50 (0, 0))) (tm : MsgF T h m e fs) {I3 : Int → Heap → Prop} {M3 : Int → Heap → Nat} {m3 : Nat} {I11 : Int → Heap → Prop} {M11 : Int → Heap → Nat} {m11 : Nat} {a0 : Option Addr} {n0 c0 : Nat} {x1 : Int} {a5 a6 : Option Addr} {x7 : Int} {b9 : Bool} {a83 : Option Addr} {n83 c83 : Nat} {x84 x85 : Int} {R : Value → Heap → Prop}
    (hK : ∀ h', NetAt (Fx F h h') h' q (actN M k f t a m) → Keep F h h' → F7_k14 I3 M3 m3 I11 M11 m11 a0 n0 c0 x1 a5 a6 x7 (at0 b8) b9 a83 n83 c83 x84 x85 h' R) :
    F7_k15 I3 M3 m3 I11 M11 m11 a0 n0 c0 x1 a5 a6 x7 (at0 b8) b9 (some (at0 q)) a83 n83 c83 x84 x85 h R := by
  have cc : ∀ j v, (actCells k f t a m e)[j]? = some v → Vc.cell h ((at0 b8).add j) = some v := fun j v hv => by rw [add_at0, cell_blk g8]; simpa using hv
  have cm : ∀ j v, (actCells k f t a m e)[4 + j]? = some v → Vc.cell h (((at0 b8).add 4).add j) = some v := fun j v hv => by rw [add_at0, add_mk, cell_blk g8]; simpa using hv
  have keq : ∀ {b : Int} {p q : Prop}, k = b → p → br ((k : Int) == b) p q := fun e h => br_of (fun _ => h) (fun g => by simp [e] at g)
  have kne : ∀ {b : Int} {p q : Prop}, k ≠ b → q → br ((k : Int) == b) p q := fun e h => br_of (fun g => absurd (by simpa using g) e) (fun _ => h)
  unfold F7_k15
  refine ⟨k, cc 0 _ rfl, ?_⟩
  unfold actN at hK
  by_cases k0 : k = 0
  · rw [if_pos k0] at hK
    refine keq k0 ⟨m.kind, m.from_, m.to, m.txn, m.yes, e.a, e.l, e.c, cm 0 _ rfl, cm 1 _ rfl, cm 2 _ rfl, cm 3 _ rfl, cm 4 _ rfl, cm 5 _ rfl, rfl, HEnt.use (send_ok N m e fs tm.packs tm.l1 tm.l2) ?_⟩
    rintro _ h1 ⟨rfl, N1, k1⟩
    exact ⟨_, rfl, hK h1 N1 k1⟩
  rw [if_neg k0] at hK
  refine kne k0 ?_
  by_cases k1 : k = 1
  · rw [if_pos k1] at hK
    refine keq k1 ⟨f, cc 1 _ rfl, t, cc 2 _ rfl, a, cc 3 _ rfl, HEnt.use (deliver_ok N f t a) ?_⟩
    rintro _ h1 ⟨rfl, N1, k1⟩
    exact ⟨_, rfl, hK h1 N1 k1⟩
  rw [if_neg k1] at hK
  refine kne k1 ?_
  by_cases k2 : k = 2
  · rw [if_pos k2] at hK
    refine keq k2 ⟨f, cc 1 _ rfl, t, cc 2 _ rfl, a, cc 3 _ rfl, HEnt.use (drop_ok N f t a) ?_⟩
    rintro _ h1 ⟨rfl, N1, k1⟩
    exact ⟨_, rfl, hK h1 N1 k1⟩
  rw [if_neg k2] at hK
  refine kne k2 ?_
  by_cases k3 : k = 3
  · rw [if_pos k3] at hK
    refine keq k3 ⟨f, cc 1 _ rfl, t, cc 2 _ rfl, a, cc 3 _ rfl, HEnt.use (double_ok N f t a) ?_⟩
    rintro _ h1 ⟨rfl, N1, k1⟩
    exact ⟨_, rfl, hK h1 N1 k1⟩
  rw [if_neg k3] at hK
  refine kne k3 ?_
  by_cases k4 : k = 4
  · rw [if_pos k4] at hK
    refine keq k4 ⟨t, cc 2 _ rfl, HEnt.use (take_ok N t) ?_⟩
    rintro _ h1 ⟨⟨d, es, rfl, _⟩, N1, k1⟩
    exact ⟨_, _, _, _, _, d.a, d.l, d.c, _, rfl, hK h1 N1 k1⟩
  rw [if_neg k4] at hK
  refine kne k4 ⟨t, cc 2 _ rfl, HEnt.use (clear_ok N t) ?_⟩
  rintro _ h1 ⟨rfl, N1, k1⟩
  exact ⟨_, rfl, hK h1 N1 k1⟩

theorem eqAt_ptr {P : Program} {t te : TypeId} {h : Heap} {a : Option Addr} {b : Addr} {K : Bool → Prop} (hu : P.underlying t = some (.pointer te)) (H : ∃ c : Bool, (∀ w : World, Ext h w.heap → (Op.equal t (.pointer a) (.pointer (some b))).run P w = .ok c w) ∧ P.eqGuardType P.depth t = false ∧ K c) : vcEqlAt P t h (.pointer a) (.pointer (some b)) K := by
  unfold vcEqlAt
  rw [hu]
  exact H
theorem eqg26 : Try.prog.eqGuardType Try.prog.depth 26 = false := by kernel_rfl
theorem info62 : ∃ j, Try.prog.info? 62 = some j ∧ j.size ≠ 0 := ⟨_, rfl, by decide⟩
theorem ptr_eq {h : Heap} {x y : Nat} {cx cy : Array Value} {tx ty : TypeId} (hx : h[x]? = some (.cells cx tx (0, 0))) (hy : h[y]? = some (.cells cy ty (0, 0))) (w : World) (e : Ext h w.heap) : (Op.equal 26 (.pointer (some (at0 x))) (.pointer (some (at0 y)))).run Try.prog w = .ok (decide (x = y)) w := by
  obtain ⟨j, hj, hsz⟩ := info62
  have und : Try.prog.underlying 26 = some (.pointer 62) := Try.underlying26
  by_cases hxy : x = y
  · subst hxy
    have h1 : ∀ d : Nat, (Op.equalIn (d + 1) 26 (.pointer (some (at0 x))) (.pointer (some (at0 x)))).run Try.prog w = .ok true w := fun d => by
      simp [Op.equalIn, run_underlying und, sizeOf, typeInfo, hj, run_sameAddr_same]
    simp [Op.equal, Op.maxDepth, h1 9999]
  · have hne : (at0 x) ≠ (at0 y) := fun e => hxy (by cases e; rfl)
    have h1 : ∀ d : Nat, (Op.equalIn (d + 1) 26 (.pointer (some (at0 x))) (.pointer (some (at0 y)))).run Try.prog w = .ok false w := fun d => by
      simp [Op.equalIn, run_underlying und, sizeOf, typeInfo, hj, hsz, run_sameAddr_other w hne (e.blk hx) (e.blk hy)]
    simp [Op.equal, Op.maxDepth, h1 9999, hxy]

theorem AI.bound {h h' : Heap} {qn qo : Nat} {F G : Nat → Prop} {M M' : NetM} (a : AI h h' qn qo F G M M') : qn < h'.size ∧ qo < h'.size ∧ qn ≠ qo := by
  obtain ⟨b1, b2, _, _, N⟩ := a.n
  obtain ⟨b3, b4, _, _, N'⟩ := a.o
  exact ⟨N.bound _ N.fq, N'.bound _ N'.fq, fun e => a.dis _ N.fq (e ▸ N'.fq)⟩
theorem AI.blocks {h h' : Heap} {qn qo : Nat} {F G : Nat → Prop} {M M' : NetM} (a : AI h h' qn qo F G M M') : (∃ cx, h'[qn]? = some (.cells cx 62 (0, 0))) ∧ ∃ cy, h'[qo]? = some (.cells cy 62 (0, 0)) := by
  obtain ⟨b1, b2, _, _, N⟩ := a.n
  obtain ⟨b3, b4, _, _, N'⟩ := a.o
  exact ⟨⟨_, N.net⟩, ⟨_, N'.net⟩⟩

def RI3 (h : Heap) (qn qo : Nat) (rt : Int) (n : Nat) : Int → Heap → Prop := fun x h' => ∃ (k : Nat) (F G : Nat → Prop) (M M' : NetM), x = k ∧ k ≤ n ∧ k ≤ 50 ∧ alikeM rt M M' ∧ validM M ∧ validM M' ∧ AI h h' qn qo F G M M'
/-- the two rounds of a call -/
def RI11 (h : Heap) (qn qo : Nat) (M M' : NetM) (mine : Bool) (T : Nat → Prop) (b8 b83 : Nat) (k f t a : Int) (m : MsgV) (e : Hdr) (fs : List Hdr) : Int → Heap → Prop := fun x h' => ∃ (F G : Nat → Prop) (j : Nat), x = j ∧ j ≤ 2 ∧ AL h' F G T qn qo b8 b83 k f t a m e fs ∧ AI h h' qn qo F G (if j = 0 then M else actN M k f t a m) (if j = 2 ∧ mine = true then actN M' k f t a m else M')

theorem apart_rounds {h h1 : Heap} {qn qo : Nat} {F G T : Nat → Prop} {M M' : NetM} {rt : Int} {n i : Nat} {mine : Bool} {b8 : Nat} {k f t a : Int} {m : MsgV} {e : Hdr} {fs : List Hdr} {a0 : Option Addr} {c0 : Nat} (hi : i < n) (hi50 : i < 50) (hn : n < 9223372036854775808) (hr : rootP rt) (hal : alikeM rt M M') (hv : validM M) (hv' : validM M') (hmine : mine = true ↔ mineP rt k f t m) (hs : ¬ (t = 0 ∧ (k = 1 ∨ k ≥ 4)))
    (A : AI h h1 qn qo F G M M') (g8 : h1[b8]? = some (.cells (actCells k f t a m e).toArray 50 (0, 0))) (tm : MsgF T h1 m e fs) (tb : ∀ j, T j → j < h1.size) (dis : ∀ j, F j ∨ G j → ¬ T j ∧ j ≠ b8) :
    F7_k10 (RI3 h qn qo rt n) (OM n) ((n : Int) - (i : Int)).toNat a0 n c0 rt (some (at0 qn)) (some (at0 qo)) (i : Int) (at0 b8) mine h1 fun v h' => v = .bool true ∧ Ext h h' := by
  unfold F7_k10
  refine ⟨by omega, newK_intro fun h2 n2 x2 e2 => ?_⟩
  have A2 := A.grow x2
  have L2 : AL h2 F G T qn qo b8 h1.size k f t a m e fs := ⟨x2.blk g8, n2, tm.keep' (x2.keep (fun _ => False)) (fun _ h => h) (fun _ _ h => h), fun j hj => Nat.lt_of_lt_of_le (tb j hj) x2.size, fun j hj => ⟨(dis j hj).1, (dis j hj).2, fun e => by
    have : j < h1.size := hj.elim (A.n.bound j) (A.o.bound j)
    omega⟩⟩
  generalize h1.size = b83 at *
  refine ⟨RI11 h qn qo M M' mine T b8 b83 k f t a m e fs, OM 2, ⟨F, G, 0, rfl, by omega, L2, by simpa using A2⟩, ?_⟩
  rintro h3 _ ⟨F3, G3, j, rfl, hj, L3, A3⟩
  obtain ⟨lq1, lq2, hne⟩ := AI.bound A3
  obtain ⟨⟨cx, hqn⟩, ⟨cy, hqo⟩⟩ := AI.blocks A3
  unfold F7_b11
  refine br_of (fun g => ?_) (fun g => ?_)
  case refine_2 =>
    have hj2 : j = 2 := by
      have : ¬ (j : Int) < 2 := by simpa using g
      omega
    subst hj2
    unfold F7_k9
    rw [wrap_succ i _ hi hn]
    refine ⟨⟨i + 1, F3, G3, _, _, rfl, by omega, by omega, ?_, ?_, ?_, A3⟩, less_succ _ _ hi⟩
    · rw [if_neg (by omega)]
      cases hm : mine with
      | true =>
        rw [if_pos ⟨rfl, rfl⟩]
        exact act_alike hr hal hv (hmine.1 hm) hs
      | false =>
        rw [if_neg (fun e => by cases e.2)]
        exact act_one hal (fun h => by rw [hmine.2 h] at hm; cases hm)
    · rw [if_neg (by omega)]
      exact act_valid k f t a m hv
    · split
      · exact act_valid k f t a m hv'
      · exact hv'
  have hj2 : j < 2 := by
    have : (j : Int) < 2 := by simpa using g
    omega
  have next : ∀ (h4 : Heap) (F4 G4 : Nat → Prop), AL h4 F4 G4 T qn qo b8 b83 k f t a m e fs → AI h h4 qn qo F4 G4 (if j + 1 = 0 then M else actN M k f t a m) (if j + 1 = 2 ∧ mine = true then actN M' k f t a m else M') →
      F7_k14 (RI3 h qn qo rt n) (OM n) ((n : Int) - (i : Int)).toNat (RI11 h qn qo M M' mine T b8 b83 k f t a m e fs) (OM 2) (OM 2 (j : Int) h3) a0 n c0 rt (some (at0 qn)) (some (at0 qo)) (i : Int) (at0 b8) mine (some (at0 b83)) 2 2 2 (j : Int) h4 fun v h' => v = .bool true ∧ Ext h h' := by
    intro h4 F4 G4 L4 A4
    unfold F7_k14
    have hw : IntKind.i64.wrap ((j : Int) + 1) = ((j + 1 : Nat) : Int) := wrap_succ j 2 hj2 (by omega)
    rw [hw]
    refine ⟨⟨F4, G4, j + 1, rfl, by omega, L4, A4⟩, ?_⟩
    have := less_succ j 2 hj2
    unfold OM
    exact this
  unfold F7_k12
  have hcell : ∀ v, (#[Value.pointer (some (at0 qn)), .pointer (some (at0 qo))] : Array Value)[j]? = some v → Vc.cell h3 ((at0 b83).add ((j : Int).toNat * 1)) = some v := fun v hv => by
    rw [Int.toNat_natCast, add_at0, Nat.mul_one, cell_blk L3.g83]; exact hv
  have hj01 : j = 0 ∨ j = 1 := by omega
  rcases hj01 with rfl | rfl
  · refine ⟨at0 b83, rfl, by omega, by omega, some (at0 qn), hcell _ rfl, ?_⟩
    refine eqAt_ptr Try.underlying26 ⟨false, fun w hw => by rw [ptr_eq hqn hqo w hw]; simp [hne], eqg26, br_of (fun g => by cases g) (fun _ => ?_)⟩
    unfold F7_k13
    refine br_of (fun g => by cases g) (fun _ => ?_)
    refine apart_act A3.n L3.g8 L3.tm fun h4 N4 k4 => ?_
    have L4 := (L3.op k4 (fun j hj => .inl hj)).less (F' := Fx F3 h3 h4) (G' := G3) (fun j hj => hj) (fun j hj => .inl hj)
    refine next h4 _ _ L4 ?_
    have A4 := A3.opn N4 k4
    simpa using A4
  · refine ⟨at0 b83, rfl, by omega, by omega, some (at0 qo), hcell _ rfl, ?_⟩
    refine eqAt_ptr Try.underlying26 ⟨true, fun w hw => by rw [ptr_eq hqo hqo w hw]; simp, eqg26, br_of (fun _ => ?_) (fun g => by cases g)⟩
    unfold F7_k13
    have e1 : (if 1 = 0 then M else actN M k f t a m) = actN M k f t a m := if_neg (by omega)
    have e2 : (if 1 = 2 ∧ mine = true then actN M' k f t a m else M') = M' := if_neg (fun e => by omega)
    rw [e1, e2] at A3
    refine br_of (fun g => ?_) (fun g => ?_)
    · have hm : mine = false := by simpa using g
      refine next h3 F3 G3 L3 ?_
      rw [if_neg (by omega), if_neg (fun e => by rw [hm] at e; cases e.2)]
      exact A3
    · have hm : mine = true := by simpa using g
      refine apart_act A3.o L3.g8 L3.tm fun h4 N4 k4 => ?_
      have L4 := (L3.op k4 (fun j hj => .inr hj)).less (F' := F3) (G' := Fx G3 h3 h4) (fun j hj => .inl hj) (fun j hj => hj)
      refine next h4 _ _ L4 ?_
      have A4 := A3.opo N4 k4
      rw [if_neg (by omega), if_pos ⟨rfl, hm⟩]
      exact A4

theorem link_few {F : Nat → Prop} {h : Heap} {q : Nat} {M : NetM} (N : NetAt F h q M) (k : Key) : (M k).length ≤ 64 := by
  obtain ⟨b1, b2, kl, kb, N⟩ := N
  obtain ⟨a, l, c, e, s⟩ := N.slot k
  exact s.few
theorem apart_end {h h1 : Heap} {qn qo : Nat} {F G : Nat → Prop} {M M' : NetM} {rt : Int} (hal : alikeM rt M M') (A : AI h h1 qn qo F G M M') : F7_k16 rt (some (at0 qn)) (some (at0 qo)) h1 fun v h' => v = .bool true ∧ Ext h h' := by
  unfold F7_k16
  refine HEnt.use (link_ok A.n 0 rt) ?_
  rintro _ h2 ⟨a1, l1, c1, rfl, t1⟩
  have A2 := A.grow t1.ext
  refine ⟨a1, l1, c1, rfl, HEnt.use (link_ok A2.o 0 rt) ?_⟩
  rintro _ h3 ⟨a2, l2, c2, rfl, t2⟩
  rw [← hal (.link 0 rt) (.inr rfl)] at t2
  have A3 := A2.grow t2.ext
  refine ⟨a2, l2, c2, rfl, HEnt.use (all_same (t1.grow t2.ext) t2 (link_few A.n _)) ?_⟩
  rintro _ h4 ⟨rfl, x4⟩
  have A4 := A3.grow x4
  refine ⟨true, rfl, br_of (fun _ => HEnt.use (link_ok A4.n rt 0) ?_) (fun g => by cases g)⟩
  rintro _ h5 ⟨a3, l3, c3, rfl, t3⟩
  have A5 := A4.grow t3.ext
  refine ⟨a3, l3, c3, rfl, HEnt.use (link_ok A5.o rt 0) ?_⟩
  rintro _ h6 ⟨a4, l4, c4, rfl, t4⟩
  rw [← hal (.link rt 0) (.inl rfl)] at t4
  have A6 := A5.grow t4.ext
  refine ⟨a4, l4, c4, rfl, HEnt.use (all_same (t3.grow t4.ext) t4 (link_few A.n _)) ?_⟩
  rintro _ h7 ⟨rfl, x7⟩
  have A7 := A6.grow x7
  refine ⟨true, rfl, br_of (fun _ => HEnt.use (box_ok A7.n rt) ?_) (fun g => by cases g)⟩
  rintro _ h8 ⟨a5, l5, c5, rfl, t5⟩
  have A8 := A7.grow t5.ext
  refine ⟨a5, l5, c5, rfl, HEnt.use (box_ok A8.o rt) ?_⟩
  rintro _ h9 ⟨a6, l6, c6, rfl, t6⟩
  rw [← hal (.box rt) rfl] at t6
  have A9 := A8.grow t6.ext
  refine ⟨a6, l6, c6, rfl, HEnt.use (all_same (t5.grow t6.ext) t6 (link_few A.n _)) ?_⟩
  rintro _ h10 ⟨rfl, x10⟩
  refine ⟨true, rfl, br_of (fun _ => HEnt.use (works_ok h10) ?_) (fun g => by cases g)⟩
  rintro _ h11 ⟨rfl, x11⟩
  exact ⟨true, rfl, rfl, (A9.ext.trans x10).trans x11⟩

theorem apart_loop {h h1 : Heap} {qn qo : Nat} {rt : Int} {n : Nat} {a0 : Option Addr} {c0 : Nat} {F G : Nat → Prop} (hn : n < 9223372036854775808) (hr : rootP rt) (hacts : ActsAt h a0 n) (A : AI h h1 qn qo F G (fun _ => []) (fun _ => [])) :
    F7_k2 a0 n c0 rt (some (at0 qn)) (some (at0 qo)) h1 fun v h' => v = .bool true ∧ Ext h h' := by
  unfold F7_k2
  refine ⟨RI3 h qn qo rt n, OM n, ⟨0, F, G, _, _, rfl, by omega, by omega, fun _ _ => rfl, fun _ _ _ => rfl, fun _ _ _ => rfl, A⟩, ?_⟩
  rintro h2 _ ⟨i, F, G, M, M', rfl, hi, hi50, hal, hv, hv', A⟩
  unfold F7_b3
  refine br_of (fun g => ?_) (fun _ => ?_)
  case refine_2 =>
    unfold F7_k4
    exact br_of (fun g => by cases g) (fun _ => apart_end hal A)
  have hi' : i < n := by
    have : (i : Int) < (n : Int) := by simpa using g
    omega
  unfold F7_k4
  refine br_of (fun g => ?_) (fun _ => apart_end hal A)
  have hi50' : i < 50 := by
    have : (i : Int) < 50 := by simpa using g
    omega
  obtain ⟨bm, om, k, f, t, c, m, e, es, rfl, hbm, hp, hc⟩ := hacts i hi'
  have hcells : ∀ j v, (actCells k f t c m e)[j]? = some v → Vc.cell h2 (((⟨bm, om, none⟩ : Addr).add ((i : Int).toNat * 10)).add j) = some v := fun j v hv => by
    rw [Int.toNat_natCast, add_mk, add_mk]; exact A.ext.some (hc j v hv)
  unfold F7_k5
  refine ⟨⟨bm, om, none⟩, rfl, by omega, by omega, k, f, t, c, m.kind, m.from_, m.to, m.txn, m.yes, e.a, e.l, e.c, hcells 0 _ rfl, hcells 1 _ rfl, hcells 2 _ rfl, hcells 3 _ rfl, hcells 4 _ rfl, hcells 5 _ rfl, hcells 6 _ rfl, hcells 7 _ rfl, hcells 8 _ rfl, hcells 9 _ rfl, rfl, (St.start h2).new fun b8 h3 s3 _ _ => ?_⟩
  refine s3.storeAll 0 rfl rfl (by kernel_rfl) (vs := (actCells k f t c m e).toArray) (by simp [actCells, one]) fun h4 s4 on4 => ?_
  simp only [List.set_cons_zero] at s4
  refine ⟨m.kind, m.from_, m.to, m.txn, m.yes, e.a, e.l, e.c, s4.cell2 0 rfl rfl, s4.cell2 0 rfl rfl, s4.cell2 0 rfl rfl, s4.cell2 0 rfl rfl, s4.cell2 0 rfl rfl, s4.cell2 0 rfl rfl, rfl, HEnt.use (few_ok m e es h4 (hp.grow (A.ext.trans s4.ext))) ?_⟩
  rintro _ h5 ⟨e', es', rfl, tw, x5⟩
  refine ⟨m.kind, m.from_, m.to, m.txn, m.yes, e'.a, e'.l, e'.c, rfl, ?_⟩
  have s5 := s4.grow x5
  have g8 := (s5.at_ 0 _ rfl).2
  have ge8 := (s5.at_ 0 _ rfl).1
  have lt8 := s4.lt (i := 0) rfl
  simp only at g8 ge8 lt8
  rw [add_at0]
  refine storeK_row (vs := (msgCells (fewM m) e').toArray) g8 rfl (by show 4 + 6 ≤ 10; omega) (fun _ _ _ => .inr (Nat.zero_le _)) (by simp [msgCells, one]) fun h6 g86 on6 => ?_
  have g86 : h6[b8]? = some (.cells (actCells k f t c (fewM m) e').toArray 50 (0, 0)) := g86
  have x26 : Ext h2 h6 := ⟨by have := s5.ext.size; have := on6.size; omega, fun j hj => (on6.block j (by omega)).trans (s5.ext.block j hj)⟩
  have A6 := A.grow x26
  have ll := few_len tw
  have oks := few_oks (PacksAt.oks hp)
  have z46 : h4.size ≤ h5.size := x5.size
  have z6 := on6.size
  have tm5 : MsgF (fun j => h4.size ≤ j ∧ j < h5.size) h5 (fewM m) e' es' := twin_msg tw (fun j g1 g2 => ⟨g1, g2⟩) ll.1 ll.2 oks
  have tm6 : MsgF (fun j => h4.size ≤ j ∧ j < h5.size) h6 (fewM m) e' es' := tm5.keep' (S := (· = b8)) (on6.keep rfl) (fun _ h => h) (fun j hj e => by omega)
  have z24 := s4.ext.size
  have dis : ∀ j, F j ∨ G j → ¬ (h4.size ≤ j ∧ j < h5.size) ∧ j ≠ b8 := fun j hj => by
    have : j < h2.size := hj.elim (A.n.bound j) (A.o.bound j)
    omega
  have cc : ∀ j v, (actCells k f t c (fewM m) e')[j]? = some v → Vc.cell h6 ((at0 b8).add j) = some v := fun j v hv => by rw [add_at0, cell_blk g86]; simpa using hv
  have cm : ∀ j v, (actCells k f t c (fewM m) e')[4 + j]? = some v → Vc.cell h6 (((at0 b8).add 4).add j) = some v := fun j v hv => by rw [add_at0, add_mk, cell_blk g86]; simpa using hv
  -- it is passed over, or done
  have k8 : ∀ mine sk : Bool, (mine = true ↔ mineP rt k f t (fewM m)) → (sk = true ↔ (t = 0 ∧ (k = 1 ∨ k ≥ 4))) → F7_k8 (RI3 h qn qo rt n) (OM n) ((n : Int) - (i : Int)).toNat (some ⟨bm, om, none⟩) n c0 rt (some (at0 qn)) (some (at0 qo)) (i : Int) (at0 b8) mine sk h6 fun v h' => v = .bool true ∧ Ext h h' := by
    intro mine sk hm hsk
    unfold F7_k8
    refine br_of (fun g => ?_) (fun g => ?_)
    · unfold F7_k9
      rw [wrap_succ i _ hi' hn]
      exact ⟨⟨i + 1, F, G, M, M', rfl, by omega, by omega, hal, hv, hv', A6⟩, less_succ _ _ hi'⟩
    · exact apart_rounds hi' hi50' hn hr hal hv hv' hm (fun h => by rw [hsk.2 h] at g; cases g) A6 g86 tm6 (fun j hj => by omega) dis
  have k7 : ∀ mine : Bool, (mine = true ↔ mineP rt k f t (fewM m)) → F7_k7 (RI3 h qn qo rt n) (OM n) ((n : Int) - (i : Int)).toNat (some ⟨bm, om, none⟩) n c0 rt (some (at0 qn)) (some (at0 qo)) (i : Int) (at0 b8) mine h6 fun v h' => v = .bool true ∧ Ext h h' := by
    intro mine hm
    unfold F7_k7
    refine ⟨t, cc 2 _ rfl, br_of (fun g => ⟨k, cc 0 _ rfl, br_of (fun g1 => k8 _ _ hm ?_) (fun g1 => ⟨k, cc 0 _ rfl, k8 _ _ hm ?_⟩)⟩) (fun g => k8 _ _ hm ?_)⟩
    · have g : t = 0 := by simpa using g
      have g1 : k = 1 := by simpa using g1
      exact ⟨fun _ => ⟨g, .inl g1⟩, fun _ => rfl⟩
    · have g : t = 0 := by simpa using g
      have g1 : ¬ k = 1 := by simpa using g1
      rw [decide_eq_true_eq]
      exact ⟨fun h => ⟨g, .inr h⟩, fun h => h.2.resolve_left g1⟩
    · have g : ¬ t = 0 := by simpa using g
      exact ⟨fun h => (by cases h), fun h => absurd h.1 g⟩
  have k6 : ∀ bb : Bool, (bb = true ↔ (f = rt ∨ t = rt)) → F7_k6 (RI3 h qn qo rt n) (OM n) ((n : Int) - (i : Int)).toNat (some ⟨bm, om, none⟩) n c0 rt (some (at0 qn)) (some (at0 qo)) (i : Int) (at0 b8) bb h6 fun v h' => v = .bool true ∧ Ext h h' := by
    intro bb hbb
    unfold F7_k6
    refine ⟨k, cc 0 _ rfl, br_of (fun g => ⟨(fewM m).from_, cm 1 _ rfl, br_of (fun g1 => k7 _ ?_) (fun g1 => ⟨(fewM m).to, cm 2 _ rfl, k7 _ ?_⟩)⟩) (fun g => k7 _ ?_)⟩
    · have g : k = 0 := by simpa using g
      have g1 : (fewM m).from_ = rt := by simpa using g1
      unfold mineP
      rw [if_pos g]
      exact ⟨fun _ => .inl g1, fun _ => rfl⟩
    · have g : k = 0 := by simpa using g
      have g1 : ¬ (fewM m).from_ = rt := by simpa using g1
      unfold mineP
      rw [if_pos g, beq_iff_eq]
      exact ⟨fun h => .inr h, fun h => h.resolve_left g1⟩
    · have g : ¬ k = 0 := by simpa using g
      unfold mineP
      rw [if_neg g]
      exact hbb
  refine ⟨f, cc 1 _ rfl, br_of (fun g => k6 _ ?_) (fun g => ⟨t, cc 2 _ rfl, k6 _ ?_⟩)⟩
  · have g : f = rt := by simpa using g
    exact ⟨fun _ => .inl g, fun _ => rfl⟩
  · have g : ¬ f = rt := by simpa using g
    rw [beq_iff_eq]
    exact ⟨fun h => .inr h, fun h => h.resolve_left g⟩

theorem apart_ok (a0 : Option Addr) (n c0 : Nat) (x : Int) (h : Heap) (hn : n < 9223372036854775808) (hacts : ActsAt h a0 n) :
    HEnt Try.prog 7 #[.slice a0 n c0, .int .i64 x] h fun v h' => v = .bool true ∧ Ext h h' := by
  refine F7_ent _ _ _ _ _ _ ?_
  have hrt := root_of x
  unfold F7
  generalize IntKind.i64.wrap (1 + ((IntKind.i64.wrap ((x.tmod 6) + 6)).tmod 6)) = rt at *
  refine ⟨by decide, by decide, HEnt.use (new_ok h) ?_⟩
  rintro _ h1 ⟨qn, F, rfl, N1, x1, hF⟩
  refine ⟨_, rfl, HEnt.use (new_ok h1) ?_⟩
  rintro _ h2 ⟨qo, G, rfl, N2, x2, hG⟩
  have A : AI h h2 qn qo F G (fun _ => []) (fun _ => []) := ⟨N1.grow x2, N2, hF, fun k hk => by have := hG k hk; have := x1.size; omega, fun k hf hg => by have := N1.bound k hf; have := hG k hg; omega, x1.trans x2⟩
  refine ⟨_, rfl, br_of (fun g => by cases g) (fun _ => ?_)⟩
  unfold F7_k1
  exact br_of (fun g => by cases g) (fun _ => apart_loop hn hrt hacts A)
end Go.Proofs.Ytnhnioodlciajaa
namespace Go.Proofs.Ytnhnioodlciajaa
open Go.Vc Go.Sha Go.Trail Go.Packs Go.Wire Go.ChangeShapes Go.WideShapes Go.ChangeAt Go.RowKit
variable {H : Type} {enc : TypeId × Value → H} {W : World} {hd : Bool}
theorem open_acts {t : TypeId} (ht : Try.prog.underlying t = some (.slice 50)) {v : Value} {d : DataW H} {ps : List MemPlace} {b0 : Nat} {r : Reach} (hval : Value.okWide Try.prog W r b0 t v) (h : DataW.Trod enc Try.prog W 0 (fun _ => true) hd t v d ps) : ∃ (a : Option Addr) (l c : Nat), v = .slice a l c ∧ l < 9223372036854775808 ∧ ActsAt W.heap a l := by
  obtain ⟨a, l, c, rfl⟩ := okWide_slice ht hval
  obtain ⟨fuel, h⟩ := h
  simp only [Value.cells] at h
  obtain ⟨a', l', c', rows, e, t, hl, hr⟩ := trod_tab ht size50 (by omega) h
  simp at e
  obtain ⟨rfl, rfl, rfl⟩ := e
  refine ⟨a, l, c, rfl, hl, fun i hi => ?_⟩
  have hlen := t.len
  have hx : rows[i]? = some (rows[i]'(by omega)) := List.getElem?_eq_getElem _
  generalize rows[i]'(by omega) = x at hx
  obtain ⟨_, _, hy⟩ := hr x (List.mem_of_getElem? hx)
  obtain ⟨k, f, t', c', m, e, es, rfl, hp⟩ := open_actcells hy
  obtain ⟨b, o, ea, hb, hc⟩ := t.at_ (fun e => by rw [e] at hx; simp at hx)
  exact ⟨b, o, k, f, t', c', m, e, es, ea, hb, hp, fun j v hv => hc i _ hx j v hv⟩
end Go.Proofs.Ytnhnioodlciajaa
