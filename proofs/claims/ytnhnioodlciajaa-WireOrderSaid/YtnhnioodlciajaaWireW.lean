/- Chapter 14: the law WireOrder. -/
import Derived.Test.YtnhnioodlciajaaWireV
import Derived.Test.YtnhnioodlciajaaVwpE
namespace Go.Wire
open Go.Vc Go.Packs Go.Proofs Go.Proofs.Ytnhnioodlciajaa
set_option linter.unusedVariables false
/-- one link and one box -/
def chM (f t : Int) (ls bs : List MsgV) : NetM := fun k => if k = .link f t then ls else if k = .box t then bs else []
theorem chM_link (f t : Int) (ls bs : List MsgV) : chM f t ls bs (.link f t) = ls := by unfold chM; rw [if_pos rfl]
theorem chM_box (f t : Int) (ls bs : List MsgV) : chM f t ls bs (.box t) = bs := by unfold chM; rw [if_neg (fun e => by cases e), if_pos rfl]
theorem upd_link (f t : Int) (ls bs l : List MsgV) : updM (chM f t ls bs) (.link f t) l = chM f t l bs := by
  funext k; unfold updM chM; split <;> rfl
theorem upd_box (f t : Int) (ls bs l : List MsgV) : updM (chM f t ls bs) (.box t) l = chM f t ls l := by
  funext k; unfold updM chM
  by_cases h : k = .box t
  · rw [if_pos h, if_neg (fun e => by rw [h] at e; cases e), if_pos h]
  · simp only [if_neg h]
theorem chM_nil (f t : Int) : chM f t [] [] = fun _ => [] := by funext k; unfold chM; split; rfl; split <;> rfl
theorem send_cases (M : NetM) (m : MsgV) : ((sendN M m).1 = 0 ∧ (M (.link m.from_ m.to)).length < 64 ∧ (sendN M m).2 = updM M (.link m.from_ m.to) (M (.link m.from_ m.to) ++ [m])) ∨ ((sendN M m).1 ≠ 0 ∧ (sendN M m).2 = M) := by
  unfold sendN
  split
  · rename_i h
    exact .inr ⟨by show ((msgC m : Nat) : Int) ≠ 0; omega, rfl⟩
  · unfold putN
    split
    · exact .inr ⟨by show (7 : Int) ≠ 0; decide, rfl⟩
    · rename_i h
      exact .inl ⟨rfl, by omega, rfl⟩
theorem deliver_ch {f t : Int} {m : MsgV} {ls bs : List MsgV} (h0 : ¬ (f = 0 ∧ t = 0)) (hb : bs.length < 64) : deliverN (chM f t (m :: ls) bs) f t 0 = (0, chM f t ls (bs ++ [m])) := by
  have e : thereN (chM f t (m :: ls) bs) f t 0 = 0 := by
    unfold thereN
    rw [chM_link, if_neg (fun e => e.elim h0 fun e => e.elim (by omega) fun e => by simp at e; omega)]
  unfold deliverN outN
  rw [if_neg (fun h => h e), chM_box, if_neg (by omega), chM_link]
  show ((0 : Int), updM (updM (chM f t (m :: ls) bs) (.box t) (bs ++ [m])) (.link f t) ((updM (chM f t (m :: ls) bs) (.box t) (bs ++ [m]) (.link f t)).eraseIdx 0)) = _
  rw [upd_box, chM_link, upd_link]
  rfl
theorem take_ch (f t : Int) (m : MsgV) (ls bs : List MsgV) : takeM (chM f t ls (m :: bs)) t = chM f t ls bs := by
  unfold takeM
  rw [chM_box, upd_box]; rfl
/-- a net, and what was sent beside it -/
structure OI (h h' : Heap) (q : Nat) (F G : Nat → Prop) (M : NetM) (a : Option Addr) (l c : Nat) (sent : List MsgV) : Prop where
  net : NetAt F h' q M
  fr : ∀ k, F k → h.size ≤ k
  sl : SlotAt G h' a l c sent
  gr : ∀ k, G k → h.size ≤ k ∧ k < h'.size
  dis : ∀ k, F k → ¬ G k
  ext : Ext h h'
theorem OI.grow {h h1 h2 : Heap} {q : Nat} {F G : Nat → Prop} {M : NetM} {a : Option Addr} {l c : Nat} {sent : List MsgV} (o : OI h h1 q F G M a l c sent) (x : Ext h1 h2) : OI h h2 q F G M a l c sent :=
  ⟨o.net.grow x, o.fr, o.sl.keep' (x.keep (fun _ => False)) (fun _ h => h) (fun _ _ h => h), fun k hk => ⟨(o.gr k hk).1, Nat.lt_of_lt_of_le (o.gr k hk).2 x.size⟩, o.dis, o.ext.trans x⟩
/-- an operation on the net -/
theorem OI.op {h h1 h2 : Heap} {q : Nat} {F G : Nat → Prop} {M M' : NetM} {a : Option Addr} {l c : Nat} {sent : List MsgV} (o : OI h h1 q F G M a l c sent) (N : NetAt (Fx F h1 h2) h2 q M') (k : Keep F h1 h2) : OI h h2 q (Fx F h1 h2) G M' a l c sent :=
  ⟨N, fun j hj => hj.elim (o.fr j) (fun hj => by have := o.ext.size; omega), o.sl.keep' k (fun _ h => h) (fun j hj hf => o.dis j hf hj), fun j hj => ⟨(o.gr j hj).1, Nat.lt_of_lt_of_le (o.gr j hj).2 k.size⟩, fun j hj hg => hj.elim (fun hj => o.dis j hj hg) (fun hj => by have := (o.gr j hg).2; omega), Ext.thenKeep o.ext k o.fr⟩
end Go.Wire
namespace Go.Proofs.Ytnhnioodlciajaa
open Go.Vc Go.Sha Go.Trail Go.Packs Go.Wire
set_option linter.unusedVariables false
def OM (n : Nat) : Int → Heap → Nat := fun i _ => ((n : Int) - i).toNat
def OM3 (n : Nat) : Option Addr → Nat → Nat → Int → Heap → Nat := fun _ _ _ i _ => ((n : Int) - i).toNat
def OI1 (h : Heap) (q : Nat) (f t : Int) (n : Nat) : Option Addr → Nat → Nat → Int → Heap → Prop := fun a l c x h' => ∃ (k : Nat) (F G : Nat → Prop) (sent : List MsgV), x = k ∧ k ≤ n ∧ sent.length ≤ k ∧ sent.length ≤ 40 ∧ OI h h' q F G (chM f t sent []) a l c sent
def OI2 (h : Heap) (q : Nat) (f t : Int) (a : Option Addr) (l c : Nat) (sent : List MsgV) : Int → Heap → Prop := fun x h' => ∃ (k : Nat) (F G : Nat → Prop), x = k ∧ k ≤ sent.length ∧ OI h h' q F G (chM f t (sent.drop k) (sent.take k)) a l c sent
def OI3 (h : Heap) (q : Nat) (f t : Int) (a : Option Addr) (l c : Nat) (sent : List MsgV) : Int → Heap → Prop := fun x h' => ∃ (k : Nat) (F G : Nat → Prop), x = k ∧ k ≤ sent.length ∧ OI h h' q F G (chM f t [] (sent.drop k)) a l c sent

theorem drop_cons {α : Type} {l : List α} {k : Nat} {x : α} (h : l[k]? = some x) : l.drop k = x :: l.drop (k + 1) := by
  obtain ⟨hk, rfl⟩ := List.getElem?_eq_some_iff.1 h
  exact List.drop_eq_getElem_cons hk

theorem order3 {h h1 : Heap} {q : Nat} {f t : Int} {F G : Nat → Prop} {a : Option Addr} {l c : Nat} {sent : List MsgV} (hs : sent.length ≤ 40) (o : OI h h1 q F G (chM f t [] sent) a l c sent) :
    F5_k11 (some (at0 q)) f t a l c h1 fun v h' => v = .bool true ∧ Ext h h' := by
  have hl := o.sl.len
  unfold F5_k11
  refine ⟨OI3 h q f t a l c sent, OM sent.length, ⟨0, F, G, rfl, by omega, o⟩, ?_⟩
  rintro h2 _ ⟨k, F, G, rfl, hk, o⟩
  unfold F5_b12
  refine br_of (fun g => ?_) (fun g => ?_)
  · have hk' : k < sent.length := by
      have : (k : Int) < (l : Int) := by simpa using g
      omega
    have hm : sent[k]? = some (sent[k]'hk') := List.getElem?_eq_getElem _
    generalize sent[k]'hk' = m at hm
    rw [drop_cons hm] at o
    unfold F5_k13
    have hbx := chM_box f t [] (m :: sent.drop (k + 1))
    refine HEnt.use (take_ok o.net t) ?_
    rintro _ h3 ⟨⟨d, es, rfl, tm⟩, N3, k3⟩
    rw [hbx] at tm
    rw [take_ch] at N3
    have o3 := o.op N3 k3
    rw [hbx]
    refine ⟨m.kind, m.from_, m.to, m.txn, m.yes, d.a, d.l, d.c, true, rfl, (St.start h3).new fun b14 h4 s4 x4 _ => ?_⟩
    refine s4.storeAll 0 rfl rfl zeroC24 (vs := (msgCells m d).toArray) (by simp [msgCells, one]) fun h5 s5 on5 => ?_
    simp only [List.set_cons_zero] at s5
    have o5 := o3.grow s5.ext
    have tm5 : MsgF (Fx F h2 h3) h5 m d es := tm.keep' (s5.ext.keep (fun _ => False)) (fun _ h => h) (fun _ _ h => h)
    obtain ⟨qs, ds, fs, ea, hlt, ts, _, hw⟩ := o5.sl.get hm
    refine ⟨Ext, Ext.refl, fun _ _ _ x y => x.trans y, br_of (fun g => by cases g) (fun _ => ?_)⟩
    refine ⟨m.kind, m.from_, m.to, m.txn, m.yes, d.a, d.l, d.c, s5.quietAgg (P := Try.prog) 0 rfl Try.underlying24 rfl (by show 6 = Try.prog.cellsOf 24; rw [size24]), qs, ea, by omega, by omega, m.kind, m.from_, m.to, m.txn, m.yes, ds.a, ds.l, ds.c, by rw [Int.toNat_natCast]; exact hw, HEnt.use (msg_same m d ds es fs h5 tm5.packs ts.packs (by have := tm5.l1; omega) (fun x hx => by have := tm5.l2 x hx; omega)) ?_⟩
    rintro _ h6 ⟨rfl, x6⟩
    refine ⟨true, rfl, trivial, ?_⟩
    unfold F5_k14
    refine br_of (fun g => by cases g) (fun _ => ?_)
    unfold F5_k15
    rw [wrap_succ k _ hk' (by omega)]
    exact ⟨⟨k + 1, _, G, rfl, by omega, o5.grow x6⟩, less_succ _ _ hk'⟩
  · have hk' : k = sent.length := by
      have : ¬ (k : Int) < (l : Int) := by simpa using g
      omega
    rw [hk', List.drop_length] at o
    have hbx := chM_box f t [] []
    unfold F5_k16
    refine HEnt.use (take_ok o.net t) ?_
    rintro _ h3 ⟨⟨d, es, rfl, tm⟩, N3, k3⟩
    rw [hbx]
    have htm : takeM (chM f t [] []) t = chM f t [] [] := by unfold takeM; rw [hbx, upd_box]; rfl
    rw [htm] at N3
    have o3 := o.op N3 k3
    refine ⟨0, 0, 0, 0, false, d.a, d.l, d.c, false, rfl, (St.start h3).new fun b14 h4 s4 x4 _ => ?_⟩
    refine s4.storeAll 0 rfl rfl zeroC24 (vs := (msgCells zeroM d).toArray) (by simp [msgCells, one]) fun h5 s5 on5 => ?_
    simp only [List.set_cons_zero] at s5
    have o5 := o3.grow s5.ext
    refine br_of (fun _ => HEnt.use (link_ok o5.net f t) ?_) (fun g => by cases g)
    rintro _ h6 ⟨a6, l6, c6, rfl, t6⟩
    have e6 := t6.len
    rw [chM_link] at e6
    refine ⟨a6, l6, c6, rfl, br_of (fun _ => HEnt.use (works_ok h6) ?_) (fun g => by rw [e6] at g; simp at g)⟩
    rintro _ h7 ⟨rfl, x7⟩
    exact ⟨true, rfl, rfl, (o5.ext.trans t6.ext).trans x7⟩

theorem order2 {h h1 : Heap} {q : Nat} {f t : Int} {F G : Nat → Prop} {a : Option Addr} {l c : Nat} {sent : List MsgV} (h0 : ¬ (f = 0 ∧ t = 0)) (hs : sent.length ≤ 40) (o : OI h h1 q F G (chM f t sent []) a l c sent) :
    F5_k7 (some (at0 q)) f t a l c h1 fun v h' => v = .bool true ∧ Ext h h' := by
  have hl := o.sl.len
  unfold F5_k7
  refine ⟨OI2 h q f t a l c sent, OM sent.length, ⟨0, F, G, rfl, by omega, o⟩, ?_⟩
  rintro h2 _ ⟨k, F, G, rfl, hk, o⟩
  unfold F5_b8
  refine br_of (fun g => ?_) (fun g => ?_)
  · have hk' : k < sent.length := by
      have : (k : Int) < (l : Int) := by simpa using g
      omega
    have hm : sent[k]? = some (sent[k]'hk') := List.getElem?_eq_getElem _
    generalize sent[k]'hk' = m at hm
    rw [drop_cons hm] at o
    unfold F5_k9
    refine HEnt.use (deliver_ok o.net f t 0) ?_
    rintro _ h3 ⟨rfl, N3, k3⟩
    rw [deliver_ch h0 (by rw [List.length_take]; omega)] at N3 ⊢
    refine ⟨0, rfl, br_of (fun g => by cases g) (fun _ => ?_)⟩
    unfold F5_k10
    rw [wrap_succ k _ hk' (by omega)]
    rw [← takeR_succ hm] at N3
    exact ⟨⟨k + 1, _, G, rfl, by omega, o.op N3 k3⟩, less_succ _ _ hk'⟩
  · have hk' : k = sent.length := by
      have : ¬ (k : Int) < (l : Int) := by simpa using g
      omega
    rw [hk', List.drop_length, List.take_length] at o
    exact order3 hs o

theorem order1 {h h1 : Heap} {q : Nat} {f t : Int} {F G : Nat → Prop} {a0 : Option Addr} {n c0 : Nat} (h0 : ¬ (f = 0 ∧ t = 0)) (hn : n < 9223372036854775808) (hms : MsgsAt h a0 n) (o : OI h h1 q F G (chM f t [] []) none 0 0 []) :
    F5_k2 a0 n c0 (some (at0 q)) f t h1 fun v h' => v = .bool true ∧ Ext h h' := by
  unfold F5_k2
  refine ⟨OI1 h q f t n, OM3 n, ⟨0, F, G, [], rfl, by omega, by simp, by simp, o⟩, ?_⟩
  rintro h2 a l c _ ⟨k, F, G, sent, rfl, hk, hs, hs40, o⟩
  have done : F5_k7 (some (at0 q)) f t a l c h2 fun v h' => v = .bool true ∧ Ext h h' := order2 h0 hs40 o
  unfold F5_b3
  refine br_of (fun g => ?_) (fun _ => ?_)
  case refine_2 =>
    unfold F5_k4
    exact br_of (fun g => by cases g) (fun _ => done)
  have hk' : k < n := by
    have : (k : Int) < (n : Int) := by simpa using g
    omega
  unfold F5_k4
  refine br_of (fun g => ?_) (fun _ => done)
  have hk40 : k < 40 := by
    have : (k : Int) < 40 := by simpa using g
    omega
  obtain ⟨bm, om, m, e, es, rfl, hbm, hp, hc⟩ := hms k hk'
  have hcells : ∀ j v, (msgCells m e)[j]? = some v → Vc.cell h2 (((⟨bm, om, none⟩ : Addr).add ((k : Int).toNat * 6)).add j) = some v := fun j v hv => by
    rw [Int.toNat_natCast, add_mk, add_mk]; exact o.ext.some (hc j v hv)
  have hl := o.sl.len
  unfold F5_k5
  refine ⟨⟨bm, om, none⟩, rfl, by omega, by omega, m.kind, m.from_, m.to, m.txn, m.yes, e.a, e.l, e.c, hcells 0 _ rfl, hcells 1 _ rfl, hcells 2 _ rfl, hcells 3 _ rfl, hcells 4 _ rfl, hcells 5 _ rfl, rfl, HEnt.use (few_ok m e es h2 (hp.grow o.ext)) ?_⟩
  rintro _ h3 ⟨e', es', rfl, tw, x3⟩
  refine ⟨m.kind, m.from_, m.to, m.txn, m.yes, e'.a, e'.l, e'.c, rfl, (St.start h3).new fun b12 h4 s4 x4 _ => ?_⟩
  refine s4.storeAll 0 rfl rfl zeroC24 (vs := (msgCells (fewM m) e').toArray) (by simp [msgCells, one]) fun h5 s5 on5 => ?_
  simp only [List.set_cons_zero] at s5
  refine s5.store 0 rfl (k := 1) (Nat.le_of_ble_eq_true rfl) rfl fun h6 s6 on6 => ?_
  simp only [List.set_cons_zero] at s6
  refine s6.store 0 rfl (k := 2) (Nat.le_of_ble_eq_true rfl) rfl fun h7 s7 on7 => ?_
  simp only [List.set_cons_zero] at s7
  have s7 : St h3 h7 [⟨b12, (msgCells { fewM m with from_ := f, to := t } e').toArray, 24⟩] := s7
  have ll := few_len tw
  have oks := few_oks (PacksAt.oks hp)
  generalize hm' : ({ fewM m with from_ := f, to := t } : MsgV) = m' at *
  have hpk : m'.packs = (fewM m).packs := by rw [← hm']
  have hfr : m'.from_ = f := by rw [← hm']
  have hto : m'.to = t := by rw [← hm']
  rw [← hpk] at tw
  have oks' : ∀ p ∈ m'.packs, p.ok ∧ ∀ r ∈ p.refs, r.ok := by rw [hpk]; exact oks
  have x37 := s7.ext
  have x27 := x3.trans x37
  have o7 := o.grow x27
  have tw7 := tw.grow x37
  refine ⟨m'.kind, m'.from_, m'.to, m'.txn, m'.yes, e'.a, e'.l, e'.c, s7.cell 0 rfl rfl, s7.cell 0 rfl rfl, s7.cell 0 rfl rfl, s7.cell 0 rfl rfl, s7.cell 0 rfl rfl, s7.cell 0 rfl rfl, rfl, HEnt.use (send_ok o7.net m' e' es' (tw7.packs oks') ll.1 ll.2) ?_⟩
  rintro _ h8 ⟨rfl, N8, k8⟩
  have o8 := o7.op N8 k8
  have nF : ∀ j, h2.size ≤ j → ¬ F j := fun j hj hf => by have := o.net.bound j hf; omega
  have g12 := (s7.at_ 0 _ rfl).2
  have ge12 := (s7.at_ 0 _ rfl).1
  simp only at g12 ge12
  have g128 := k8.blk g12 (nF b12 (by have := x3.size; omega))
  have cc : ∀ j v, (msgCells m' e')[j]? = some v → Vc.cell h8 ((at0 b12).add j) = some v := fun j v hv => by rw [add_at0, cell_blk g128]; simpa using hv
  rcases send_cases (chM f t sent []) m' with ⟨z, hlt, e8⟩ | ⟨z, e8⟩
  · rw [hfr, hto, chM_link, upd_link] at e8
    rw [e8] at o8
    refine ⟨_, rfl, br_of (fun _ => ?_) (fun g => by rw [z] at g; cases g)⟩
    refine ⟨m'.kind, m'.from_, m'.to, m'.txn, m'.yes, e'.a, e'.l, e'.c, cc 0 _ rfl, cc 1 _ rfl, cc 2 _ rfl, cc 3 _ rfl, cc 4 _ rfl, cc 5 _ rfl, rfl, rfl, by omega, newK_intro fun h9 n9 x9 _ => ?_⟩
    have o9 := o8.grow x9
    -- what was sent, with what few made
    have z2 := x3.size
    have z37 := x37.size
    have z8 := k8.size
    have z9 := x9.size
    have tm7 : MsgF (fun j => G j ∨ (h2.size ≤ j ∧ j < h7.size)) h7 m' e' es' := twin_msg tw7 (fun j g1 g2 => .inr ⟨g1, g2⟩) ll.1 ll.2 oks'
    have nF7 : ∀ j, (h2.size ≤ j ∧ j < h7.size) → ¬ F j := fun j hj => nF j hj.1
    have tm9 : MsgF (fun j => G j ∨ (h2.size ≤ j ∧ j < h7.size)) h9 m' e' es' := (tm7.keep' k8 (fun _ h => h) (fun j hj hf => hj.elim (fun hj => o.dis j hf hj) (fun hj => nF7 j hj hf))).keep' (x9.keep (fun _ => False)) (fun _ h => h) (fun _ _ h => h)
    have sl9 : SlotAt (fun j => G j ∨ (h2.size ≤ j ∧ j < h7.size)) h9 a l c sent := o9.sl.keep' (Keep.refl (fun _ => False) _) (fun _ h => .inl h) (fun _ _ h => h)
    have hb9 : h9[h8.size]? = some (.cells (msgCells m' e').toArray 24 (0, 0)) := n9
    refine SlotAt.push sl9 tm9 (by omega) (fun j hj => hj.elim (fun hj => (o9.gr j hj).2) (fun hj => by omega)) hb9 fun a' c' h10 sl10 k10 => ?_
    have z10 := k10.size
    unfold F5_k6
    rw [wrap_succ k _ hk' hn]
    refine ⟨⟨k + 1, Fx F h7 h8, _, sent ++ [m'], rfl, by omega, by simp; omega, by simp; omega, ⟨o9.net.keep k10 (fun j hj hg => ?_) (fun _ h => h) (fun j hj => Nat.lt_of_lt_of_le (o9.net.bound j hj) z10), o9.fr, sl10, fun j hj => ?_, fun j hj hg => ?_, ?_⟩⟩, less_succ _ _ hk'⟩
    · rcases hg with hg | hg
      · exact o9.dis j hj hg
      · rcases hj with hj | hj
        · exact nF7 j hg hj
        · omega
    · have e0 := o.ext.size
      rcases hj with (hj | hj) | hj
      · have := o9.gr j hj; omega
      · omega
      · omega
    · have b8 : j < h8.size := o8.net.bound j hj
      rcases hg with (hg | hg) | hg
      · exact o9.dis j hj hg
      · rcases hj with hj | hj
        · exact nF7 j hg hj
        · omega
      · omega
    · refine Ext.thenKeep o9.ext k10 fun j hj => ?_
      have e0 := o.ext.size
      rcases hj with hj | hj
      · exact (o9.gr j hj).1
      · omega
  · rw [e8] at o8
    refine ⟨_, rfl, br_of (fun g => absurd (by simpa using g) z) (fun _ => ?_)⟩
    unfold F5_k6
    rw [wrap_succ k _ hk' hn]
    exact ⟨⟨k + 1, _, G, sent, rfl, by omega, by omega, hs40, o8⟩, less_succ _ _ hk'⟩

theorem order_ok (a0 : Option Addr) (n c0 : Nat) (x : Int) (down : Bool) (h : Heap) (hn : n < 9223372036854775808) (hms : MsgsAt h a0 n) :
    HEnt Try.prog 5 #[.slice a0 n c0, .int .i64 x, .bool down] h fun v h' => v = .bool true ∧ Ext h h' := by
  refine F5_ent _ _ _ _ _ _ _ ?_
  have hrt := root_of x
  unfold F5
  generalize IntKind.i64.wrap (1 + ((IntKind.i64.wrap ((x.tmod 6) + 6)).tmod 6)) = rt at *
  refine ⟨by decide, by decide, HEnt.use (new_ok h) ?_⟩
  rintro _ h1 ⟨q, F, rfl, N1, x1, hF⟩
  have o : ∀ f t, OI h h1 q F (fun _ => False) (chM f t [] []) none 0 0 [] := fun f t => ⟨by rw [chM_nil]; exact N1, hF, SlotAt.nil _ _, fun k hk => hk.elim, fun _ _ h => h, x1⟩
  have hr : rt ≠ 0 := fun e => by unfold rootP at hrt; omega
  refine ⟨_, rfl, br_of (fun g => by cases g) (fun _ => ?_)⟩
  unfold F5_k1
  exact br_of (fun _ => order1 (fun e => hr e.2) hn hms (o 0 rt)) (fun _ => order1 (fun e => hr e.1) hn hms (o rt 0))
end Go.Proofs.Ytnhnioodlciajaa
