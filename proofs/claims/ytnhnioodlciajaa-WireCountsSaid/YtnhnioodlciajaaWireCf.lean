import Derived.Test.YtnhnioodlciajaaWireX
import Derived.Test.YtnhnioodlciajaaVwpH

namespace Go.Packs
deriving instance DecidableEq for RefV
deriving instance DecidableEq for PackV
deriving instance DecidableEq for MsgV
end Go.Packs
namespace Go.Wire
open Go.Vc Go.Packs Go.Sha Go.Trail Go.Proofs.Ytnhnioodlciajaa
theorem seq_eq (s t : ByteArray) : seq s t = decide (s = t) := by
  rw [seq_lst]
  exact decide_eq_decide.2 ⟨fun h => lst_inj h, fun h => h ▸ rfl⟩
theorem take_eq_succ {α : Type} {l l' : List α} {k : Nat} {x y : α} (hx : l[k]? = some x) (hy : l'[k]? = some y) : l.take (k + 1) = l'.take (k + 1) ↔ l.take k = l'.take k ∧ x = y := by
  rw [takeR_succ hx, takeR_succ hy]
  constructor
  · intro h
    have := List.append_inj h (by
      have h1 := (List.getElem?_eq_some_iff.1 hx).1
      have h2 := (List.getElem?_eq_some_iff.1 hy).1
      rw [List.length_take, List.length_take]; omega)
    exact ⟨this.1, by simpa using this.2⟩
  · rintro ⟨h, rfl⟩; rw [h]
theorem map_ofNat_inj {l l' : List Nat} : l.map Int.ofNat = l'.map Int.ofNat ↔ l = l' := by
  constructor
  · intro h
    exact List.map_inj_right (fun a b e => Int.ofNat.inj e) |>.1 h
  · rintro rfl; rfl
end Go.Wire
namespace Go.Proofs.Ytnhnioodlciajaa
open Go.Vc Go.Sha Go.Trail Go.Packs Go.Wire
set_option linter.unusedVariables false
theorem man_eq (nm vr nm' vr' : ByteArray) (a : Option Addr) (l c : Nat) (a' : Option Addr) (l' c' : Nat) (rs rs' : List RefV) (h : Heap) (hr : RefsAt h a l c rs) (hr' : RefsAt h a' l' c' rs') (hl : l < 9223372036854775808) :
    HEnt Try.prog 58 #[.agg #[.string nm, .string vr, .slice a l c], .agg #[.string nm', .string vr', .slice a' l' c']] h fun v h' => v = .bool (decide (nm = nm' ∧ vr = vr' ∧ rs = rs')) ∧ Ext h h' := by
  refine F58_ent _ _ _ _ _ _ _ _ _ _ _ _ ?_
  have e1 := hr.len
  have e2 := hr'.len
  unfold F58
  refine (St.start h).new fun b2 h1 s1 _ _ => s1.new fun b3 h2 s2 _ _ => ?_
  have c0 := s2.cell 1 rfl (k := 2) (v := .slice a l c) rfl
  have c1 := s2.cell 0 rfl (k := 2) (v := .slice a' l' c') rfl
  have no : ¬ (nm = nm' ∧ vr = vr' ∧ rs = rs') → F58_k1 (at0 b2) (at0 b3) true h2 fun v h' => v = .bool (decide (nm = nm' ∧ vr = vr' ∧ rs = rs')) ∧ Ext h h' := fun hn => by
    unfold F58_k1
    exact br_of (fun _ => ⟨by rw [decide_eq_false hn], s2.ext⟩) (fun g => by cases g)
  refine ⟨nm, s2.cell 1 rfl rfl, nm', s2.cell 0 rfl rfl, br_of (fun g => no fun hn => by simp [seq_eq, hn.1] at g) (fun g1 => ⟨vr, s2.cell 1 rfl rfl, vr', s2.cell 0 rfl rfl, br_of (fun g => no fun hn => by simp [seq_eq, hn.2.1] at g) (fun g2 => ⟨a, l, c, c0, a', l', c', c1, ?_⟩)⟩)⟩
  have g1 : nm = nm' := by simpa [seq_eq] using g1
  have g2 : vr = vr' := by simpa [seq_eq] using g2
  by_cases hll : ¬ l = l'
  · have : (((l : Int) : Int) != (l' : Int)) = true := by simpa using fun e : (l : Int) = l' => hll (by omega)
    rw [this]
    exact no fun hn => hll (by rw [← e1, ← e2, hn.2.2])
  have hll : l = l' := Decidable.of_not_not hll
  unfold F58_k1
  refine br_of (fun g => by simp at g; omega) (fun _ => ?_)
  unfold F58_k2
  rintro _ rfl
  have r2 := hr.grow s2.ext
  have r2' := hr'.grow s2.ext
  refine ⟨fun x h' => ∃ k : Nat, x = k ∧ k ≤ l ∧ h' = h2 ∧ rs.take k = rs'.take k, fun x _ => (l - x).toNat, ⟨0, rfl, by omega, rfl, rfl⟩, ?_⟩
  rintro h3 _ ⟨k, rfl, hk, rfl, hpre⟩
  unfold F58_b3
  refine ⟨a, l, c, c0, br_of (fun ht => ?_) (fun hf => ?_)⟩
  · have hk' : k < l := by
      have : (k : Int) < (l : Int) := by simpa using ht
      omega
    obtain ⟨q, x, hx, e, hok, hc, _, _⟩ := r2.get hk'
    obtain ⟨q', x', hx', e', hok', hc', _, _⟩ := r2'.get (i := k) (by omega)
    have hcl := cells_len x hok
    have hcl' := cells_len x' hok'
    unfold F58_k4
    refine ⟨a, l, c, c0, q, e, by omega, by omega, x.cells.toArray, by simp [hcl], by rw [Int.toNat_natCast]; exact hc, a', l', c', c1, q', e', by omega, by omega, x'.cells.toArray, by simp [hcl'], by rw [Int.toNat_natCast]; exact hc', decide (x = x'), fun w => ?_, eqg86, ?_⟩
    · have := run_equal_ref (P := Try.prog) Try.underlying86 held86 rfl rfl rfl rfl rfl rfl Try.underlying84 Try.underlying5 size5 size84 Try.underlying3 (x.sum.map Int.ofNat) (x'.sum.map Int.ofNat) (by simp [hok.1]) (by simp [hok'.1]) x.size x'.size w
      simp only [List.map_map] at this
      refine this.trans ?_
      congr 1
      refine decide_eq_decide.2 ?_
      rw [map_ofNat_inj]
      cases x; cases x'
      simp
    · rintro _ rfl
      refine br_of (fun g => ?_) (fun g => ?_)
      · have g : ¬ x = x' := by simpa using g
        refine ⟨?_, s2.ext⟩
        rw [decide_eq_false]
        rintro ⟨_, _, h⟩
        rw [h, hx'] at hx
        exact g (Option.some.inj hx).symm
      · have g : x = x' := by simpa using g
        unfold F58_k5
        rintro _ rfl
        rw [wrap_succ k _ hk' hl]
        exact ⟨⟨k + 1, rfl, by omega, rfl, (take_eq_succ hx hx').2 ⟨hpre, g⟩⟩, less_succ _ _ hk'⟩
  · have hk' : k = l := by
      have : ¬ (k : Int) < (l : Int) := by simpa using hf
      omega
    rw [List.take_of_length_le (by omega), List.take_of_length_le (by omega)] at hpre
    unfold F58_k6
    exact ⟨by rw [decide_eq_true ⟨g1, g2, hpre⟩], s2.ext⟩

theorem packs_eq (a : Option Addr) (l c : Nat) (a' : Option Addr) (l' c' : Nat) (ps ps' : List PackV) (ds ds' : List Hdr) (h : Heap) (hp : PacksAt h a l c ps ds) (hp' : PacksAt h a' l' c' ps' ds') (hl : l < 9223372036854775808) (hls : ∀ d ∈ ds, d.l < 9223372036854775808) :
    HEnt Try.prog 46 #[.slice a l c, .slice a' l' c'] h fun v h' => v = .bool (decide (ps = ps')) ∧ Ext h h' := by
  refine F46_ent _ _ _ _ _ _ _ _ ?_
  have e1 := hp.length
  have e2 := hp'.length
  unfold F46
  refine br_of (fun g => ⟨by
    rw [decide_eq_false]
    intro h
    have g : (l : Int) ≠ (l' : Int) := by simpa using g
    rw [h] at e1
    omega, Ext.refl h⟩) (fun g => ?_)
  have hll : l = l' := by
    have g : (l : Int) = (l' : Int) := by simpa using g
    omega
  unfold F46_k1
  rintro _ rfl
  refine ⟨fun x h' => ∃ k : Nat, x = k ∧ k ≤ l ∧ Ext h h' ∧ ps.take k = ps'.take k, fun x _ => (l - x).toNat, ⟨0, rfl, by omega, Ext.refl h, rfl⟩, ?_⟩
  rintro h1 _ ⟨k, rfl, hk, x1, hpre⟩
  unfold F46_b2
  refine br_of (fun ht => ?_) (fun hf => ?_)
  · have hk' : k < l := by
      have : (k : Int) < (l : Int) := by simpa using ht
      omega
    obtain ⟨q, x, d, hx, hd, e, _, hr, g0, g1, g2, g3⟩ := (hp.grow x1).get hk'
    obtain ⟨q', x', d', hx', hd', e', _, hr', g0', g1', g2', g3'⟩ := (hp'.grow x1).get (i := k) (by omega)
    have no : ¬ x = x' → ∀ h2, Ext h h2 → (fun (v : Value) h' => v = .bool (decide (ps = ps')) ∧ Ext h h') (.bool false) h2 := fun hn h2 y2 => ⟨by
      rw [decide_eq_false]
      intro h
      rw [h, hx'] at hx
      exact hn (Option.some.inj hx).symm, y2⟩
    unfold F46_k3
    simp only [hadd2, Int.toNat_natCast]
    refine ⟨q, e, by omega, by omega, x.owner, g0, q', e', by omega, by omega, x'.owner, g0', br_of (fun g => ?_) (fun g => ?_)⟩
    · intro h2 x2
      unfold F46_k4
      exact br_of (fun _ => no (fun hn => by rw [hn] at g; simp at g) h2 (x1.trans x2)) (fun g => by cases g)
    have go : x.owner = x'.owner := by simpa using g
    refine ⟨q, e, by omega, by omega, x.name, x.ver, d.a, d.l, d.c, g1, g2, g3, trivial, q', e', by omega, by omega, x'.name, x'.ver, d'.a, d'.l, d'.c, g1', g2', g3', trivial, decide (x.name = x'.name ∧ x.ver = x'.ver ∧ x.refs = x'.refs), ?_, ?_⟩
    · intro h2 x2
      exact man_eq x.name x.ver x'.name x'.ver d.a d.l d.c d'.a d'.l d'.c x.refs x'.refs h2 (hr.grow x2) (hr'.grow x2) (hls d (List.mem_of_getElem? hd))
    · intro h2 x2
      unfold F46_k4
      refine br_of (fun g => no (fun hn => by rw [hn] at g; simp at g) h2 (x1.trans x2)) (fun g => ?_)
      have g : x.name = x'.name ∧ x.ver = x'.ver ∧ x.refs = x'.refs := by simpa using g
      have hxx : x = x' := by cases x; cases x'; simp_all
      unfold F46_k5
      rintro _ rfl
      rw [wrap_succ k _ hk' hl]
      exact ⟨⟨k + 1, rfl, by omega, x1.trans x2, (take_eq_succ hx hx').2 ⟨hpre, hxx⟩⟩, less_succ _ _ hk'⟩
  · have hk' : k = l := by
      have : ¬ (k : Int) < (l : Int) := by simpa using hf
      omega
    rw [List.take_of_length_le (by omega), List.take_of_length_le (by omega)] at hpre
    unfold F46_k6
    exact ⟨by rw [decide_eq_true hpre], x1⟩

theorem msg_eq (m m' : MsgV) (d d' : Hdr) (ds ds' : List Hdr) (h : Heap) (hp : PacksAt h d.a d.l d.c m.packs ds) (hp' : PacksAt h d'.a d'.l d'.c m'.packs ds') (hl : d.l < 9223372036854775808) (hls : ∀ d ∈ ds, d.l < 9223372036854775808) :
    HEnt Try.prog 23 #[.agg (msgCells m d).toArray, .agg (msgCells m' d').toArray] h fun v h' => v = .bool (decide (m = m')) ∧ Ext h h' := by
  refine F23_ent _ _ _ _ _ _ _ _ _ _ _ _ _ _ _ _ _ _ ?_
  unfold F23
  refine (St.start h).new fun b2 h1 s1 _ _ => s1.new fun b3 h2 s2 _ _ => ?_
  have no : ¬ m = m' → (fun (v : Value) h' => v = .bool (decide (m = m')) ∧ Ext h h') (.bool false) h2 := fun hn => ⟨by rw [decide_eq_false hn], s2.ext⟩
  refine ⟨m.kind, s2.cell 1 rfl rfl, m'.kind, s2.cell 0 rfl rfl, br_of (fun g0 => ?_) (fun g => no fun e => by rw [e] at g; simp at g)⟩
  refine ⟨m.from_, s2.cell 1 rfl rfl, m'.from_, s2.cell 0 rfl rfl, br_of (fun g1 => ?_) (fun g => no fun e => by rw [e] at g; simp at g)⟩
  refine ⟨m.to, s2.cell 1 rfl rfl, m'.to, s2.cell 0 rfl rfl, br_of (fun g2 => ?_) (fun g => no fun e => by rw [e] at g; simp at g)⟩
  refine ⟨m.txn, s2.cell 1 rfl rfl, m'.txn, s2.cell 0 rfl rfl, br_of (fun g3 => ?_) (fun g => no fun e => by rw [e] at g; simp at g)⟩
  refine ⟨m.yes, s2.cell 1 rfl rfl, m'.yes, s2.cell 0 rfl rfl, br_of (fun g4 => ?_) (fun g => no fun e => by rw [e] at g; simp at g)⟩
  refine ⟨d.a, d.l, d.c, s2.cell 1 rfl rfl, d'.a, d'.l, d'.c, s2.cell 0 rfl rfl, HEnt.use (packs_eq d.a d.l d.c d'.a d'.l d'.c m.packs m'.packs ds ds' h2 (hp.grow s2.ext) (hp'.grow s2.ext) hl hls) ?_⟩
  rintro _ h3 ⟨rfl, x3⟩
  refine ⟨_, rfl, ?_, s2.ext.trans x3⟩
  congr 1
  refine decide_eq_decide.2 ⟨fun h5 => ?_, fun e => by rw [e]⟩
  cases m; cases m'
  simp at g0 g1 g2 g3 g4 h5
  subst g0; subst g1; subst g2; subst g3; subst g4; subst h5
  rfl
end Go.Proofs.Ytnhnioodlciajaa

namespace Go.Vc
set_option linter.unusedVariables false
theorem OwnS.store {el : TypeId} {n : Nat} {h : Heap} {a : Option Addr} {l c : Nat} {rows : List (List Value)} {i j : Nat} {r : List Value} {v : Value} {K : Heap → Prop} (o : OwnS el n h a l c rows) (hi : rows[i]? = some r) (hj : j < n) (h1 : one v = true)
    (hK : ∀ h', OwnS el n h' a l c (rows.set i (r.set j v)) → (∀ ad, a = some ad → Only ad.block h h') → K h') {q : Addr} (hq : a = some q) : storeK 1 h ((q.add (i * n)).add j) v K := by
  have hlt := (List.getElem?_eq_some_iff.1 hi).1
  have hr := o.row r (List.mem_of_getElem? hi)
  have hmul : (i + 1) * n ≤ l * n := Nat.mul_le_mul_right n (by have := o.len; omega)
  rw [Nat.succ_mul] at hmul
  rcases o.own with ⟨e, _⟩ | ⟨b, oo, cs, e, g2, g3, g4⟩
  · rw [e] at hq; cases hq
  · rw [e] at hq; cases hq
    have hcap : l * n ≤ c * n := Nat.mul_le_mul_right n o.cap
    rw [add_mk, add_mk]
    refine storeK_one g2 (by omega) (.inr (Nat.zero_le _)) h1 fun h' hb ho => hK h' ⟨by rw [List.length_set]; exact o.len, o.cap, fun q hq => ?_, .inr ⟨b, oo, _, e, hb, by simpa using g3, ?_⟩⟩ (fun ad e' => by rw [e] at e'; cases e'; exact ho)
    · rcases List.mem_or_eq_of_mem_set hq with hq | rfl
      · exact o.row q hq
      · rw [List.length_set]; exact hr
    · rw [flat_set o.row hi hj, ← g4]
      simp only [Array.toList_setIfInBounds]
      rw [List.drop_set, if_neg (by omega), ← List.take_set, show oo + i * n + j - oo = i * n + j by omega]
end Go.Vc
namespace Go.Wire
open Go.Vc Go.Packs Go.Proofs Go.Proofs.Ytnhnioodlciajaa
set_option linter.unusedVariables false
theorem slot_nq {G : Nat → Prop} {h : Heap} {a : Option Addr} {l c : Nat} {ms : List MsgV} (s : SlotAt G h a l c ms) {k : Nat} {cs : Array Value} {t : TypeId} (hk : h[k]? = some (.cells cs t (0, 0))) (ht : t ≠ 24) : ∀ ad, a = some ad → ad.block ≠ k := by
  intro ad ea hs
  obtain ⟨ds, o, _⟩ := s.ex
  obtain ⟨cs', g, _⟩ := o.type_ ea
  rw [hs, hk] at g
  injection g with g; injection g with _ g; exact ht g
theorem own_nq {el : TypeId} {n : Nat} {h : Heap} {a : Option Addr} {l c : Nat} {rows : List (List Value)} (o : OwnS el n h a l c rows) {k : Nat} {cs : Array Value} {t : TypeId} (hk : h[k]? = some (.cells cs t (0, 0))) (ht : t ≠ el) : ∀ ad, a = some ad → ad.block ≠ k := by
  intro ad ea hs
  obtain ⟨cs', g, _⟩ := o.type_ ea
  rw [hs, hk] at g
  injection g with g; injection g with _ g; exact ht g
def manyR (ns : List Int) : List (List Value) := ns.map fun z => [Value.int .i64 z]
theorem manyR_at {ns : List Int} {i : Nat} {z : Int} (h : ns[i]? = some z) : (manyR ns)[i]? = some [.int .i64 z] := by unfold manyR; rw [List.getElem?_map, h]; rfl
theorem manyR_set (ns : List Int) (i : Nat) (z : Int) : (manyR ns).set i [.int .i64 z] = manyR (ns.set i z) := by unfold manyR; rw [List.map_set]
theorem manyR_app (ns : List Int) (z : Int) : manyR ns ++ [[.int .i64 z]] = manyR (ns ++ [z]) := by unfold manyR; rw [List.map_append]; rfl
/-- messages, and a number for each -/
structure AddIn (G : Nat → Prop) (h : Heap) (b2 b3 : Nat) (aA : Option Addr) (lA cA : Nat) (aM : Option Addr) (lM cM : Nat) (alls : List MsgV) (ns : List Int) : Prop where
  c2 : h[b2]? = some (.cells #[.slice aA lA cA] 29 (0, 0))
  c3 : h[b3]? = some (.cells #[.slice aM lM cM] 47 (0, 0))
  sA : SlotAt G h aA lA cA alls
  sM : OwnS 3 1 h aM lM cM (manyR ns)
  len : ns.length = alls.length
  g2 : G b2
  g3 : G b3
  gM : ∀ ad, aM = some ad → G ad.block
  bound : ∀ k, G k → k < h.size
def AddAt (G : Nat → Prop) (h : Heap) (b2 b3 : Nat) (alls : List MsgV) (ns : List Int) : Prop := ∃ aA lA cA aM lM cM, AddIn G h b2 b3 aA lA cA aM lM cM alls ns
theorem AddIn.keep {S G G' : Nat → Prop} {h h' : Heap} {b2 b3 : Nat} {aA : Option Addr} {lA cA : Nat} {aM : Option Addr} {lM cM : Nat} {alls : List MsgV} {ns : List Int} (r : AddIn G h b2 b3 aA lA cA aM lM cM alls ns) (x : Keep S h h') (hS : ∀ k, G k → ¬ S k) (hG : ∀ k, G k → G' k) (hb : ∀ k, G' k → k < h'.size) : AddIn G' h' b2 b3 aA lA cA aM lM cM alls ns :=
  ⟨x.blk r.c2 (hS _ r.g2), x.blk r.c3 (hS _ r.g3), r.sA.keep' x hG hS, r.sM.keep x (fun ad e => hS _ (r.gM ad e)), r.len, hG _ r.g2, hG _ r.g3, fun ad e => hG _ (r.gM ad e), hb⟩
theorem AddAt.keep {S G G' : Nat → Prop} {h h' : Heap} {b2 b3 : Nat} {alls : List MsgV} {ns : List Int} (r : AddAt G h b2 b3 alls ns) (x : Keep S h h') (hS : ∀ k, G k → ¬ S k) (hG : ∀ k, G k → G' k) (hb : ∀ k, G' k → k < h'.size) : AddAt G' h' b2 b3 alls ns :=
  let ⟨_, _, _, _, _, _, r⟩ := r; ⟨_, _, _, _, _, _, r.keep x hS hG hb⟩
theorem AddAt.bound {G : Nat → Prop} {h : Heap} {b2 b3 : Nat} {alls : List MsgV} {ns : List Int} (r : AddAt G h b2 b3 alls ns) : ∀ k, G k → k < h.size := let ⟨_, _, _, _, _, _, r⟩ := r; r.bound
theorem AddAt.grow {G : Nat → Prop} {h h' : Heap} {b2 b3 : Nat} {alls : List MsgV} {ns : List Int} (r : AddAt G h b2 b3 alls ns) (x : Ext h h') : AddAt G h' b2 b3 alls ns :=
  r.keep (x.keep (fun _ => False)) (fun _ _ h => h) (fun _ h => h) (fun k hk => Nat.lt_of_lt_of_le (r.bound k hk) x.size)
theorem AddAt.len {G : Nat → Prop} {h : Heap} {b2 b3 : Nat} {alls : List MsgV} {ns : List Int} (r : AddAt G h b2 b3 alls ns) : ns.length = alls.length := let ⟨_, _, _, _, _, _, r⟩ := r; r.len
/-- both rows while they are appended to -/
structure AF (G : Nat → Prop) (x : Heap) (b2 b3 bl : Nat) (m : MsgV) (d : Hdr) (es : List Hdr) (v2 v3 : Array Value) (aA : Option Addr) (lA cA : Nat) (aM : Option Addr) (lM cM : Nat) (alls : List MsgV) (ns : List Int) : Prop where
  c2 : x[b2]? = some (.cells v2 29 (0, 0))
  c3 : x[b3]? = some (.cells v3 47 (0, 0))
  cl : x[bl]? = some (.cells (msgCells m d).toArray 24 (0, 0))
  sA : SlotAt G x aA lA cA alls
  sM : OwnS 3 1 x aM lM cM (manyR ns)
  tm : MsgF G x m d es
  nl : ∀ ad, aA = some ad → ad.block ≠ bl
  gM : ∀ ad, aM = some ad → G ad.block
theorem AF.ext {G : Nat → Prop} {x y : Heap} {b2 b3 bl : Nat} {m : MsgV} {d : Hdr} {es : List Hdr} {v2 v3 : Array Value} {aA : Option Addr} {lA cA : Nat} {aM : Option Addr} {lM cM : Nat} {alls : List MsgV} {ns : List Int} (f : AF G x b2 b3 bl m d es v2 v3 aA lA cA aM lM cM alls ns) (e : Ext x y) : AF G y b2 b3 bl m d es v2 v3 aA lA cA aM lM cM alls ns :=
  ⟨e.blk f.c2, e.blk f.c3, e.blk f.cl, f.sA.keep' (e.keep (fun _ => False)) (fun _ h => h) (fun _ _ h => h), f.sM.grow e, f.tm.keep' (e.keep (fun _ => False)) (fun _ h => h) (fun _ _ h => h), f.nl, f.gM⟩
/-- what is read while both are appended to -/
def RA (b2 b3 bl : Nat) : Heap → Heap → Prop := fun x y => ∀ k, (k = b2 ∨ k = b3 ∨ k = bl) → ∀ o, x[k]? = some o → y[k]? = some o
theorem RA.ext {b2 b3 bl : Nat} {x y : Heap} (e : Ext x y) : RA b2 b3 bl x y := fun k _ o ho => e.blk ho
end Go.Wire
namespace Go.Proofs.Ytnhnioodlciajaa
open Go.Vc Go.Sha Go.Trail Go.Packs Go.Wire
set_option linter.unusedVariables false
theorem msg_ld {w : World} {q : Addr} {m : MsgV} {d : Hdr} (hc : CellsAt w.heap q (msgCells m d)) : (loadVar 24 q).run Try.prog w = .ok (.agg (msgCells m d).toArray) w := by
  have hr := run_cells (P := Try.prog) hc
  have h6 : (msgCells m d).length = Try.prog.cellsOf 24 := by show 6 = _; rw [size24]
  rw [h6] at hr
  unfold loadVar
  simp only [Sem.run_bind, run_isAgg_true Try.underlying24 rfl, Result.andThen_ok, if_true, run_size Try.underlying24, hr, Sem.run_pure]
/-- one more behind: just its array, or what is new, turns -/
theorem SlotAt.pushQ {G : Nat → Prop} {h : Heap} {a : Option Addr} {l c : Nat} {ms : List MsgV} {m : MsgV} {e : Hdr} {fs : List Hdr} {K : Option Addr → Nat → Nat → Heap → Prop} (s : SlotAt G h a l c ms) (tm : MsgF G h m e fs) (room : ms.length < 64) {b : Nat} (hb : h[b]? = some (.cells (msgCells m e).toArray 24 (0, 0)))
    (hK : ∀ a' c' h', SlotAt (Fx G h h') h' a' (l + 1) c' (ms ++ [m]) → Keep (fun k => (∃ ad, a = some ad ∧ ad.block = k) ∨ h.size ≤ k) h h' → (∀ ad, a' = some ad → (∃ ad0, a = some ad0 ∧ ad0.block = ad.block) ∨ (h.size ≤ ad.block ∧ ad.block < h'.size)) → K a' (l + 1) c' h') : appK Try.prog 24 h a l c (.slice (some (at0 b)) 1 1) K := by
  obtain ⟨ds, o, hds, hm⟩ := s.ex
  have hlen := s.len
  have src : OwnR 24 6 (#[] : Heap) h (some ⟨b, 0, none⟩) 1 1 [msgCells m e] := OwnR.new_ (by simpa using hb) ⟨Nat.zero_le _, fun k hk => absurd hk (Nat.not_lt_zero _)⟩ (Nat.zero_le _) (by simp [msgCells]) rfl
  refine appK_S (new := [msgCells m e]) size24 o src.rows.src rfl (by simp [msgCells]) (fun r hr => by simp at hr; subst hr; exact msg_one m e) (by rw [bytes24]; omega) z24 fun a' c' h' o' k' ha => hK a' c' h' ?_ k' ha
  have hz : List.zipWith msgCells ms ds ++ [msgCells m e] = List.zipWith msgCells (ms ++ [m]) (ds ++ [e]) := by rw [List.zipWith_append (by rw [hds])]; rfl
  rw [hz] at o'
  have keep : ∀ {m : MsgV} {d : Hdr} {es : List Hdr}, MsgF G h m d es → MsgF (Fx G h h') h' m d es := fun t => t.keep k' (fun k hk => .inl hk) fun k cs _ h2 hs => by
    have bad : ∀ {t}, h[k]? = some (.cells cs t (0, 0)) → t ≠ 24 → False := by
      intro t hk ht
      rcases hs with ⟨ad, ea, hs⟩ | hs
      · obtain ⟨cs', g, _⟩ := o.type_ ea
        rw [hs, hk] at g
        injection g with g; injection g with _ g; exact ht g
      · have := blk_lt hk; omega
    exact h2.elim (fun h2 => bad h2 (by decide)) (fun h2 => bad h2 (by decide))
  refine ⟨⟨ds ++ [e], o', by simp [hds], fun i m' d' hi hd => ?_⟩, by simp; omega, fun ad ea => (ha ad ea).elim (fun ⟨ad0, e1, e2⟩ => .inl (e2 ▸ s.f ad0 e1)) .inr⟩
  by_cases hlt : i < ms.length
  · rw [List.getElem?_append_left hlt] at hi
    rw [List.getElem?_append_left (by omega)] at hd
    obtain ⟨es, t⟩ := hm i m' d' hi hd
    exact ⟨es, keep t⟩
  · have hi' : i = ms.length := by
      have := (List.getElem?_eq_some_iff.1 hi).1
      simp at this; omega
    subst hi'
    rw [List.getElem?_append_right (Nat.le_refl _), Nat.sub_self] at hi
    rw [List.getElem?_append_right (by omega), hds, Nat.sub_self] at hd
    cases hi; cases hd
    exact ⟨fs, keep tm⟩
/-- the messages' row grows -/
theorem AF.pushA {G : Nat → Prop} {x : Heap} {b2 b3 bl b : Nat} {m : MsgV} {d : Hdr} {es : List Hdr} {v2 v3 : Array Value} {aA : Option Addr} {lA cA : Nat} {aM : Option Addr} {lM cM : Nat} {alls : List MsgV} {ns : List Int} {K : Option Addr → Nat → Nat → Heap → Prop} (f : AF G x b2 b3 bl m d es v2 v3 aA lA cA aM lM cM alls ns) (hG : ∀ k, x.size ≤ k → G k) (room : alls.length < 64) (hb : x[b]? = some (.cells (msgCells m d).toArray 24 (0, 0)))
    (hK : ∀ a' c' y, AF G y b2 b3 bl m d es v2 v3 a' (lA + 1) c' aM lM cM (alls ++ [m]) ns → Keep (fun k => (∃ ad, aA = some ad ∧ ad.block = k) ∨ x.size ≤ k) x y → RA b2 b3 bl x y → K a' (lA + 1) c' y) : appK Try.prog 24 x aA lA cA (.slice (some (at0 b)) 1 1) K := by
  refine SlotAt.pushQ f.sA f.tm room hb fun a' c' y s' k' ha => ?_
  have l2 := blk_lt f.c2
  have l3 := blk_lt f.c3
  have ll := blk_lt f.cl
  have n2 := slot_nq f.sA f.c2 (by decide)
  have n3 := slot_nq f.sA f.c3 (by decide)
  have rr : ∀ k, (k = b2 ∨ k = b3 ∨ k = bl) → ¬ ((∃ ad, aA = some ad ∧ ad.block = k) ∨ x.size ≤ k) := by
    intro k hk hs
    rcases hs with ⟨ad, ea, hs⟩ | hs
    · rcases hk with rfl | rfl | rfl
      · exact n2 ad ea hs
      · exact n3 ad ea hs
      · exact f.nl ad ea hs
    · rcases hk with rfl | rfl | rfl <;> omega
  refine hK a' c' y ⟨k'.blk f.c2 (rr _ (.inl rfl)), k'.blk f.c3 (rr _ (.inr (.inl rfl))), k'.blk f.cl (rr _ (.inr (.inr rfl))), s'.keep' (Keep.refl (fun _ => False) _) (fun k hk => hk.elim id (fun hk => hG k hk.1)) (fun _ _ h => h), f.sM.keep k' (fun ad ea hs => ?_), f.tm.keep k' (fun _ h => h) (fun k cs _ h2 hs => ?_), fun ad ea hs => ?_, f.gM⟩ k' (fun k hk o ho => k'.blk ho (rr k hk))
  · obtain ⟨cs, g, _⟩ := f.sM.type_ ea
    rcases hs with ⟨ad0, e0, hs⟩ | hs
    · exact slot_nq f.sA g (by decide) ad0 e0 hs
    · have := blk_lt g; omega
  · have bad : ∀ {t}, x[k]? = some (.cells cs t (0, 0)) → t ≠ 24 → False := by
      intro t hk ht
      rcases hs with ⟨ad, ea, hs⟩ | hs
      · exact slot_nq f.sA hk ht ad ea hs
      · have := blk_lt hk; omega
    exact h2.elim (fun h2 => bad h2 (by decide)) (fun h2 => bad h2 (by decide))
  · rcases ha ad ea with ⟨ad0, e0, e1⟩ | hx
    · exact f.nl ad0 e0 (e1.trans hs)
    · omega
/-- the numbers' row grows -/
theorem AF.pushM {G : Nat → Prop} {x : Heap} {b2 b3 bl b : Nat} {m : MsgV} {d : Hdr} {es : List Hdr} {v2 v3 : Array Value} {aA : Option Addr} {lA cA : Nat} {aM : Option Addr} {lM cM : Nat} {alls : List MsgV} {ns : List Int} {z : Int} {K : Option Addr → Nat → Nat → Heap → Prop} (f : AF G x b2 b3 bl m d es v2 v3 aA lA cA aM lM cM alls ns) (hG : ∀ k, x.size ≤ k → G k) (room : ns.length < 64) (hb : x[b]? = some (.cells #[.int .i64 z] 3 (0, 0)))
    (hK : ∀ a' c' y, AF G y b2 b3 bl m d es v2 v3 aA lA cA a' (lM + 1) c' alls (ns ++ [z]) → Keep (fun k => (∃ ad, aM = some ad ∧ ad.block = k) ∨ x.size ≤ k) x y → RA b2 b3 bl x y → K a' (lM + 1) c' y) : appK Try.prog 3 x aM lM cM (.slice (some (at0 b)) 1 1) K := by
  have src : OwnR 3 1 (#[] : Heap) x (some ⟨b, 0, none⟩) 1 1 [[.int .i64 z]] := OwnR.new_ (by simpa using hb) ⟨Nat.zero_le _, fun k hk => absurd hk (Nat.not_lt_zero _)⟩ (Nat.zero_le _) (by simp) rfl
  have hlen : ns.length = lM := by have := f.sM.len; unfold manyR at this; rw [List.length_map] at this; exact this
  refine appK_S (new := [[.int .i64 z]]) size3 f.sM src.rows.src rfl (by simp) (fun r hr => by simp at hr; subst hr; simp [one]) (by rw [bytes3]; omega) z3 fun a' c' y o' k' ha => ?_
  rw [manyR_app] at o'
  have l2 := blk_lt f.c2
  have l3 := blk_lt f.c3
  have ll := blk_lt f.cl
  have n2 := own_nq f.sM f.c2 (by decide)
  have n3 := own_nq f.sM f.c3 (by decide)
  have nl := own_nq f.sM f.cl (by decide)
  have rr : ∀ k, (k = b2 ∨ k = b3 ∨ k = bl) → ¬ ((∃ ad, aM = some ad ∧ ad.block = k) ∨ x.size ≤ k) := by
    intro k hk hs
    rcases hs with ⟨ad, ea, hs⟩ | hs
    · rcases hk with rfl | rfl | rfl
      · exact n2 ad ea hs
      · exact n3 ad ea hs
      · exact nl ad ea hs
    · rcases hk with rfl | rfl | rfl <;> omega
  have nn : ∀ k cs, x[k]? = some (.cells cs 68 (0, 0)) ∨ x[k]? = some (.cells cs 86 (0, 0)) → ¬ ((∃ ad, aM = some ad ∧ ad.block = k) ∨ x.size ≤ k) := by
    intro k cs h2 hs
    have bad : ∀ {t}, x[k]? = some (.cells cs t (0, 0)) → t ≠ 3 → False := by
      intro t hk ht
      rcases hs with ⟨ad, ea, hs⟩ | hs
      · exact own_nq f.sM hk ht ad ea hs
      · have := blk_lt hk; omega
    exact h2.elim (fun h2 => bad h2 (by decide)) (fun h2 => bad h2 (by decide))
  refine hK a' c' y ⟨k'.blk f.c2 (rr _ (.inl rfl)), k'.blk f.c3 (rr _ (.inr (.inl rfl))), k'.blk f.cl (rr _ (.inr (.inr rfl))), f.sA.keep k' (fun _ h => h) (fun k cs _ h2 => nn k cs h2) (fun ad ea hs => ?_), o', f.tm.keep k' (fun _ h => h) (fun k cs _ h2 => nn k cs h2), f.nl, fun ad ea => ?_⟩ k' (fun k hk o ho => k'.blk ho (rr k hk))
  · obtain ⟨ds, oA, _⟩ := f.sA.ex
    obtain ⟨cs, g, _⟩ := oA.type_ ea
    rcases hs with ⟨ad0, e0, hs⟩ | hs
    · exact own_nq f.sM g (by decide) ad0 e0 hs
    · have := blk_lt g; omega
  · rcases ha ad ea with ⟨ad0, e0, e1⟩ | hx
    · exact e1 ▸ f.gM ad0 e0
    · exact hG _ hx.1
end Go.Proofs.Ytnhnioodlciajaa

namespace Go.Wire
open Go.Vc Go.Packs Go.Proofs Go.Proofs.Ytnhnioodlciajaa
set_option linter.unusedVariables false
theorem MsgF.tight {G : Nat → Prop} {h : Heap} {m : MsgV} {d : Hdr} {es : List Hdr} (t : MsgF G h m d es) : MsgF (fun k => G k ∧ k < h.size) h m d es := by
  refine ⟨t.twin, fun k e => ⟨t.f1 k e, ?_⟩, fun i x hx k e => ⟨t.f2 i x hx k e, ?_⟩, t.l1, t.l2, t.ok⟩
  · obtain ⟨cs, hb⟩ := OwnR.blk t.twin.rows e
    exact blk_lt hb
  · obtain ⟨_, o⟩ := t.twin.ref hx
    obtain ⟨cs, hb⟩ := OwnR.blk o e
    exact blk_lt hb
theorem SlotAt.tight {G : Nat → Prop} {h : Heap} {a : Option Addr} {l c : Nat} {ms : List MsgV} (s : SlotAt G h a l c ms) : SlotAt (fun k => G k ∧ k < h.size) h a l c ms := by
  obtain ⟨ds, o, hl, hm⟩ := s.ex
  refine ⟨⟨ds, o, hl, fun i m d hi hd => let ⟨es, t⟩ := hm i m d hi hd; ⟨es, t.tight⟩⟩, s.few, fun ad e => ⟨s.f ad e, ?_⟩⟩
  obtain ⟨cs, g, _⟩ := o.type_ e
  exact blk_lt g
theorem add_zero' (q : Addr) : q.add 0 = q := by unfold Addr.add; exact if_pos rfl
end Go.Wire
namespace Go.Proofs.Ytnhnioodlciajaa
open Go.Vc Go.Sha Go.Trail Go.Packs Go.Wire
set_option linter.unusedVariables false
/-- both rows are behind the locals again -/
theorem AF.fin {G T : Nat → Prop} {h y : Heap} {b2 b3 bl : Nat} {m : MsgV} {d : Hdr} {es : List Hdr} {s2 s3 : Value} {aA : Option Addr} {lA cA : Nat} {aM : Option Addr} {lM cM : Nat} {alls : List MsgV} {ns : List Int} {R : Heap → Prop} (f : AF (fun k => (G k ∨ T k) ∨ h.size ≤ k) y b2 b3 bl m d es #[s2] #[s3] aA lA cA aM lM cM alls ns) (g2 : G b2) (g3 : G b3) (ne : b2 ≠ b3) (hG : ∀ k, G k → k < h.size) (hT : ∀ k, T k → k < h.size) (x : Keep (fun k => G k ∨ h.size ≤ k) h y) (hlen : ns.length = alls.length)
    (hR : ∀ h', AddAt (fun k => Fx G h h' k ∨ T k) h' b2 b3 alls ns → Keep G h h' → R h') : storeK 1 y (at0 b2) (.slice aA lA cA) fun h5 => True ∧ storeK 1 h5 (at0 b3) (.slice aM lM cM) fun h6 => True ∧ R h6 := by
  refine storeK_one f.c2 (Nat.le_of_ble_eq_true rfl) (.inr (Nat.zero_le _)) rfl fun h5 k2 on5 => ⟨trivial, ?_⟩
  refine storeK_one (on5.blk f.c3 (fun e => ne e.symm)) (Nat.le_of_ble_eq_true rfl) (.inr (Nat.zero_le _)) rfl fun h6 k3 on6 => ⟨trivial, ?_⟩
  have K : Keep (fun k => k = b2 ∨ k = b3) y h6 := (on5.keep (.inl rfl)).trans (on6.keep (.inr rfl))
  have z := x.size
  have z6 := K.size
  have bad : ∀ k cs t, y[k]? = some (.cells cs t (0, 0)) → t ≠ 29 → t ≠ 47 → ¬ (k = b2 ∨ k = b3) := by
    rintro k cs t hk h1 h2 (rfl | rfl)
    · rw [f.c2] at hk; injection hk with hk; injection hk with _ hk; exact h1 hk.symm
    · rw [f.c3] at hk; injection hk with hk; injection hk with _ hk; exact h2 hk.symm
  have s6 : SlotAt (fun k => (G k ∨ T k) ∨ h.size ≤ k) h6 aA lA cA alls := f.sA.keep K (fun _ h => h) (fun k cs _ h2 => h2.elim (fun h2 => bad k cs _ h2 (by decide) (by decide)) (fun h2 => bad k cs _ h2 (by decide) (by decide))) (fun ad ea => by
    obtain ⟨ds, o, _⟩ := f.sA.ex
    obtain ⟨cs, g, _⟩ := o.type_ ea
    exact bad _ cs _ g (by decide) (by decide))
  have m6 := f.sM.keep K (fun ad ea => by
    obtain ⟨cs, g, _⟩ := f.sM.type_ ea
    exact bad _ cs _ g (by decide) (by decide))
  refine hR h6 ⟨aA, lA, cA, aM, lM, cM, on6.blk k2 ne, k3, s6.tight.keep' (Keep.refl (fun _ => False) _) (fun k hk => ?_) (fun _ _ h => h), m6, hlen, .inl (.inl g2), .inl (.inl g3), fun ad ea => ?_, fun k hk => ?_⟩ ⟨by omega, fun k hk hg => ?_⟩
  · rcases hk with ⟨(hk | hk) | hk, hl⟩
    · exact .inl (.inl hk)
    · exact .inr hk
    · exact .inl (.inr ⟨hk, hl⟩)
  · obtain ⟨cs, g, _⟩ := m6.type_ ea
    rcases f.gM ad ea with (hk | hk) | hk
    · exact .inl (.inl hk)
    · exact .inr hk
    · exact .inl (.inr ⟨hk, blk_lt g⟩)
  · rcases hk with (hk | hk) | hk
    · have := hG k hk; omega
    · exact hk.2
    · have := hT k hk; omega
  · refine (K.block k (by omega) (fun hs => ?_)).trans (x.block k hk (fun hs => hs.elim hg (fun hs => by omega)))
    rcases hs with rfl | rfl
    · exact hg g2
    · exact hg g3
theorem add_ok {G T : Nat → Prop} {h : Heap} {b2 b3 : Nat} {alls : List MsgV} {ns : List Int} (A : AddAt G h b2 b3 alls ns) (m : MsgV) (d : Hdr) (es : List Hdr) (hp : PacksAt h d.a d.l d.c m.packs es) (l1 : d.l ≤ 20) (l2 : ∀ x ∈ es, x.l ≤ 20) (own : (∀ x ∈ alls, x ≠ m) → MsgF T h m d es ∧ alls.length < 64) (hT : ∀ k, T k → k < h.size) (z : Int) :
    HEnt Try.prog 25 #[.agg (msgCells m d).toArray, .int .i64 z, .pointer (some (at0 b2)), .pointer (some (at0 b3))] h fun v h' => v = .tuple #[] ∧ Keep G h h' ∧ ((∃ i y, alls[i]? = some m ∧ ns[i]? = some y ∧ (∀ j, j < i → alls[j]? ≠ some m) ∧ AddAt (Fx G h h') h' b2 b3 alls (ns.set i (IntKind.i64.wrap (y + z)))) ∨ ((∀ x ∈ alls, x ≠ m) ∧ AddAt (fun k => Fx G h h' k ∨ T k) h' b2 b3 (alls ++ [m]) (ns ++ [z]))) := by
  refine F25_ent _ _ _ _ _ _ _ _ _ _ _ _ _ ?_
  obtain ⟨aA, lA, cA, aM, lM, cM, r⟩ := A
  have hlen := r.sA.len
  have hlen2 := r.len
  have hfew := r.sA.few
  have hlenM : ns.length = lM := by have := r.sM.len; unfold manyR at this; rw [List.length_map] at this; exact this
  have l2' := r.bound _ r.g2
  have l3' := r.bound _ r.g3
  have ne : b2 ≠ b3 := fun e => by
    have := r.c2
    rw [e, r.c3] at this
    injection this with this; injection this with _ this; exact absurd this (by decide)
  unfold F25
  refine newK_intro fun h1 n1 x1 e1 => ?_
  refine ⟨aA, lA, cA, by rw [show (at0 b2 : Addr) = ⟨b2, 0, none⟩ from rfl, cell_blk (x1.blk r.c2)]; rfl, fun x h' => ∃ k : Nat, x = k ∧ k ≤ lA ∧ Ext h1 h' ∧ ∀ j, j < k → alls[j]? ≠ some m, fun x _ => ((lA : Int) - x).toNat, ⟨0, rfl, by omega, Ext.refl _, fun j hj => absurd hj (Nat.not_lt_zero _)⟩, ?_⟩
  rintro h2 _ ⟨k, rfl, hk, x2, hno⟩
  have x02 := x1.trans x2
  have r2 := r.keep (x02.keep (fun _ => False)) (fun _ _ h => h) (fun _ h => h) (fun k hk => Nat.lt_of_lt_of_le (r.bound k hk) x02.size)
  have n2 : h2[h.size]? = some (.cells (msgCells m d).toArray 24 (0, 0)) := x2.blk n1
  unfold F25_b1
  refine br_of (fun g => ?_) (fun g => ?_)
  · have hk' : k < lA := by
      have : (k : Int) < (lA : Int) := by simpa using g
      omega
    have hm : alls[k]? = some (alls[k]'(by omega)) := List.getElem?_eq_getElem _
    generalize alls[k]'(by omega) = mk at hm
    obtain ⟨q, d', es', ea, hlt, tk, hc, hw⟩ := r2.sA.get hm
    unfold F25_k2
    refine ⟨Ext, Ext.refl, fun _ _ _ x y => x.trans y, aA, lA, cA, fun w hx => run_loadCell (by rw [show (at0 b2 : Addr) = ⟨b2, 0, none⟩ from rfl, cell_blk (hx.blk r2.c2)]; rfl) Try.underlying29 rfl, q, ea, by omega, by omega, mk.kind, mk.from_, mk.to, mk.txn, mk.yes, d'.a, d'.l, d'.c, by rw [Int.toNat_natCast]; exact hw, m.kind, m.from_, m.to, m.txn, m.yes, d.a, d.l, d.c, fun w hx => msg_ld fun j v hv => by rw [add_at0, cell_blk (hx.blk n2)]; simpa using hv, HEnt.use (msg_eq mk m d' d es' es h2 tk.packs (hp.grow x02) (by have := tk.l1; omega) (fun x hx => by have := tk.l2 x hx; omega)) ?_⟩
    rintro _ h3 ⟨rfl, x3⟩
    refine ⟨_, rfl, trivial, br_of (fun g => ?_) (fun g => ?_)⟩
    · have g : mk = m := by simpa using g
      subst g
      have x03 := x02.trans x3
      have r3 := r.keep (x03.keep (fun _ => False)) (fun _ _ h => h) (fun _ h => h) (fun k hk => Nat.lt_of_lt_of_le (r.bound k hk) x03.size)
      have hy : ns[k]? = some (ns[k]'(by omega)) := List.getElem?_eq_getElem _
      generalize ns[k]'(by omega) = y at hy
      obtain ⟨q3, e3, _, hc3⟩ := r3.sM.rows.get (manyR_at hy)
      have c3 := hc3 0 _ rfl
      rw [add_zero'] at c3
      refine ⟨aM, lM, cM, by rw [show (at0 b3 : Addr) = ⟨b3, 0, none⟩ from rfl, cell_blk r3.c3]; rfl, q3, e3, by omega, by omega, y, by rw [Int.toNat_natCast]; exact c3, q3, e3, by omega, by omega, ?_⟩
      have st := r3.sM.store (K := fun h' => (fun v h' => v = Value.tuple #[] ∧ Keep G h h' ∧ ((∃ i y, alls[i]? = some mk ∧ ns[i]? = some y ∧ (∀ j, j < i → alls[j]? ≠ some mk) ∧ AddAt (Fx G h h') h' b2 b3 alls (ns.set i (IntKind.i64.wrap (y + z)))) ∨ ((∀ x ∈ alls, x ≠ mk) ∧ AddAt (fun k => Fx G h h' k ∨ T k) h' b2 b3 (alls ++ [mk]) (ns ++ [z])))) (Value.tuple #[]) h') (v := .int .i64 (IntKind.i64.wrap (y + z))) (manyR_at hy) (j := 0) (Nat.lt_succ_self 0) rfl (fun h4 s4 on4 => ?_) e3
      · rw [add_zero'] at st
        rw [Int.toNat_natCast]
        exact st
      have on4 := on4 q3 e3
      have z4 := on4.size
      have z03 := x03.size
      rw [show ([Value.int .i64 y].set 0 (.int .i64 (IntKind.i64.wrap (y + z)))) = [.int .i64 (IntKind.i64.wrap (y + z))] from rfl, manyR_set] at s4
      have gq := r3.gM q3 e3
      have nq2 := own_nq r3.sM r3.c2 (by decide) q3 e3
      have nq3 := own_nq r3.sM r3.c3 (by decide) q3 e3
      obtain ⟨cs, gcs, _⟩ := r3.sM.type_ e3
      refine ⟨rfl, ⟨by omega, fun j hj hg => (on4.block j (fun e => hg (e ▸ gq))).trans (x03.block j hj)⟩, .inl ⟨k, y, hm, hy, hno, aA, lA, cA, aM, lM, cM, on4.blk r3.c2 (fun e => nq2 e.symm), on4.blk r3.c3 (fun e => nq3 e.symm), r3.sA.keep (on4.keep (S := (· = q3.block)) rfl) (fun _ h => .inl h) (fun j cs' _ h2 hs => ?_) (fun ad ea hs => ?_), s4, by rw [List.length_set]; exact hlen2, .inl r.g2, .inl r.g3, fun ad ea => .inl (r.gM ad ea), fun j hj => hj.elim (fun hj => by have := r.bound j hj; omega) (fun hj => hj.2)⟩⟩
      · subst hs
        rw [gcs] at h2
        rcases h2 with h2 | h2 <;> (injection h2 with h2; injection h2 with _ h2; exact absurd h2 (by decide))
      · exact slot_nq r3.sA gcs (by decide) ad ea hs
    · have gne : ¬ mk = m := by simpa using g
      unfold F25_k3
      rw [wrap_succ k _ hk' (by omega)]
      refine ⟨⟨k + 1, rfl, by omega, x2.trans x3, fun j hj => ?_⟩, less_succ _ _ hk'⟩
      by_cases hjk : j = k
      · subst hjk
        rw [hm]
        exact fun e => gne (Option.some.inj e)
      · exact hno j (by omega)
  · have hk' : k = lA := by
      have : ¬ (k : Int) < (lA : Int) := by simpa using g
      omega
    have hnone : ∀ x ∈ alls, x ≠ m := by
      rintro x hx rfl
      obtain ⟨j, hj⟩ := List.getElem?_of_mem hx
      have := (List.getElem?_eq_some_iff.1 hj).1
      exact hno j (by omega) hj
    obtain ⟨tm, room⟩ := own hnone
    have tm2 : MsgF T h2 m d es := tm.keep' (x02.keep (fun _ => False)) (fun _ h => h) (fun _ _ h => h)
    have z02 := x02.size
    have f2 : AF (fun k => (G k ∨ T k) ∨ h.size ≤ k) h2 b2 b3 h.size m d es #[.slice aA lA cA] #[.slice aM lM cM] aA lA cA aM lM cM alls ns :=
      ⟨r2.c2, r2.c3, n2, r2.sA.keep' (Keep.refl (fun _ => False) _) (fun k hk => .inl (.inl hk)) (fun _ _ h => h), r2.sM, tm2.keep' (Keep.refl (fun _ => False) _) (fun k hk => .inl (.inr hk)) (fun _ _ h => h), fun ad ea hs => by have := r.bound _ (r.sA.f ad ea); omega, fun ad ea => .inl (.inl (r.gM ad ea))⟩
    have fin : ∀ {aA' lA' cA' aM' lM' cM'} {y : Heap}, AF (fun k => (G k ∨ T k) ∨ h.size ≤ k) y b2 b3 h.size m d es #[.slice aA lA cA] #[.slice aM lM cM] aA' lA' cA' aM' lM' cM' (alls ++ [m]) (ns ++ [z]) → Keep (fun k => G k ∨ h.size ≤ k) h y → storeK 1 y (at0 b2) (.slice aA' lA' cA') fun h5 => True ∧ storeK 1 h5 (at0 b3) (.slice aM' lM' cM') fun h6 => True ∧ (fun v h' => v = Value.tuple #[] ∧ Keep G h h' ∧ ((∃ i y, alls[i]? = some m ∧ ns[i]? = some y ∧ (∀ j, j < i → alls[j]? ≠ some m) ∧ AddAt (Fx G h h') h' b2 b3 alls (ns.set i (IntKind.i64.wrap (y + z)))) ∨ ((∀ x ∈ alls, x ≠ m) ∧ AddAt (fun k => Fx G h h' k ∨ T k) h' b2 b3 (alls ++ [m]) (ns ++ [z])))) (Value.tuple #[]) h6 :=
      fun f k => AF.fin f r.g2 r.g3 ne r.bound hT k (by simp [hlen2]) fun h' A' k' => ⟨rfl, k', .inr ⟨hnone, A'⟩⟩
    have kA : ∀ {x y : Heap}, h.size ≤ x.size → Keep (fun k => (∃ ad, aA = some ad ∧ ad.block = k) ∨ x.size ≤ k) x y → Keep (fun k => G k ∨ h.size ≤ k) x y := fun hs k => k.mono fun j _ hj => hj.elim (fun ⟨ad, ea, e⟩ => .inl (e ▸ r.sA.f ad ea)) (fun hj => .inr (by omega))
    have kM : ∀ {x y : Heap}, h.size ≤ x.size → Keep (fun k => (∃ ad, aM = some ad ∧ ad.block = k) ∨ x.size ≤ k) x y → Keep (fun k => G k ∨ h.size ≤ k) x y := fun hs k => k.mono fun j _ hj => hj.elim (fun ⟨ad, ea, e⟩ => .inl (e ▸ r.gM ad ea)) (fun hj => .inr (by omega))
    have k02 : Keep (fun k => G k ∨ h.size ≤ k) h h2 := x02.keep _
    unfold F25_k4
    refine ⟨RA b2 b3 h.size, fun _ _ _ _ h => h, fun _ _ _ x y k hk o ho => y k hk o (x k hk o ho), aA, lA, cA, fun w hw => run_loadCell (by rw [show (at0 b2 : Addr) = ⟨b2, 0, none⟩ from rfl, cell_blk (hw b2 (.inl rfl) _ r2.c2)]; rfl) Try.underlying29 rfl, m.kind, m.from_, m.to, m.txn, m.yes, d.a, d.l, d.c, fun w hw => msg_ld fun j v hv => by rw [add_at0, cell_blk (hw _ (.inr (.inr rfl)) _ n2)]; simpa using hv, aM, lM, cM, fun w hw => run_loadCell (by rw [show (at0 b3 : Addr) = ⟨b3, 0, none⟩ from rfl, cell_blk (hw b3 (.inr (.inl rfl)) _ r2.c3)]; rfl) Try.underlying47 rfl, ?_, ?_⟩
    · refine ⟨rfl, by decide, newK_intro fun h3 n3 x3 e3 => ⟨RA.ext x3, ?_, by decide, ?_⟩⟩
      · refine AF.pushA (f2.ext x3) (fun k hk => .inr (by have := x3.size; omega)) room n3 fun a' c' h4 f4 k4 ra4 => ⟨ra4, by decide, newK_intro fun h5 n5 x5 e5 => ⟨RA.ext x5, ?_⟩⟩
        have z3 := x3.size
        have z4 := k4.size
        have z5 := x5.size
        exact AF.pushM (f4.ext x5) (fun k hk => .inr (by omega)) (by omega) n5 fun a'' c'' h6 f6 k6 ra6 => ⟨trivial, fin f6 ((((k02.trans (x3.keep _)).trans (kA (by omega) k4)).trans (x5.keep _)).trans (kM (by omega) k6))⟩
      · refine newK_intro fun h4 n4 x4 e4 => ⟨RA.ext x4, ?_⟩
        have z3 := x3.size
        have z4 := x4.size
        refine AF.pushA ((f2.ext x3).ext x4) (fun k hk => .inr (by omega)) room (x4.blk n3) fun a' c' h5 f5 k5 ra5 => ⟨ra5, ?_⟩
        have z5 := k5.size
        have n45 : h5[h3.size]? = some (.cells #[.int .i64 z] 3 (0, 0)) := k5.blk n4 (fun hs => hs.elim (fun ⟨ad, ea, e⟩ => by have := r.bound _ (r.sA.f ad ea); omega) (fun hs => by have := blk_lt n4; omega))
        exact AF.pushM f5 (fun k hk => .inr (by omega)) (by omega) n45 fun a'' c'' h6 f6 k6 ra6 => ⟨trivial, fin f6 ((((k02.trans (x3.keep _)).trans (x4.keep _)).trans (kA (by omega) k5)).trans (kM (by omega) k6))⟩
    · refine ⟨by decide, newK_intro fun h3 n3 x3 e3 => ⟨RA.ext x3, rfl, by decide, newK_intro fun h4 n4 x4 e4 => ⟨RA.ext x4, ?_⟩⟩⟩
      have z3 := x3.size
      have z4 := x4.size
      refine AF.pushA ((f2.ext x3).ext x4) (fun k hk => .inr (by omega)) room n4 fun a' c' h5 f5 k5 ra5 => ⟨ra5, ?_⟩
      have z5 := k5.size
      have n35 : h5[h2.size]? = some (.cells #[.int .i64 z] 3 (0, 0)) := k5.blk (x4.blk n3) (fun hs => hs.elim (fun ⟨ad, ea, e⟩ => by have := r.bound _ (r.sA.f ad ea); omega) (fun hs => by have := blk_lt n3; omega))
      exact AF.pushM f5 (fun k hk => .inr (by omega)) (by omega) n35 fun a'' c'' h6 f6 k6 ra6 => ⟨trivial, fin f6 ((((k02.trans (x3.keep _)).trans (x4.keep _)).trans (kA (by omega) k5)).trans (kM (by omega) k6))⟩
end Go.Proofs.Ytnhnioodlciajaa

namespace Go.Wire
open Go.Vc Go.Packs Go.Proofs Go.Proofs.Ytnhnioodlciajaa
set_option linter.unusedVariables false
/-- a message at a node's links and in its box -/
def rowC (M : NetM) (v : MsgV) (i : Nat) : Nat := (M (.link i 0)).count v + (M (.link 0 i)).count v + (M (.box i)).count v
def totTo (M : NetM) (v : MsgV) : Nat → Nat
  | 0 => 0
  | n + 1 => totTo M v n + rowC M v n
def tot (M : NetM) (v : MsgV) : Nat := totTo M v 7
/-- the places that are counted -/
def keysC : List Key := [.link ((0 : Nat) : Int) 0, .link 0 ((0 : Nat) : Int), .box ((0 : Nat) : Int), .link ((1 : Nat) : Int) 0, .link 0 ((1 : Nat) : Int), .box ((1 : Nat) : Int), .link ((2 : Nat) : Int) 0, .link 0 ((2 : Nat) : Int), .box ((2 : Nat) : Int), .link ((3 : Nat) : Int) 0, .link 0 ((3 : Nat) : Int), .box ((3 : Nat) : Int), .link ((4 : Nat) : Int) 0, .link 0 ((4 : Nat) : Int), .box ((4 : Nat) : Int), .link ((5 : Nat) : Int) 0, .link 0 ((5 : Nat) : Int), .box ((5 : Nat) : Int), .link ((6 : Nat) : Int) 0, .link 0 ((6 : Nat) : Int), .box ((6 : Nat) : Int)]
theorem tot_keys (M : NetM) (v : MsgV) : tot M v = (keysC.map fun k => (M k).count v).sum := by
  have : ∀ c : Key → Nat, (((((((0 + (c (.link ((0 : Nat) : Int) 0) + c (.link 0 ((0 : Nat) : Int)) + c (.box ((0 : Nat) : Int)))) + (c (.link ((1 : Nat) : Int) 0) + c (.link 0 ((1 : Nat) : Int)) + c (.box ((1 : Nat) : Int)))) + (c (.link ((2 : Nat) : Int) 0) + c (.link 0 ((2 : Nat) : Int)) + c (.box ((2 : Nat) : Int)))) + (c (.link ((3 : Nat) : Int) 0) + c (.link 0 ((3 : Nat) : Int)) + c (.box ((3 : Nat) : Int)))) + (c (.link ((4 : Nat) : Int) 0) + c (.link 0 ((4 : Nat) : Int)) + c (.box ((4 : Nat) : Int)))) + (c (.link ((5 : Nat) : Int) 0) + c (.link 0 ((5 : Nat) : Int)) + c (.box ((5 : Nat) : Int)))) + (c (.link ((6 : Nat) : Int) 0) + c (.link 0 ((6 : Nat) : Int)) + c (.box ((6 : Nat) : Int)))) = (keysC.map c).sum := by
    intro c
    simp only [keysC, List.map_cons, List.map_nil, List.sum_cons, List.sum_nil]
    omega
  exact this fun k => (M k).count v
theorem sum_upd (M : NetM) (k : Key) (l : List MsgV) (v : MsgV) : ∀ (K : List Key), K.count k = 1 → (K.map fun x => (updM M k l x).count v).sum + (M k).count v = (K.map fun x => (M x).count v).sum + l.count v
  | [], h => by simp at h
  | x :: K, h => by
    have rest : K.count k = 0 → (K.map fun x => (updM M k l x).count v).sum = (K.map fun x => (M x).count v).sum := fun h0 => by
      congr 1
      refine List.map_congr_left fun y hy => ?_
      have : y ≠ k := fun e => List.count_eq_zero.1 h0 (e ▸ hy)
      unfold updM; rw [if_neg this]
    rw [List.count_cons] at h
    by_cases hx : x = k
    · subst hx
      simp only [beq_self_eq_true, if_true] at h
      simp only [List.map_cons, List.sum_cons]
      rw [rest (by omega)]
      unfold updM; rw [if_pos rfl]; omega
    · have hb : (x == k) = false := by simpa using hx
      rw [hb] at h
      simp only [Bool.false_eq_true, if_false, Nat.add_zero] at h
      have := sum_upd M k l v K h
      simp only [List.map_cons, List.sum_cons]
      have e : updM M k l x = M x := by unfold updM; rw [if_neg hx]
      rw [e]; omega
/-- where messages may be -/
def Sup : Key → Prop
  | .link f t => (1 ≤ f ∧ f ≤ 6 ∧ t = 0) ∨ (f = 0 ∧ 1 ≤ t ∧ t ≤ 6)
  | .box n => 0 ≤ n ∧ n ≤ 6
theorem sup_count {k : Key} (h : Sup k) : keysC.count k = 1 := by
  cases k with
  | link f t =>
    rcases h with ⟨h1, h2, rfl⟩ | ⟨rfl, h1, h2⟩
    · have : f = 1 ∨ f = 2 ∨ f = 3 ∨ f = 4 ∨ f = 5 ∨ f = 6 := by omega
      rcases this with rfl | rfl | rfl | rfl | rfl | rfl <;> decide
    · have : t = 1 ∨ t = 2 ∨ t = 3 ∨ t = 4 ∨ t = 5 ∨ t = 6 := by omega
      rcases this with rfl | rfl | rfl | rfl | rfl | rfl <;> decide
  | box n =>
    obtain ⟨h1, h2⟩ := h
    have : n = 0 ∨ n = 1 ∨ n = 2 ∨ n = 3 ∨ n = 4 ∨ n = 5 ∨ n = 6 := by omega
    rcases this with rfl | rfl | rfl | rfl | rfl | rfl | rfl <;> decide
theorem tot_upd (M : NetM) {k : Key} (h : Sup k) (l : List MsgV) (v : MsgV) : tot (updM M k l) v + (M k).count v = tot M v + l.count v := by
  rw [tot_keys, tot_keys]; exact sum_upd M k l v keysC (sup_count h)
theorem sup_box {f t : Int} (h : Sup (.link f t)) : Sup (.box t) := by
  rcases h with ⟨h1, h2, rfl⟩ | ⟨rfl, h1, h2⟩
  · exact ⟨by omega, by omega⟩
  · exact ⟨by omega, by omega⟩
/-- what is there was counted in -/
structure CInv (M : NetM) (alls : List MsgV) (ns : List Int) : Prop where
  sup : ∀ k, M k ≠ [] → Sup k
  nd : alls.Nodup
  len : ns.length = alls.length
  cnt : ∀ (i : Nat) (v : MsgV) (z : Int), alls[i]? = some v → ns[i]? = some z → z = tot M v
  no : ∀ v, v ∉ alls → tot M v = 0
/-- .. one is counted in, or out, as it goes -/
structure CInvO (T : MsgV → Int) (alls : List MsgV) (ns : List Int) : Prop where
  nd : alls.Nodup
  len : ns.length = alls.length
  cnt : ∀ (i : Nat) (v : MsgV) (z : Int), alls[i]? = some v → ns[i]? = some z → z = T v
  no : ∀ v, v ∉ alls → T v = 0
theorem CInv.o {M : NetM} {alls : List MsgV} {ns : List Int} (i : CInv M alls ns) : CInvO (fun v => (tot M v : Int)) alls ns := ⟨i.nd, i.len, i.cnt, fun v hv => by rw [i.no v hv]; rfl⟩
theorem nodup_idx {α : Type} {l : List α} (nd : l.Nodup) {i j : Nat} {x : α} (hi : l[i]? = some x) (hj : l[j]? = some x) : i = j := by
  obtain ⟨l1, e1⟩ := List.getElem?_eq_some_iff.1 hi
  obtain ⟨l2, e2⟩ := List.getElem?_eq_some_iff.1 hj
  rcases Nat.lt_trichotomy i j with h | h | h
  · exact absurd (e1.trans e2.symm) (List.pairwise_iff_getElem.1 nd i j l1 l2 h)
  · exact h
  · exact absurd (e2.trans e1.symm) (List.pairwise_iff_getElem.1 nd j i l2 l1 h)
theorem CInvO.set {T T' : MsgV → Int} {alls : List MsgV} {ns : List Int} {i : Nat} {m : MsgV} {y z : Int} (o : CInvO T alls ns) (hi : alls[i]? = some m) (hy : ns[i]? = some y) (hm : T' m = T m + z) (ho : ∀ v, v ≠ m → T' v = T v) : CInvO T' alls (ns.set i (y + z)) := by
  refine ⟨o.nd, by rw [List.length_set]; exact o.len, fun j v w hj hw => ?_, fun v hv => ?_⟩
  · rw [List.getElem?_set] at hw
    by_cases hij : i = j
    · subst hij
      rw [hi] at hj; cases hj
      rw [if_pos rfl] at hw
      split at hw
      · cases hw
        rw [hm, o.cnt i m y hi hy]
      · cases hw
    · rw [if_neg hij] at hw
      rw [ho v (fun e => ?_)]
      · exact o.cnt j v w hj hw
      · subst e
        exact hij (nodup_idx o.nd hi hj)
  · rw [ho v (fun e => hv (e ▸ List.mem_of_getElem? hi))]
    exact o.no v hv
theorem CInvO.app {T T' : MsgV → Int} {alls : List MsgV} {ns : List Int} {m : MsgV} {z : Int} (o : CInvO T alls ns) (hn : ∀ x ∈ alls, x ≠ m) (hm : T' m = T m + z) (ho : ∀ v, v ≠ m → T' v = T v) : CInvO T' (alls ++ [m]) (ns ++ [z]) := by
  have hnm : m ∉ alls := fun h => hn m h rfl
  refine ⟨?_, by simp [o.len], fun j v w hj hw => ?_, fun v hv => ?_⟩
  · rw [List.nodup_append]
    exact ⟨o.nd, by simp, fun a ha b hb => by rw [List.mem_singleton.1 hb]; exact hn a ha⟩
  · by_cases hlt : j < alls.length
    · rw [List.getElem?_append_left hlt] at hj
      rw [List.getElem?_append_left (by rw [o.len]; exact hlt)] at hw
      rw [ho v (hn v (List.mem_of_getElem? hj))]
      exact o.cnt j v w hj hw
    · have hj' : j = alls.length := by
        have := (List.getElem?_eq_some_iff.1 hj).1
        simp at this; omega
      subst hj'
      rw [List.getElem?_append_right (Nat.le_refl _), Nat.sub_self] at hj
      rw [List.getElem?_append_right (by rw [o.len]; exact Nat.le_refl _), o.len, Nat.sub_self] at hw
      cases hj; cases hw
      rw [hm, o.no _ hnm]; omega
  · have h1 : v ∉ alls := fun h => hv (List.mem_append_left _ h)
    have h2 : v ≠ m := fun e => hv (by rw [e]; simp)
    rw [ho v h2]; exact o.no v h1
theorem CInvO.back {M : NetM} {alls : List MsgV} {ns : List Int} (o : CInvO (fun v => (tot M v : Int)) alls ns) (sup : ∀ k, M k ≠ [] → Sup k) : CInv M alls ns :=
  ⟨sup, o.nd, o.len, o.cnt, fun v hv => by have := o.no v hv; omega⟩
theorem mem_tot {M : NetM} (sup : ∀ k, M k ≠ [] → Sup k) {k : Key} {v : MsgV} (h : v ∈ M k) : tot M v ≠ 0 := by
  have hs := sup k (fun e => by rw [e] at h; cases h)
  have h1 := tot_upd M hs [] v
  have h2 := List.count_pos_iff.2 h
  simp only [List.count_nil] at h1
  omega
theorem CInv.mem {M : NetM} {alls : List MsgV} {ns : List Int} (i : CInv M alls ns) {k : Key} {v : MsgV} (h : v ∈ M k) : v ∈ alls :=
  Decidable.byContradiction fun hn => mem_tot i.sup h (i.no v hn)
theorem upd_sup {M : NetM} (sup : ∀ k, M k ≠ [] → Sup k) {k : Key} (h : Sup k) (l : List MsgV) : ∀ x, updM M k l x ≠ [] → Sup x := by
  intro x hx
  unfold updM at hx
  by_cases e : x = k
  · rw [e]; exact h
  · rw [if_neg e] at hx; exact sup x hx
end Go.Wire
namespace Go.Wire
open Go.Vc Go.Packs Go.Proofs Go.Proofs.Ytnhnioodlciajaa
set_option linter.unusedVariables false
theorem NetAt.few {F : Nat → Prop} {h : Heap} {q : Nat} {M : NetM} (N : NetAt F h q M) (k : Key) : (M k).length ≤ 64 := by
  obtain ⟨_, _, _, _, N⟩ := N
  obtain ⟨_, _, _, _, s⟩ := N.slot k
  exact s.few
theorem NetAt.cnt {F : Nat → Prop} {h : Heap} {q : Nat} {M : NetM} (N : NetAt F h q M) (v : MsgV) (k : Key) : (M k).count v ≤ 64 := Nat.le_trans List.count_le_length (N.few k)
theorem NetAt.row {F : Nat → Prop} {h : Heap} {q : Nat} {M : NetM} (N : NetAt F h q M) (v : MsgV) (i : Nat) : rowC M v i ≤ 192 := by
  unfold rowC
  have := N.cnt v (.link i 0); have := N.cnt v (.link 0 i); have := N.cnt v (.box i)
  omega
theorem NetAt.totTo {F : Nat → Prop} {h : Heap} {q : Nat} {M : NetM} (N : NetAt F h q M) (v : MsgV) : ∀ n, totTo M v n ≤ n * 192
  | 0 => by simp [Go.Wire.totTo]
  | n + 1 => by
    have := NetAt.totTo N v n; have := N.row v n
    show Go.Wire.totTo M v n + rowC M v n ≤ (n + 1) * 192
    omega
/-- a part of a row -/
def preC (M : NetM) (v : MsgV) (k : Nat) : Nat → Nat
  | 0 => 0
  | 1 => (M (.link k 0)).count v
  | 2 => (M (.link k 0)).count v + (M (.link 0 k)).count v
  | _ => rowC M v k
theorem count_take {l : List MsgV} {i : Nat} {x v : MsgV} (h : l[i]? = some x) : (l.take (i + 1)).count v = (l.take i).count v + if x = v then 1 else 0 := by
  rw [takeR_succ h, List.count_append, List.count_singleton]
  by_cases e : x = v
  · simp [e]
  · have : (x == v) = false := by simpa using e
    simp [e]
end Go.Wire
namespace Go.Proofs.Ytnhnioodlciajaa
open Go.Vc Go.Sha Go.Trail Go.Packs Go.Wire
set_option linter.unusedVariables false
theorem count_ok {F : Nat → Prop} {h : Heap} {q : Nat} {M : NetM} (N : NetAt F h q M) (m : MsgV) (d : Hdr) (es : List Hdr) (hp : PacksAt h d.a d.l d.c m.packs es) :
    HEnt Try.prog 29 #[.pointer (some (at0 q)), .agg (msgCells m d).toArray] h fun v h' => v = .int .i64 (tot M m) ∧ Ext h h' := by
  refine F29_ent _ _ _ _ _ _ _ _ _ _ _ ?_
  unfold F29
  refine newK_intro fun h1 n1 x1 e1 => ?_
  rintro _ rfl _ rfl
  refine ⟨fun x5 x6 h' => ∃ k : Nat, x6 = k ∧ k ≤ 7 ∧ x5 = totTo M m k ∧ Ext h1 h', fun _ x6 _ => ((7 : Int) - x6).toNat, ⟨0, rfl, by omega, rfl, Ext.refl _⟩, ?_⟩
  rintro h2 _ _ ⟨k, rfl, hk, rfl, x2⟩
  unfold F29_b1
  refine br_of (fun g => ?_) (fun g => ?_)
  · have hk' : k < 7 := by
      have : (k : Int) ≤ 6 := by simpa using g
      omega
    have N2 := (N.grow x1).grow x2
    unfold F29_k2
    refine HEnt.use (link_ok N2 k 0) ?_
    rintro _ h3 ⟨a3, l3, c3, rfl, t3⟩
    refine ⟨a3, l3, c3, rfl, HEnt.use (link_ok (N2.grow t3.ext) 0 k) ?_⟩
    rintro _ h4 ⟨a4, l4, c4, rfl, t4⟩
    have y4 := t3.ext.trans t4.ext
    refine ⟨a4, l4, c4, rfl, HEnt.use (box_ok (N2.grow y4) k) ?_⟩
    rintro _ h5 ⟨a5, l5, c5, rfl, t5⟩
    have y5 := y4.trans t5.ext
    refine ⟨a5, l5, c5, rfl, by decide, newK_intro fun h6 n6 x6 e6 => ?_⟩
    have y6 := y5.trans x6
    refine ⟨fun x5 x25 h' => ∃ j : Nat, x25 = j ∧ j ≤ 3 ∧ x5 = ((totTo M m k + preC M m k j : Nat) : Int) ∧ Ext h6 h', fun _ x25 _ => ((3 : Int) - x25).toNat, ⟨0, rfl, by omega, rfl, Ext.refl _⟩, ?_⟩
    rintro h7 _ _ ⟨j, rfl, hj, rfl, x7⟩
    have rb := N.totTo m k
    have rr := N.row m k
    unfold F29_b3
    refine br_of (fun g => ?_) (fun g => ?_)
    · have hj' : j < 3 := by
        have : (j : Int) < 3 := by simpa using g
        omega
      have n7 := x7.blk n6
      have inner : ∀ (a : Option Addr) (l c : Nat) (ms : List MsgV) (h0 : Heap), Vc.cell h7 ((at0 h5.size).add (((j : Nat) : Int).toNat * 1)) = some (.slice a l c) → Copies h0 h7 a l c ms → ms.length ≤ 64 → preC M m k (j + 1) = preC M m k j + ms.count m → preC M m k (j + 1) ≤ 192 →
          F29_k4 (fun x5 x6 h' => ∃ k : Nat, x6 = k ∧ k ≤ 7 ∧ x5 = totTo M m k ∧ Ext h1 h') (fun _ x6 _ => ((7 : Int) - x6).toNat) (((7 : Int) - (k : Int)).toNat) (fun x5 x25 h' => ∃ j : Nat, x25 = j ∧ j ≤ 3 ∧ x5 = ((totTo M m k + preC M m k j : Nat) : Int) ∧ Ext h6 h') (fun _ x25 _ => ((3 : Int) - x25).toNat) (((3 : Int) - (j : Int)).toNat) (some (at0 q)) (at0 h.size) ((totTo M m k + preC M m k j : Nat) : Int) (k : Int) (some (at0 h5.size)) 3 3 3 (j : Int) h7 fun v h' => v = .int .i64 (tot M m) ∧ Ext h h' := by
        intro a l c ms h0 hc t hl he hb
        have elen := t.len
        unfold F29_k4
        refine ⟨at0 h5.size, rfl, by omega, by omega, a, l, c, hc, fun x5 x31 h' => ∃ i : Nat, x31 = i ∧ i ≤ l ∧ x5 = ((totTo M m k + preC M m k j + (ms.take i).count m : Nat) : Int) ∧ Ext h7 h', fun _ x31 _ => ((l : Int) - x31).toNat, ⟨0, rfl, by omega, by simp, Ext.refl _⟩, ?_⟩
        rintro h8 _ _ ⟨i, rfl, hi, rfl, x8⟩
        unfold F29_b5
        refine br_of (fun g => ?_) (fun g => ?_)
        · have hi' : i < l := by
            have : (i : Int) < (l : Int) := by simpa using g
            omega
          have hm : ms[i]? = some (ms[i]'(by omega)) := List.getElem?_eq_getElem _
          generalize ms[i]'(by omega) = mi at hm
          obtain ⟨q', d', es', ea, hlt, hp', l1', l2', hc', hw⟩ := Copies.get (t.grow x8) hm
          have xx := (((x1.trans x2).trans y6).trans x7).trans x8
          have n8 : h8[h.size]? = some (.cells (msgCells m d).toArray 24 (0, 0)) := (((x2.trans y6).trans x7).trans x8).blk n1
          have hle : (ms.take (i + 1)).count m ≤ 64 := Nat.le_trans List.count_le_length (by rw [List.length_take]; omega)
          have hct := count_take (v := m) hm
          have last : ∀ (z : Nat) (h9 : Heap), Ext h8 h9 → z = totTo M m k + preC M m k j + (ms.take (i + 1)).count m → F29_k7 (fun x5 x6 h' => ∃ k : Nat, x6 = k ∧ k ≤ 7 ∧ x5 = totTo M m k ∧ Ext h1 h') (fun _ x6 _ => ((7 : Int) - x6).toNat) (((7 : Int) - (k : Int)).toNat) (fun x5 x25 h' => ∃ j : Nat, x25 = j ∧ j ≤ 3 ∧ x5 = ((totTo M m k + preC M m k j : Nat) : Int) ∧ Ext h6 h') (fun _ x25 _ => ((3 : Int) - x25).toNat) (((3 : Int) - (j : Int)).toNat) (fun x5 x31 h' => ∃ i : Nat, x31 = i ∧ i ≤ l ∧ x5 = ((totTo M m k + preC M m k j + (ms.take i).count m : Nat) : Int) ∧ Ext h7 h') (fun _ x31 _ => ((l : Int) - x31).toNat) (((l : Int) - (i : Int)).toNat) (some (at0 q)) (at0 h.size) (z : Int) (k : Int) a l c (some (at0 h5.size)) 3 3 3 (j : Int) (l : Int) (i : Int) h9 fun v h' => v = .int .i64 (tot M m) ∧ Ext h h' := by
            intro z h9 x9 hz
            unfold F29_k7
            rw [wrap_succ i _ hi' (by omega)]
            exact ⟨⟨i + 1, rfl, by omega, by rw [hz], x8.trans x9⟩, less_succ _ _ hi'⟩
          unfold F29_k6
          refine ⟨Ext, Ext.refl, fun _ _ _ x y => x.trans y, q', ea, by omega, by omega, mi.kind, mi.from_, mi.to, mi.txn, mi.yes, d'.a, d'.l, d'.c, by rw [Int.toNat_natCast]; exact hw, m.kind, m.from_, m.to, m.txn, m.yes, d.a, d.l, d.c, fun w hx => msg_ld fun j v hv => by rw [add_at0, cell_blk (hx.blk n8)]; simpa using hv, HEnt.use (msg_eq mi m d' d es' es h8 hp' (hp.grow xx) (by omega) (fun x hx => by have := l2' x hx; omega)) ?_⟩
          rintro _ h9 ⟨rfl, x9⟩
          refine ⟨_, rfl, trivial, br_of (fun g => ?_) (fun g => ?_)⟩
          · have g : mi = m := by simpa using g
            rw [if_pos g] at hct
            rintro _ rfl
            rw [i64_lt _ (by omega) (by omega)]
            exact last (totTo M m k + preC M m k j + (ms.take i).count m + 1) h9 x9 (by omega)
          · have g : ¬ mi = m := by simpa using g
            rw [if_neg g] at hct
            exact last _ h9 x9 (by omega)
        · have hi' : i = l := by
            have : ¬ (i : Int) < (l : Int) := by simpa using g
            omega
          rw [hi', List.take_of_length_le (by omega)]
          unfold F29_k8
          rw [wrap_succ j 3 hj' (by omega)]
          exact ⟨⟨j + 1, rfl, by omega, by rw [he, Nat.add_assoc], x7.trans x8⟩, less_succ _ _ hj'⟩
      have ce : ∀ (i : Nat) (v : Value), (#[Value.slice a3 l3 c3, .slice a4 l4 c4, .slice a5 l5 c5] : Array Value)[i]? = some v → Vc.cell h7 ((at0 h5.size).add (((i : Nat) : Int).toNat * 1)) = some v := fun i v hv => by
        rw [Int.toNat_natCast, Nat.mul_one, add_at0, cell_blk n7]; exact hv
      have j012 : j = 0 ∨ j = 1 ∨ j = 2 := by omega
      rcases j012 with rfl | rfl | rfl
      · exact inner a3 l3 c3 _ _ (ce 0 _ rfl) (((t3.grow (t4.ext.trans t5.ext)).grow x6).grow x7) (N.few _) (by simp [preC]) (by have := N.cnt m (.link k 0); show (M (.link k 0)).count m ≤ 192; omega)
      · exact inner a4 l4 c4 _ _ (ce 1 _ rfl) (((t4.grow t5.ext).grow x6).grow x7) (N.few _) (by simp [preC]) (by have := N.cnt m (.link k 0); have := N.cnt m (.link 0 k); show (M (.link k 0)).count m + (M (.link 0 k)).count m ≤ 192; omega)
      · exact inner a5 l5 c5 _ _ (ce 2 _ rfl) ((t5.grow x6).grow x7) (N.few _) (by simp [preC, rowC]) (by show rowC M m k ≤ 192; omega)
    · have hj' : j = 3 := by
        have : ¬ (j : Int) < 3 := by simpa using g
        omega
      subst hj'
      unfold F29_k9
      rintro _ rfl
      rw [wrap_succ k 7 hk' (by omega)]
      exact ⟨⟨k + 1, rfl, by omega, rfl, (x2.trans y6).trans x7⟩, less_succ _ _ hk'⟩
  · have hk' : k = 7 := by
      have : ¬ (k : Int) ≤ 6 := by simpa using g
      omega
    subst hk'
    unfold F29_k10
    exact ⟨rfl, x1.trans x2⟩
end Go.Proofs.Ytnhnioodlciajaa

namespace Go.Wire
open Go.Vc Go.Packs Go.Proofs Go.Proofs.Ytnhnioodlciajaa
set_option linter.unusedVariables false
theorem count_erase {l : List MsgV} {v x : MsgV} : ∀ {i : Nat}, l[i]? = some x → (l.eraseIdx i).count v + (if x = v then 1 else 0) = l.count v := by
  induction l with
  | nil => intro i h; simp at h
  | cons y l ih =>
    intro i h
    cases i with
    | zero =>
      simp at h; subst h
      rw [List.eraseIdx_cons_zero, List.count_cons]
      by_cases e : y = v <;> simp [e]
    | succ i =>
      simp at h
      have := ih h
      rw [List.eraseIdx_cons_succ, List.count_cons, List.count_cons]
      omega
theorem count_push {l : List MsgV} {v x : MsgV} : (l ++ [x]).count v = l.count v + if x = v then 1 else 0 := by
  rw [List.count_append, List.count_singleton]
  by_cases e : x = v
  · simp [e]
  · have : (x == v) = false := by simpa using e
    simp [e]
theorem sup_msg {m : MsgV} (h : msgC m = 0) : Sup (.link m.from_ m.to) := by
  by_cases b1 : bad1 m
  · rw [msgC_1 b1] at h; cases h
  · by_cases b2 : bad2 m
    · rw [msgC_2 b1 b2] at h; cases h
    · have g : goesP m.kind m.from_ m.to := Decidable.byContradiction fun g => b2 (.inl g)
      unfold goesP at g
      split at g
      · exact .inr ⟨g.1, g.2.1, g.2.2⟩
      · exact .inl ⟨g.2.1, g.2.2, g.1⟩
theorem put_eff {M : NetM} (sup : ∀ k, M k ≠ [] → Sup k) {f t : Int} (hs : Sup (.link f t)) (m : MsgV) : ((putN M f t m).1 = 0 ∧ (∀ k, (putN M f t m).2 k ≠ [] → Sup k) ∧ ∀ v, tot (putN M f t m).2 v = tot M v + if m = v then 1 else 0) ∨ ((putN M f t m).1 ≠ 0 ∧ (putN M f t m).2 = M) := by
  unfold putN
  by_cases h : 64 ≤ (M (.link f t)).length
  · rw [if_pos h]; exact .inr ⟨by show (7 : Int) ≠ 0; decide, rfl⟩
  · rw [if_neg h]
    refine .inl ⟨rfl, upd_sup sup hs _, fun v => ?_⟩
    have := tot_upd M hs (M (.link f t) ++ [m]) v
    rw [count_push] at this
    simp only at this ⊢; omega
theorem send_eff {M : NetM} (sup : ∀ k, M k ≠ [] → Sup k) (m : MsgV) : ((sendN M m).1 = 0 ∧ (∀ k, (sendN M m).2 k ≠ [] → Sup k) ∧ ∀ v, tot (sendN M m).2 v = tot M v + if m = v then 1 else 0) ∨ ((sendN M m).1 ≠ 0 ∧ (sendN M m).2 = M) := by
  unfold sendN
  by_cases h : msgC m ≠ 0
  · rw [if_pos h]; exact .inr ⟨by simpa using h, rfl⟩
  · rw [if_neg h]
    exact put_eff sup (sup_msg (Decidable.of_not_not h)) m
theorem double_eff {M : NetM} (sup : ∀ k, M k ≠ [] → Sup k) (f t a : Int) : ((doubleN M f t a).1 = 0 ∧ ∃ x, 0 ≤ a ∧ (M (.link f t))[a.toNat]? = some x ∧ (∀ k, (doubleN M f t a).2 k ≠ [] → Sup k) ∧ ∀ v, tot (doubleN M f t a).2 v = tot M v + if x = v then 1 else 0) ∨ ((doubleN M f t a).1 ≠ 0 ∧ (doubleN M f t a).2 = M) := by
  unfold doubleN
  by_cases h : thereN M f t a ≠ 0
  · rw [if_pos h]; exact .inr ⟨by show (9 : Int) ≠ 0; decide, rfl⟩
  · obtain ⟨ha, x, hx⟩ := thereN_ok (Decidable.of_not_not h)
    rw [if_neg h, hx]
    have hs := sup (.link f t) (fun e => by rw [e] at hx; simp at hx)
    rcases put_eff sup hs x with ⟨h1, h2, h3⟩ | h1
    · exact .inl ⟨h1, x, ha, rfl, h2, h3⟩
    · exact .inr h1
theorem out_eff {M : NetM} (sup : ∀ k, M k ≠ [] → Sup k) {f t : Int} {i : Nat} {x : MsgV} (hx : (M (.link f t))[i]? = some x) : (∀ k, outN M f t i k ≠ [] → Sup k) ∧ ∀ v, tot (outN M f t i) v + (if x = v then 1 else 0) = tot M v := by
  have hs := sup (.link f t) (fun e => by rw [e] at hx; simp at hx)
  refine ⟨upd_sup sup hs _, fun v => ?_⟩
  unfold outN
  have h1 := tot_upd M hs ((M (.link f t)).eraseIdx i) v
  have h2 := count_erase (v := v) hx
  omega
theorem drop_eff {M : NetM} (sup : ∀ k, M k ≠ [] → Sup k) (f t a : Int) : ((dropN M f t a).1 = 0 ∧ ∃ x, 0 ≤ a ∧ (M (.link f t))[a.toNat]? = some x ∧ (∀ k, (dropN M f t a).2 k ≠ [] → Sup k) ∧ ∀ v, tot (dropN M f t a).2 v + (if x = v then 1 else 0) = tot M v) ∨ ((dropN M f t a).1 ≠ 0 ∧ (dropN M f t a).2 = M) := by
  unfold dropN
  by_cases h : thereN M f t a ≠ 0
  · rw [if_pos h]; exact .inr ⟨by show (9 : Int) ≠ 0; decide, rfl⟩
  · obtain ⟨ha, x, hx⟩ := thereN_ok (Decidable.of_not_not h)
    rw [if_neg h]
    obtain ⟨h1, h2⟩ := out_eff sup hx
    exact .inl ⟨rfl, x, ha, hx, h1, h2⟩
theorem deliver_eff {M : NetM} (sup : ∀ k, M k ≠ [] → Sup k) (f t a : Int) : (∀ k, (deliverN M f t a).2 k ≠ [] → Sup k) ∧ ∀ v, tot (deliverN M f t a).2 v = tot M v := by
  unfold deliverN
  by_cases h : thereN M f t a ≠ 0
  · rw [if_pos h]; exact ⟨sup, fun _ => rfl⟩
  · rw [if_neg h]
    by_cases h2 : 64 ≤ (M (.box t)).length
    · rw [if_pos h2]; exact ⟨sup, fun _ => rfl⟩
    · obtain ⟨ha, x, hx⟩ := thereN_ok (Decidable.of_not_not h)
      rw [if_neg h2, hx]
      have hs := sup (.link f t) (fun e => by rw [e] at hx; simp at hx)
      have sb := upd_sup sup (sup_box hs) (M (.box t) ++ [x])
      have hx' : (updM M (.box t) (M (.box t) ++ [x]) (.link f t))[a.toNat]? = some x := by unfold updM; rw [if_neg (fun e => by cases e)]; exact hx
      obtain ⟨h3, h4⟩ := out_eff sb hx'
      refine ⟨h3, fun v => ?_⟩
      have h5 := h4 v
      have h6 := tot_upd M (sup_box hs) (M (.box t) ++ [x]) v
      rw [count_push] at h6
      simp only at h5 h6 ⊢; omega
theorem upd_same {M : NetM} {k : Key} (h : M k = []) : updM M k [] = M := by
  funext x; unfold updM; split
  · subst x; exact h.symm
  · rfl
theorem take_eff {M : NetM} (sup : ∀ k, M k ≠ [] → Sup k) (n : Int) : (M (.box n) = [] ∧ takeM M n = M) ∨ ∃ x r, M (.box n) = x :: r ∧ (∀ k, takeM M n k ≠ [] → Sup k) ∧ ∀ v, tot (takeM M n) v + (if x = v then 1 else 0) = tot M v := by
  unfold takeM
  cases hb : M (.box n) with
  | nil => exact .inl ⟨rfl, by rw [List.tail_nil, upd_same hb]⟩
  | cons x r =>
    have hs := sup (.box n) (fun e => by rw [e] at hb; cases hb)
    refine .inr ⟨x, r, rfl, upd_sup sup hs _, fun v => ?_⟩
    have h1 := tot_upd M hs r v
    rw [hb, List.count_cons] at h1
    rw [List.tail_cons]
    by_cases e : x = v
    · rw [if_pos e]; simp [e] at h1; omega
    · rw [if_neg e]; have : (x == v) = false := by simpa using e
      rw [this] at h1; simp at h1; omega
theorem clear_eff {M : NetM} (sup : ∀ k, M k ≠ [] → Sup k) (n : Int) : (∀ k, updM M (.box n) [] k ≠ [] → Sup k) ∧ ∀ v, tot (updM M (.box n) []) v + (M (.box n)).count v = tot M v := by
  cases hb : M (.box n) with
  | nil => rw [upd_same hb]; exact ⟨sup, fun v => by simp⟩
  | cons x r =>
    have hs := sup (.box n) (fun e => by rw [e] at hb; cases hb)
    refine ⟨upd_sup sup hs _, fun v => ?_⟩
    have := tot_upd M hs [] v
    rw [hb] at this
    simpa using this
/-- both: a net, and what is counted of it; what else must stay -/
structure CI (h h' : Heap) (P : Nat → Prop) (b2 b3 q : Nat) (F G : Nat → Prop) (M : NetM) (alls : List MsgV) (ns : List Int) : Prop where
  n : NetAt F h' q M
  a : AddAt G h' b2 b3 alls ns
  fr : ∀ k, F k → h.size ≤ k
  gr : ∀ k, G k → h.size ≤ k
  dis : ∀ k, F k → ¬ G k
  pr : ∀ k, P k → ¬ F k ∧ ¬ G k ∧ k < h'.size
  ext : Ext h h'
theorem CI.prot {h h' : Heap} {P P' : Nat → Prop} {b2 b3 q : Nat} {F G : Nat → Prop} {M : NetM} {alls : List MsgV} {ns : List Int} (x : CI h h' P b2 b3 q F G M alls ns) (hP : ∀ k, P' k → P k ∨ (¬ F k ∧ ¬ G k ∧ k < h'.size)) : CI h h' P' b2 b3 q F G M alls ns :=
  ⟨x.n, x.a, x.fr, x.gr, x.dis, fun k hk => (hP k hk).elim (x.pr k) id, x.ext⟩
theorem CI.grow {h h1 h2 : Heap} {P : Nat → Prop} {b2 b3 q : Nat} {F G : Nat → Prop} {M : NetM} {alls : List MsgV} {ns : List Int} (x : CI h h1 P b2 b3 q F G M alls ns) (e : Ext h1 h2) : CI h h2 (fun k => P k ∨ (h1.size ≤ k ∧ k < h2.size)) b2 b3 q F G M alls ns :=
  ⟨x.n.grow e, x.a.grow e, x.fr, x.gr, x.dis, fun k hk => hk.elim (fun hk => ⟨(x.pr k hk).1, (x.pr k hk).2.1, Nat.lt_of_lt_of_le (x.pr k hk).2.2 e.size⟩) (fun hk => ⟨fun hf => by have := x.n.bound k hf; omega, fun hg => by have := x.a.bound k hg; omega, hk.2⟩), x.ext.trans e⟩
theorem CI.opn {h h1 h2 : Heap} {P : Nat → Prop} {b2 b3 q : Nat} {F G : Nat → Prop} {M M2 : NetM} {alls : List MsgV} {ns : List Int} (x : CI h h1 P b2 b3 q F G M alls ns) (N : NetAt (Fx F h1 h2) h2 q M2) (k : Keep F h1 h2) : CI h h2 P b2 b3 q (Fx F h1 h2) G M2 alls ns := by
  have xs := x.ext.size
  refine ⟨N, x.a.keep k (fun j hj hf => x.dis j hf hj) (fun _ h => h) (fun j hj => Nat.lt_of_lt_of_le (x.a.bound j hj) k.size), fun j hj => hj.elim (x.fr j) (fun hj => by omega), x.gr, fun j hj hg => hj.elim (fun hj => x.dis j hj hg) (fun hj => by have := x.a.bound j hg; omega), fun j hj => ⟨fun hf => hf.elim (x.pr j hj).1 (fun hf => by have := (x.pr j hj).2.2; omega), (x.pr j hj).2.1, Nat.lt_of_lt_of_le (x.pr j hj).2.2 k.size⟩, Ext.thenKeep x.ext k x.fr⟩
theorem CI.opa {h h1 h2 : Heap} {P T : Nat → Prop} {b2 b3 q : Nat} {F G : Nat → Prop} {M : NetM} {alls alls2 : List MsgV} {ns ns2 : List Int} (x : CI h h1 (fun k => P k ∨ T k) b2 b3 q F G M alls ns) (hPT : ∀ k, P k → ¬ T k) (hT : ∀ k, T k → h.size ≤ k) (A : AddAt (fun k => Fx G h1 h2 k ∨ T k) h2 b2 b3 alls2 ns2) (k : Keep G h1 h2) : CI h h2 P b2 b3 q F (fun k => Fx G h1 h2 k ∨ T k) M alls2 ns2 := by
  have xs := x.ext.size
  refine ⟨x.n.keep k x.dis (fun _ h => h) (fun j hj => Nat.lt_of_lt_of_le (x.n.bound j hj) k.size), A, x.fr, fun j hj => ?_, fun j hf hj => ?_, fun j hj => ⟨(x.pr j (.inl hj)).1, fun hg => ?_, Nat.lt_of_lt_of_le (x.pr j (.inl hj)).2.2 k.size⟩, Ext.thenKeep x.ext k x.gr⟩
  · rcases hj with (hj | hj) | hj
    · exact x.gr j hj
    · omega
    · exact hT j hj
  · rcases hj with (hj | hj) | hj
    · exact x.dis j hf hj
    · have := x.n.bound j hf; omega
    · exact (x.pr j (.inr hj)).1 hf
  · rcases hg with (hg | hg) | hg
    · exact (x.pr j (.inl hj)).2.1 hg
    · have := (x.pr j (.inl hj)).2.2; omega
    · exact hPT j hj hg
theorem Copies.slot {h0 h : Heap} {a : Option Addr} {l c : Nat} {ms : List MsgV} (t : Copies h0 h a l c ms) (few : ms.length ≤ 64) : SlotAt (fun k => h0.size ≤ k ∧ k < h.size) h a l c ms := by
  obtain ⟨ds, o, hl, hm⟩ := t.ex
  refine ⟨⟨ds, o.toS, hl, fun i m d hi hd => ?_⟩, few, fun ad ea => ?_⟩
  · obtain ⟨es, tm, l1, l2, ok⟩ := hm i m d hi hd
    exact ⟨es, twin_msg tm (fun k a b => ⟨a, b⟩) l1 l2 ok⟩
  · rcases o.own with ⟨e, _⟩ | ⟨b, cs, e, g1, g2, _⟩
    · rw [ea] at e; cases e
    · rw [ea] at e; cases e
      exact ⟨g1, blk_lt g2⟩
end Go.Wire
namespace Go.Proofs.Ytnhnioodlciajaa
open Go.Vc Go.Sha Go.Trail Go.Packs Go.Wire
set_option linter.unusedVariables false
theorem add_inv {G T : Nat → Prop} {h : Heap} {b2 b3 : Nat} {alls : List MsgV} {ns : List Int} {Tt Tt' : MsgV → Int} (A : AddAt G h b2 b3 alls ns) (o : CInvO Tt alls ns) (m : MsgV) (d : Hdr) (es : List Hdr) (hp : PacksAt h d.a d.l d.c m.packs es) (l1 : d.l ≤ 20) (l2 : ∀ x ∈ es, x.l ≤ 20) (own : m ∉ alls → MsgF T h m d es ∧ alls.length < 64) (hT : ∀ k, T k → k < h.size) (z : Int)
    (hm : Tt' m = Tt m + z) (ho : ∀ v, v ≠ m → Tt' v = Tt v) (hb : -10000 ≤ Tt m ∧ Tt m ≤ 10000) (hz : -1 ≤ z ∧ z ≤ 1) :
    HEnt Try.prog 25 #[.agg (msgCells m d).toArray, .int .i64 z, .pointer (some (at0 b2)), .pointer (some (at0 b3))] h fun v h' => v = .tuple #[] ∧ Keep G h h' ∧ ∃ alls' ns', AddAt (fun k => Fx G h h' k ∨ T k) h' b2 b3 alls' ns' ∧ CInvO Tt' alls' ns' ∧ alls'.length ≤ alls.length + 1 ∧ (m ∈ alls → alls' = alls) := by
  refine HEnt.mono (add_ok A m d es hp l1 l2 (fun hn => own (fun h => hn m h rfl)) hT z) ?_
  rintro v h' ⟨rfl, k, hr⟩
  refine ⟨rfl, k, ?_⟩
  rcases hr with ⟨i, y, hi, hy, _, A'⟩ | ⟨hn, A'⟩
  · have e := o.cnt i m y hi hy
    rw [i64_lt _ (by omega) (by omega)] at A'
    exact ⟨alls, ns.set i (y + z), A'.keep (Keep.refl (fun _ => False) _) (fun _ _ h => h) (fun _ h => .inl h) (fun j hj => hj.elim (fun hj => hj.elim (fun hj => by have := A.bound j hj; have := k.size; omega) (fun hj => hj.2)) (fun hj => by have := hT j hj; have := k.size; omega)), o.set hi hy hm ho, by omega, fun _ => rfl⟩
  · exact ⟨alls ++ [m], ns ++ [z], A', o.app hn hm ho, by simp, fun h => absurd rfl (hn m h)⟩
end Go.Proofs.Ytnhnioodlciajaa

namespace Go.Wire
open Go.Vc Go.Packs Go.Proofs Go.Proofs.Ytnhnioodlciajaa
set_option linter.unusedVariables false
/-- acts that may be read -/
def ActsRd (h : Heap) (a : Option Addr) (l : Nat) : Prop := ∀ i, i < l → ∃ (b o : Nat) (k f t c : Int) (m : MsgV) (e : Hdr) (es : List Hdr), a = some ⟨b, o, none⟩ ∧ b < h.size ∧ PacksAt h e.a e.l e.c m.packs es ∧ ∀ j v, (actCells k f t c m e)[j]? = some v → Vc.cell h ⟨b, o + i * 10 + j, none⟩ = some v
theorem CInv.same {M M' : NetM} {alls : List MsgV} {ns : List Int} (v : CInv M alls ns) (sup : ∀ k, M' k ≠ [] → Sup k) (ht : ∀ x, tot M' x = tot M x) : CInv M' alls ns :=
  ⟨sup, v.nd, v.len, fun i x z hi hz => by rw [ht x]; exact v.cnt i x z hi hz, fun x hx => by rw [ht x]; exact v.no x hx⟩
theorem ite_ne {x v : MsgV} (h : v ≠ x) : (if x = v then 1 else 0 : Nat) = 0 := if_neg (fun e => h e.symm)
end Go.Wire
namespace Go.Proofs.Ytnhnioodlciajaa
open Go.Vc Go.Sha Go.Trail Go.Packs Go.Wire
set_option linter.unusedVariables false
theorem zeroC29 : zeroC Try.prog 29 = #[.slice none 0 0] := by kernel_rfl
theorem zeroC47 : zeroC Try.prog 47 = #[.slice none 0 0] := by kernel_rfl
theorem zeroC50 : (zeroC Try.prog 50).size = 10 := by kernel_rfl
theorem tot_le {F : Nat → Prop} {h : Heap} {q : Nat} {M : NetM} (N : NetAt F h q M) (v : MsgV) : tot M v ≤ 1344 := N.totTo v 7
theorem counts_k6 {h0 h : Heap} {b2 b3 q : Nat} {F G P : Nat → Prop} {M : NetM} {alls : List MsgV} {ns : List Int} {n c0 : Nat} {a0 : Option Addr} {b8 b10 : Nat} {k f t a : Int} {m mm : MsgV} {e d : Hdr} {es es2 : List Hdr} {x7 : Int} {I2 : Int → Heap → Prop} {M2 : Int → Heap → Nat} {m2 : Nat} {R : Value → Heap → Prop}
    (I : CI h0 h P b2 b3 q F G M alls ns) (V : CInv M alls ns) (g8 : h[b8]? = some (.cells (actCells k f t a m e).toArray 50 (0, 0))) (p8 : P b8) (g10 : h[b10]? = some (.cells (msgCells mm d).toArray 24 (0, 0))) (p10 : P b10) (tm : MsgF P h mm d es2) (hp : PacksAt h0 e.a e.l e.c m.packs es)
    (hat : 0 ≤ a → ∀ x, (M (.link f t))[a.toNat]? = some x → mm = x) (room : alls.length < 50)
    (next : ∀ h2 F2 G2 M' alls2 ns2, CI h0 h2 (fun _ => False) b2 b3 q F2 G2 M' alls2 ns2 → CInv M' alls2 ns2 → alls2.length ≤ alls.length + 1 → F6_k7 I2 M2 m2 a0 n c0 (some (at0 q)) (at0 b2) (at0 b3) (at0 b2) (at0 b3) x7 h2 R) :
    F6_k6 I2 M2 m2 a0 n c0 (some (at0 q)) (at0 b2) (at0 b3) (at0 b2) (at0 b3) x7 (at0 b8) (at0 b10) h R := by
  have c8 : ∀ {h' : Heap}, h'[b8]? = some (.cells (actCells k f t a m e).toArray 50 (0, 0)) → ∀ j v, (actCells k f t a m e)[j]? = some v → Vc.cell h' ((at0 b8).add j) = some v := fun g j v hv => by rw [add_at0, cell_blk g]; simpa using hv
  have cm : ∀ j v, (actCells k f t a m e)[4 + j]? = some v → Vc.cell h (((at0 b8).add 4).add j) = some v := fun j v hv => by rw [add_at0, add_mk, cell_blk g8]; simpa using hv
  have c10 : ∀ {h' : Heap}, h'[b10]? = some (.cells (msgCells mm d).toArray 24 (0, 0)) → ∀ j v, (msgCells mm d)[j]? = some v → Vc.cell h' ((at0 b10).add j) = some v := fun g j v hv => by rw [add_at0, cell_blk g]; simpa using hv
  have toF : ∀ {h' F' G' M' al' ns' P'}, CI h0 h' P' b2 b3 q F' G' M' al' ns' → CI h0 h' (fun _ => False) b2 b3 q F' G' M' al' ns' := fun I => I.prot fun _ hk => hk.elim
  have noT : ∀ {h' F' G' M' al' ns' P'}, CI h0 h' P' b2 b3 q F' G' M' al' ns' → CI h0 h' (fun k => False ∨ False) b2 b3 q F' G' M' al' ns' := fun I => I.prot fun _ hk => hk.elim (fun h => h.elim) (fun h => h.elim)
  unfold F6_k6
  refine ⟨k, c8 g8 0 _ rfl, br_of (fun _ => ?_) (fun _ => br_of (fun _ => ?_) (fun _ => br_of (fun _ => ?_) (fun _ => br_of (fun _ => ?_) (fun _ => br_of (fun _ => ?_) (fun _ => ?_)))))⟩
  · refine ⟨m.kind, m.from_, m.to, m.txn, m.yes, e.a, e.l, e.c, cm 0 _ rfl, cm 1 _ rfl, cm 2 _ rfl, cm 3 _ rfl, cm 4 _ rfl, cm 5 _ rfl, rfl, HEnt.use (few_ok m e es h (hp.grow I.ext)) ?_⟩
    rintro _ h1 ⟨e', es', rfl, tw, x1⟩
    have ll := few_len tw
    have oks := few_oks (PacksAt.oks hp)
    generalize hfm : fewM m = fm at tw ll
    rw [show fewPacks m.packs = fm.packs by rw [← hfm]; rfl] at oks
    refine ⟨fm.kind, fm.from_, fm.to, fm.txn, fm.yes, e'.a, e'.l, e'.c, rfl, (St.start h1).new fun b11 h2 s2 x2 g2 => ?_⟩
    refine s2.storeAll 0 rfl rfl zeroC24 (vs := (msgCells fm e').toArray) (by simp [msgCells, one]) fun h3 s3 on3 => ?_
    simp only [List.set_cons_zero] at s3
    have x13 := s3.ext
    have x03 := x1.trans x13
    have tm1 : MsgF (fun k => h.size ≤ k ∧ k < h1.size) h1 fm e' es' := twin_msg tw (fun k a b => ⟨a, b⟩) ll.1 ll.2 oks
    have tm3 : MsgF (fun k => h.size ≤ k ∧ k < h1.size) h3 fm e' es' := tm1.keep' (x13.keep (fun _ => False)) (fun _ h => h) (fun _ _ h => h)
    have I3 := I.grow x03
    have z1 := x1.size
    have z3 := x13.size
    have g11 := (s3.at_ 0 _ rfl).2
    have ge11 := (s3.at_ 0 _ rfl).1
    have lt11 := blk_lt g11
    simp only at g11 ge11 lt11
    refine ⟨fm.kind, fm.from_, fm.to, fm.txn, fm.yes, e'.a, e'.l, e'.c, s3.cell 0 rfl rfl, s3.cell 0 rfl rfl, s3.cell 0 rfl rfl, s3.cell 0 rfl rfl, s3.cell 0 rfl rfl, s3.cell 0 rfl rfl, rfl, HEnt.use (send_ok I3.n fm e' es' tm3.packs ll.1 ll.2) ?_⟩
    rintro _ h4 ⟨rfl, N4, k4⟩
    have I4 := I3.opn N4 k4
    have z4 := k4.size
    refine ⟨_, rfl, br_of (fun g => ?_) (fun g => ?_)⟩
    · have g : (sendN M fm).1 = 0 := by simpa using g
      rcases send_eff V.sup fm with ⟨_, sup', eff⟩ | ⟨hne, _⟩
      · have g4 : h4[b11]? = some (.cells (msgCells fm e').toArray 24 (0, 0)) := k4.blk g11 (fun hf => (I3.pr b11 (.inr ⟨by omega, lt11⟩)).1 hf)
        have c11 : ∀ j v, (msgCells fm e')[j]? = some v → Vc.cell h4 ((at0 b11).add j) = some v := fun j v hv => by rw [add_at0, cell_blk g4]; simpa using hv
        have tm4 : MsgF (fun k => h.size ≤ k ∧ k < h1.size) h4 fm e' es' := tm3.keep' k4 (fun _ h => h) (fun j hj hf => (I3.pr j (.inr ⟨hj.1, by omega⟩)).1 hf)
        refine ⟨fm.kind, fm.from_, fm.to, fm.txn, fm.yes, e'.a, e'.l, e'.c, c11 0 _ rfl, c11 1 _ rfl, c11 2 _ rfl, c11 3 _ rfl, c11 4 _ rfl, c11 5 _ rfl, rfl, HEnt.use (add_inv (Tt' := fun v => (tot (sendN M fm).2 v : Int)) (T := fun k => h.size ≤ k ∧ k < h1.size) I4.a V.o fm e' es' tm4.packs ll.1 ll.2 (fun _ => ⟨tm4, by omega⟩) (fun j hj => by omega) 1 (by have := eff fm; rw [if_pos rfl] at this; omega) (fun v hv => by have := eff v; rw [ite_ne hv] at this; omega) (by have := tot_le I.n fm; constructor <;> omega) (by decide)) ?_⟩
        rintro _ h5 ⟨rfl, k5, al', ns', A', o', hl', _⟩
        refine ⟨rfl, next h5 _ _ _ al' ns' (CI.opa (P := fun _ => False) (I4.prot fun j hj => .inl (.inr (hj.elim (fun h => h.elim) (fun hj => ⟨hj.1, by omega⟩)))) (fun _ h => h.elim) (fun j hj => by have := I.ext.size; omega) A' k5) (o'.back sup') hl'⟩
      · exact absurd g hne
    · rcases send_eff V.sup fm with ⟨h0', _⟩ | ⟨_, hM⟩
      · rw [h0'] at g; simp at g
      · rw [hM] at I4
        exact next h4 _ _ _ alls ns (toF I4) V (by omega)
  · refine ⟨f, c8 g8 1 _ rfl, t, c8 g8 2 _ rfl, a, c8 g8 3 _ rfl, HEnt.use (deliver_ok I.n f t a) ?_⟩
    rintro _ h1 ⟨rfl, N1, k1⟩
    obtain ⟨sup', eff⟩ := deliver_eff V.sup f t a
    exact ⟨_, rfl, next h1 _ _ _ alls ns (toF (I.opn N1 k1)) (V.same sup' eff) (by omega)⟩
  · refine ⟨f, c8 g8 1 _ rfl, t, c8 g8 2 _ rfl, a, c8 g8 3 _ rfl, HEnt.use (drop_ok I.n f t a) ?_⟩
    rintro _ h1 ⟨rfl, N1, k1⟩
    have I1 := I.opn N1 k1
    have g1 := k1.blk g10 (I.pr b10 p10).1
    have tm1 : MsgF P h1 mm d es2 := tm.keep' k1 (fun _ h => h) (fun j hj hf => (I.pr j hj).1 hf)
    rcases drop_eff V.sup f t a with ⟨h0', x, ha, hx, sup', eff⟩ | ⟨hne, hM⟩
    · refine ⟨_, rfl, br_of (fun _ => ?_) (fun g => by rw [h0'] at g; simp at g)⟩
      have ex := hat ha x hx
      subst ex
      have hmem := V.mem (List.mem_of_getElem? hx)
      refine ⟨mm.kind, mm.from_, mm.to, mm.txn, mm.yes, d.a, d.l, d.c, c10 g1 0 _ rfl, c10 g1 1 _ rfl, c10 g1 2 _ rfl, c10 g1 3 _ rfl, c10 g1 4 _ rfl, c10 g1 5 _ rfl, rfl, HEnt.use (add_inv (Tt' := fun v => (tot (dropN M f t a).2 v : Int)) (T := fun _ => False) I1.a V.o mm d es2 tm1.packs tm1.l1 tm1.l2 (fun hn => absurd hmem hn) (fun _ h => h.elim) (-1) (by have := eff mm; rw [if_pos rfl] at this; omega) (fun v hv => by have := eff v; rw [ite_ne hv] at this; omega) (by have := tot_le I.n mm; constructor <;> omega) (by decide)) ?_⟩
      rintro _ h2 ⟨rfl, k2, al', ns', A', o', hl', _⟩
      exact ⟨rfl, next h2 _ _ _ al' ns' (CI.opa (P := fun _ => False) (noT I1) (fun _ h => h.elim) (fun j hj => hj.elim) A' k2) (o'.back sup') hl'⟩
    · refine ⟨_, rfl, br_of (fun g => absurd (by simpa using g) hne) (fun _ => ?_)⟩
      rw [hM] at I1
      exact next h1 _ _ _ alls ns (toF I1) V (by omega)
  · refine ⟨f, c8 g8 1 _ rfl, t, c8 g8 2 _ rfl, a, c8 g8 3 _ rfl, HEnt.use (double_ok I.n f t a) ?_⟩
    rintro _ h1 ⟨rfl, N1, k1⟩
    have I1 := I.opn N1 k1
    have g1 := k1.blk g10 (I.pr b10 p10).1
    have tm1 : MsgF P h1 mm d es2 := tm.keep' k1 (fun _ h => h) (fun j hj hf => (I.pr j hj).1 hf)
    rcases double_eff V.sup f t a with ⟨h0', x, ha, hx, sup', eff⟩ | ⟨hne, hM⟩
    · refine ⟨_, rfl, br_of (fun _ => ?_) (fun g => by rw [h0'] at g; simp at g)⟩
      have ex := hat ha x hx
      subst ex
      have hmem := V.mem (List.mem_of_getElem? hx)
      refine ⟨mm.kind, mm.from_, mm.to, mm.txn, mm.yes, d.a, d.l, d.c, c10 g1 0 _ rfl, c10 g1 1 _ rfl, c10 g1 2 _ rfl, c10 g1 3 _ rfl, c10 g1 4 _ rfl, c10 g1 5 _ rfl, rfl, HEnt.use (add_inv (Tt' := fun v => (tot (doubleN M f t a).2 v : Int)) (T := fun _ => False) I1.a V.o mm d es2 tm1.packs tm1.l1 tm1.l2 (fun hn => absurd hmem hn) (fun _ h => h.elim) 1 (by have := eff mm; rw [if_pos rfl] at this; omega) (fun v hv => by have := eff v; rw [ite_ne hv] at this; omega) (by have := tot_le I.n mm; constructor <;> omega) (by decide)) ?_⟩
      rintro _ h2 ⟨rfl, k2, al', ns', A', o', hl', _⟩
      exact ⟨rfl, next h2 _ _ _ al' ns' (CI.opa (P := fun _ => False) (noT I1) (fun _ h => h.elim) (fun j hj => hj.elim) A' k2) (o'.back sup') hl'⟩
    · refine ⟨_, rfl, br_of (fun g => absurd (by simpa using g) hne) (fun _ => ?_)⟩
      rw [hM] at I1
      exact next h1 _ _ _ alls ns (toF I1) V (by omega)
  · refine ⟨t, c8 g8 2 _ rfl, HEnt.use (take_ok I.n t) ?_⟩
    rintro _ h1 ⟨⟨d', es', rfl, tm1⟩, N1, k1⟩
    have I1 := I.opn N1 k1
    generalize hx : (M (.box t)).head?.getD zeroM = x at tm1
    refine ⟨x.kind, x.from_, x.to, x.txn, x.yes, d'.a, d'.l, d'.c, (M (.box t)).head?.isSome, rfl, (St.start h1).new fun b12 h2 s2 x2 g2 => ?_⟩
    refine s2.storeAll 0 rfl rfl zeroC24 (vs := (msgCells x d').toArray) (by simp [msgCells, one]) fun h3 s3 on3 => ?_
    simp only [List.set_cons_zero] at s3
    have I3 := I1.grow s3.ext
    have p3 := tm1.packs.grow s3.ext
    rcases take_eff V.sup t with ⟨hb, hM⟩ | ⟨y, r, hb, sup', eff⟩
    · refine br_of (fun g => by rw [hb] at g; cases g) (fun _ => ?_)
      rw [hM] at I3
      exact next h3 _ _ _ alls ns (toF I3) V (by omega)
    · have hxy : y = x := by rw [hb] at hx; simpa using hx
      subst hxy
      refine br_of (fun _ => ?_) (fun g => by rw [hb] at g; cases g)
      have hmem : y ∈ alls := V.mem (k := .box t) (by rw [hb]; simp)
      refine ⟨y.kind, y.from_, y.to, y.txn, y.yes, d'.a, d'.l, d'.c, s3.cell 0 rfl rfl, s3.cell 0 rfl rfl, s3.cell 0 rfl rfl, s3.cell 0 rfl rfl, s3.cell 0 rfl rfl, s3.cell 0 rfl rfl, rfl, HEnt.use (add_inv (Tt' := fun v => (tot (takeM M t) v : Int)) (T := fun _ => False) I3.a V.o y d' es' p3 tm1.l1 tm1.l2 (fun hn => absurd hmem hn) (fun _ h => h.elim) (-1) (by have := eff y; rw [if_pos rfl] at this; omega) (fun v hv => by have := eff v; rw [ite_ne hv] at this; omega) (by have := tot_le I.n y; constructor <;> omega) (by decide)) ?_⟩
      rintro _ h4 ⟨rfl, k4, al', ns', A', o', hl', _⟩
      exact ⟨rfl, next h4 _ _ _ al' ns' (CI.opa (P := fun _ => False) (noT I3) (fun _ h => h.elim) (fun j hj => hj.elim) A' k4) (o'.back sup') hl'⟩
  · refine ⟨t, c8 g8 2 _ rfl, HEnt.use (box_ok I.n t) ?_⟩
    rintro _ h1 ⟨a1, l1, c1, rfl, t1⟩
    have len1 := t1.len
    have few1 := I.n.few (.box t)
    have I1 := I.grow t1.ext
    have sl1 := t1.slot few1
    have g81 := t1.ext.blk g8
    generalize hB : M (.box t) = B at len1 few1 sl1
    refine ⟨a1, l1, c1, rfl, fun x h' => ∃ (j : Nat) (G' : Nat → Prop) (ns' : List Int), x = j ∧ j ≤ l1 ∧ CI h0 h' (fun k => P k ∨ (h.size ≤ k ∧ k < h1.size)) b2 b3 q F G' M alls ns' ∧ CInvO (fun v => (tot M v : Int) - ((B.take j).count v : Nat)) alls ns' ∧ SlotAt (fun k => h.size ≤ k ∧ k < h1.size) h' a1 l1 c1 B ∧ h'[b8]? = some (.cells (actCells k f t a m e).toArray 50 (0, 0)), fun x _ => ((l1 : Int) - x).toNat, ⟨0, G, ns, rfl, by omega, I1, ⟨V.nd, V.len, fun i v z hi hz => by rw [V.cnt i v z hi hz]; simp, fun v hv => by rw [V.no v hv]; simp⟩, sl1, g81⟩, ?_⟩
    rintro h2 _ ⟨j, G2, ns2, rfl, hj, J2, o2, sl2, g82⟩
    unfold F6_b8
    refine br_of (fun g => ?_) (fun g => ?_)
    · have hj' : j < l1 := by
        have : (j : Int) < (l1 : Int) := by simpa using g
        omega
      have hmj : B[j]? = some (B[j]'(by omega)) := List.getElem?_eq_getElem _
      generalize B[j]'(by omega) = x at hmj
      obtain ⟨q', d', es', ea, hlt, tmx, hc, _⟩ := sl2.get hmj
      have hmem : x ∈ alls := V.mem (k := .box t) (by rw [hB]; exact List.mem_of_getElem? hmj)
      unfold F6_k9
      simp only [Int.toNat_natCast]
      refine ⟨q', ea, by omega, by omega, x.kind, x.from_, x.to, x.txn, x.yes, d'.a, d'.l, d'.c, hc 0 _ rfl, hc 1 _ rfl, hc 2 _ rfl, hc 3 _ rfl, hc 4 _ rfl, hc 5 _ rfl, trivial, (St.start h2).new fun b15 h3 s3 x3 g3 => ?_⟩
      refine s3.storeAll 0 rfl rfl zeroC24 (vs := (msgCells x d').toArray) (by simp [msgCells, one]) fun h4 s4 on4 => ?_
      simp only [List.set_cons_zero] at s4
      have J4 := J2.grow s4.ext
      have p4 := tmx.packs.grow s4.ext
      have hct := fun v => count_take (v := v) hmj
      have hle : ∀ v, (B.take j).count v ≤ 64 := fun v => Nat.le_trans List.count_le_length (by rw [List.length_take]; omega)
      refine ⟨x.kind, x.from_, x.to, x.txn, x.yes, d'.a, d'.l, d'.c, s4.cell 0 rfl rfl, s4.cell 0 rfl rfl, s4.cell 0 rfl rfl, s4.cell 0 rfl rfl, s4.cell 0 rfl rfl, s4.cell 0 rfl rfl, trivial, HEnt.use (add_inv (Tt' := fun v => (tot M v : Int) - ((B.take (j + 1)).count v : Nat)) (T := fun _ => False) J4.a o2 x d' es' p4 tmx.l1 tmx.l2 (fun hn => absurd hmem hn) (fun _ h => h.elim) (-1) (by have := hct x; rw [if_pos rfl] at this; omega) (fun v hv => by have := hct v; rw [ite_ne hv] at this; omega) (by have := tot_le I.n x; have := hle x; constructor <;> omega) (by decide)) ?_⟩
      rintro _ h5 ⟨rfl, k5, al', ns', A', o', _, hal⟩
      rw [hal hmem] at A' o'
      have J5 := CI.opa (P := fun k => P k ∨ (h.size ≤ k ∧ k < h1.size)) (T := fun _ => False) (J4.prot fun j hj => .inl (.inl (hj.elim id (fun h => h.elim)))) (fun _ _ h => h) (fun j hj => hj.elim) A' k5
      rw [wrap_succ j _ hj' (by omega)]
      refine ⟨rfl, ⟨j + 1, _, ns', rfl, by omega, J5, o', (sl2.keep' (s4.ext.keep (fun _ => False)) (fun _ h => h) (fun _ _ h => h)).keep' k5 (fun _ h => h) (fun i hi hg => (J2.pr i (.inr hi)).2.1 hg), k5.blk (s4.ext.blk g82) (fun hg => (J2.pr b8 (.inl p8)).2.1 hg)⟩, less_succ _ _ hj'⟩
    · have hj' : j = l1 := by
        have : ¬ (j : Int) < (l1 : Int) := by simpa using g
        omega
      rw [hj', List.take_of_length_le (by omega)] at o2
      unfold F6_k10
      refine ⟨t, c8 g82 2 _ rfl, HEnt.use (clear_ok J2.n t) ?_⟩
      rintro _ h3 ⟨rfl, N3, k3⟩
      obtain ⟨sup', eff⟩ := clear_eff V.sup t
      refine ⟨_, rfl, next h3 _ _ _ alls ns2 (toF (J2.opn N3 k3)) ⟨sup', o2.nd, o2.len, fun i v z hi hz => ?_, fun v hv => ?_⟩ (by omega)⟩
      · have h1 := o2.cnt i v z hi hz
        have h2 := eff v
        rw [hB] at h2
        omega
      · have h1 := o2.no v hv
        have h2 := eff v
        rw [hB] at h2
        have h3 := V.no v hv
        omega
/-- each has as many as are there -/
theorem counts_end {h0 h : Heap} {b2 b3 q : Nat} {F G P : Nat → Prop} {M : NetM} {alls : List MsgV} {ns : List Int} (I : CI h0 h P b2 b3 q F G M alls ns) (V : CInv M alls ns) (few : alls.length ≤ 50) :
    F6_k11 (some (at0 q)) (at0 b2) (at0 b3) h fun v h' => v = .bool true ∧ Ext h0 h' := by
  have A := I.a
  obtain ⟨aA, lA, cA, aM, lM, cM, r⟩ := A
  have hlen := r.sA.len
  have hlen2 := r.len
  have hlenM : ns.length = lM := by have := r.sM.len; unfold manyR at this; rw [List.length_map] at this; exact this
  unfold F6_k11
  refine ⟨aA, lA, cA, by rw [show (at0 b2 : Addr) = ⟨b2, 0, none⟩ from rfl, cell_blk r.c2]; rfl, fun x h' => ∃ k : Nat, x = k ∧ k ≤ lA ∧ Ext h h', fun x _ => ((lA : Int) - x).toNat, ⟨0, rfl, by omega, Ext.refl _⟩, ?_⟩
  rintro h1 _ ⟨k, rfl, hk, x1⟩
  have r1 := r.keep (x1.keep (fun _ => False)) (fun _ _ h => h) (fun _ h => h) (fun k hk => Nat.lt_of_lt_of_le (r.bound k hk) x1.size)
  unfold F6_b12
  refine br_of (fun g => ?_) (fun g => ?_)
  · have hk' : k < lA := by
      have : (k : Int) < (lA : Int) := by simpa using g
      omega
    have hm : alls[k]? = some (alls[k]'(by omega)) := List.getElem?_eq_getElem _
    generalize alls[k]'(by omega) = m at hm
    have hy : ns[k]? = some (ns[k]'(by omega)) := List.getElem?_eq_getElem _
    generalize ns[k]'(by omega) = y at hy
    have ey := V.cnt k m y hm hy
    obtain ⟨q1, d, es, ea, hlt, tm, hc, hw⟩ := r1.sA.get hm
    obtain ⟨q3, e3, _, hc3⟩ := r1.sM.rows.get (manyR_at hy)
    have c3 := hc3 0 _ rfl
    rw [add_zero'] at c3
    have l2 : ∀ w : World, Ext h1 w.heap → (loadVar 29 (at0 b2)).run Try.prog w = .ok (.slice aA lA cA) w := fun w hx => run_loadCell (by rw [show (at0 b2 : Addr) = ⟨b2, 0, none⟩ from rfl, cell_blk (hx.blk r1.c2)]; rfl) Try.underlying29 rfl
    have l3 : ∀ w : World, Ext h1 w.heap → (loadVar 47 (at0 b3)).run Try.prog w = .ok (.slice aM lM cM) w := fun w hx => run_loadCell (by rw [show (at0 b3 : Addr) = ⟨b3, 0, none⟩ from rfl, cell_blk (hx.blk r1.c3)]; rfl) Try.underlying47 rfl
    have l4 : ∀ w : World, Ext h1 w.heap → (loadVar 3 (q3.add ((k : Int).toNat * 1))).run Try.prog w = .ok (.int .i64 y) w := fun w hx => run_loadCell (hx.some (by rw [Int.toNat_natCast]; exact c3)) Try.underlying3 rfl
    unfold F6_k13
    refine ⟨Ext, Ext.refl, fun _ _ _ x y => x.trans y, aM, lM, cM, l3, q3, e3, by omega, by omega, y, l4, br_of (fun g => ?_) (fun _ => ?_)⟩
    · have g : y < 0 := by simpa using g
      omega
    refine ⟨aA, lA, cA, l2, q1, ea, by omega, by omega, m.kind, m.from_, m.to, m.txn, m.yes, d.a, d.l, d.c, by rw [Int.toNat_natCast]; exact hw, aM, lM, cM, l3, q3, e3, by omega, by omega, y, l4, HEnt.use (count_ok (I.n.grow x1) m d es tm.packs) ?_⟩
    rintro _ h2 ⟨rfl, x2⟩
    refine ⟨_, rfl, x2, ?_⟩
    unfold F6_k14
    refine br_of (fun g => ?_) (fun _ => ?_)
    · rw [ey] at g; simp at g
    unfold F6_k15
    rw [wrap_succ k _ hk' (by omega)]
    exact ⟨⟨k + 1, rfl, by omega, x1.trans x2⟩, less_succ _ _ hk'⟩
  · unfold F6_k16
    refine HEnt.use (works_ok h1) ?_
    rintro _ h2 ⟨rfl, x2⟩
    exact ⟨true, rfl, rfl, (I.ext.trans x1).trans x2⟩
theorem zeroMsg (P : Nat → Prop) (h : Heap) : MsgF P h zeroM nilH [] :=
  ⟨⟨rfl, OwnR.nil _ _ (Ext.none h), fun i p d hp hd => (by simp at hd)⟩, fun k e => (by cases e), fun i x hx => (by simp at hx), by decide, by simp, by intro p hp; cases hp⟩
theorem counts_ok (a0 : Option Addr) (n c0 : Nat) (h : Heap) (hn : n < 9223372036854775808) (hacts : ActsRd h a0 n) :
    HEnt Try.prog 6 #[.slice a0 n c0] h fun v h' => v = .bool true ∧ Ext h h' := by
  refine F6_ent _ _ _ _ _ ?_
  unfold F6
  refine HEnt.use (new_ok h) ?_
  rintro _ h1 ⟨q, F, rfl, N1, x1, hF⟩
  refine ⟨_, rfl, br_of (fun g => by cases g) (fun _ => ?_)⟩
  unfold F6_k1
  rw [zeroC29, zeroC47]
  refine newK_intro fun h2 n2 x2 e2 => newK_intro fun h3 n3 x3 e3 => ?_
  have z1 := x1.size
  have bF := N1.bound
  have I0 : CI h h3 (fun _ => False) h1.size h2.size q F (fun k => k = h1.size ∨ k = h2.size) (fun _ => []) [] [] :=
    ⟨(N1.grow x2).grow x3, ⟨none, 0, 0, none, 0, 0, x3.blk n2, n3, SlotAt.nil _ _, OwnS.nil _ _ _, rfl, .inl rfl, .inr rfl, fun ad e => (by cases e), fun k hk => by omega⟩, hF, fun k hk => by omega, fun k hf hg => by have := bF k hf; omega, fun k hk => hk.elim, (x1.trans x2).trans x3⟩
  have V0 : CInv (fun _ => []) [] [] := ⟨fun k h => absurd rfl h, by simp, rfl, fun i v z hi => by simp at hi, fun v _ => by simp [tot, totTo, rowC]⟩
  generalize h1.size = b2 at I0
  generalize h2.size = b3 at I0
  refine ⟨fun x h' => ∃ (k : Nat) (F G : Nat → Prop) (M : NetM) (alls : List MsgV) (ns : List Int), x = k ∧ k ≤ n ∧ k ≤ 50 ∧ alls.length ≤ k ∧ CI h h' (fun _ => False) b2 b3 q F G M alls ns ∧ CInv M alls ns, fun x _ => ((n : Int) - x).toNat, ⟨0, _, _, _, _, _, rfl, by omega, by omega, by simp, I0, V0⟩, ?_⟩
  rintro h4 _ ⟨i, F, G, M, alls, ns, rfl, hi, hi50, hal, I, V⟩
  have done := counts_end I V (by omega)
  unfold F6_b2
  refine br_of (fun g => ?_) (fun _ => ?_)
  case refine_2 =>
    unfold F6_k3
    exact br_of (fun g => by cases g) (fun _ => done)
  have hi' : i < n := by
    have : (i : Int) < (n : Int) := by simpa using g
    omega
  unfold F6_k3
  refine br_of (fun g => ?_) (fun _ => done)
  have hi50' : i < 50 := by
    have : (i : Int) < 50 := by simpa using g
    omega
  obtain ⟨bm, om, k, f, t, c, m, e, es, rfl, hbm, hp, hc⟩ := hacts i hi'
  have hcells : ∀ j v, (actCells k f t c m e)[j]? = some v → Vc.cell h4 (((⟨bm, om, none⟩ : Addr).add ((i : Int).toNat * 10)).add j) = some v := fun j v hv => by
    rw [Int.toNat_natCast, add_mk, add_mk]; exact I.ext.some (hc j v hv)
  unfold F6_k4
  refine ⟨⟨bm, om, none⟩, rfl, by omega, by omega, k, f, t, c, m.kind, m.from_, m.to, m.txn, m.yes, e.a, e.l, e.c, hcells 0 _ rfl, hcells 1 _ rfl, hcells 2 _ rfl, hcells 3 _ rfl, hcells 4 _ rfl, hcells 5 _ rfl, hcells 6 _ rfl, hcells 7 _ rfl, hcells 8 _ rfl, hcells 9 _ rfl, rfl, (St.start h4).new fun b8 h5 s5 _ _ => ?_⟩
  refine s5.storeAll 0 rfl rfl zeroC50 (vs := (actCells k f t c m e).toArray) (by simp [actCells, one]) fun h6 s6 on6 => ?_
  simp only [List.set_cons_zero] at s6
  have N6 := I.n.grow s6.ext
  refine ⟨f, s6.cell 0 rfl rfl, t, s6.cell 0 rfl rfl, HEnt.use (link_ok N6 f t) ?_⟩
  rintro _ h7 ⟨a7, l7, c7, rfl, t7⟩
  have s7 := s6.grow t7.ext
  have few7 := N6.few (.link f t)
  have len7 := t7.len
  have sl7 := t7.slot few7
  refine ⟨a7, l7, c7, rfl, s7.new fun b10 h8 s8 x8 g10 => ?_⟩
  refine s8.storeAll 0 rfl rfl zeroC24 (vs := (msgCells zeroM nilH).toArray) (by simp [msgCells, one]) fun h9 s9 on9 => ?_
  simp only [List.set_cons_zero] at s9
  have z46 := s6.ext.size
  have z67 := t7.ext.size
  have z78 := x8.size
  have z9 := on9.size
  have sl9 : SlotAt (fun k => h6.size ≤ k ∧ k < h7.size) h9 a7 l7 c7 (M (.link f t)) := (sl7.keep' (x8.keep (fun _ => False)) (fun _ h => h) (fun _ _ h => h)).keep' (S := (· = b10)) (on9.keep rfl) (fun _ h => h) (fun j hj hs => by omega)
  have last : ∀ (h' : Heap) (mm : MsgV) (d : Hdr) (es2 : List Hdr), St h4 h' [⟨b10, (msgCells mm d).toArray, 24⟩, ⟨b8, (actCells k f t c m e).toArray, 50⟩] → MsgF (fun k => h6.size ≤ k ∧ k < h7.size) h' mm d es2 → h7.size ≤ h'.size → (0 ≤ c → ∀ x, (M (.link f t))[c.toNat]? = some x → mm = x) →
      F6_k6 (fun x h' => ∃ (k : Nat) (F G : Nat → Prop) (M : NetM) (alls : List MsgV) (ns : List Int), x = k ∧ k ≤ n ∧ k ≤ 50 ∧ alls.length ≤ k ∧ CI h h' (fun _ => False) b2 b3 q F G M alls ns ∧ CInv M alls ns) (fun x _ => ((n : Int) - x).toNat) (((n : Int) - (i : Int)).toNat) (some ⟨bm, om, none⟩) n c0 (some (at0 q)) (at0 b2) (at0 b3) (at0 b2) (at0 b3) (i : Int) (at0 b8) (at0 b10) h' fun v h' => v = .bool true ∧ Ext h h' := by
    intro h' mm d es2 s' tm hz hat
    have g8 := s'.at_ 1 _ rfl
    have g10 := s'.at_ 0 _ rfl
    simp only at g8 g10
    have I' := I.grow s'.ext
    refine counts_k6 I' V g8.2 (.inr ⟨g8.1, blk_lt g8.2⟩) g10.2 (.inr ⟨g10.1, blk_lt g10.2⟩) (tm.keep' (Keep.refl (fun _ => False) _) (fun j hj => .inr ⟨by omega, by omega⟩) (fun _ _ h => h)) hp hat (by omega) ?_
    intro h2 F2 G2 M2 al2 ns2 I2 V2 hl2
    unfold F6_k7
    rw [wrap_succ i _ hi' hn]
    exact ⟨⟨i + 1, F2, G2, M2, al2, ns2, rfl, by omega, by omega, by omega, I2, V2⟩, less_succ _ _ hi'⟩
  have k5 : ∀ bb : Bool, (bb = true ↔ 0 ≤ c ∧ c < l7) → F6_k5 (fun x h' => ∃ (k : Nat) (F G : Nat → Prop) (M : NetM) (alls : List MsgV) (ns : List Int), x = k ∧ k ≤ n ∧ k ≤ 50 ∧ alls.length ≤ k ∧ CI h h' (fun _ => False) b2 b3 q F G M alls ns ∧ CInv M alls ns) (fun x _ => ((n : Int) - x).toNat) (((n : Int) - (i : Int)).toNat) (some ⟨bm, om, none⟩) n c0 (some (at0 q)) (at0 b2) (at0 b3) (at0 b2) (at0 b3) (i : Int) (at0 b8) a7 l7 c7 (at0 b10) bb h9 fun v h' => v = .bool true ∧ Ext h h' := by
    intro bb hbb
    unfold F6_k5
    refine br_of (fun g => ?_) (fun g => ?_)
    · obtain ⟨hc0, hcl⟩ := hbb.1 g
      have hm : (M (.link f t))[c.toNat]? = some ((M (.link f t))[c.toNat]'(by omega)) := List.getElem?_eq_getElem _
      generalize (M (.link f t))[c.toNat]'(by omega) = mm at hm
      obtain ⟨q', d', es', ea, hlt, tmx, hcx, _⟩ := sl9.get hm
      refine ⟨c, s9.cell 1 rfl rfl, q', ea, by omega, by omega, mm.kind, mm.from_, mm.to, mm.txn, mm.yes, d'.a, d'.l, d'.c, hcx 0 _ rfl, hcx 1 _ rfl, hcx 2 _ rfl, hcx 3 _ rfl, hcx 4 _ rfl, hcx 5 _ rfl, rfl, ?_⟩
      refine s9.storeAll 0 rfl rfl rfl (vs := (msgCells mm d').toArray) (by simp [msgCells, one]) fun hA sA onA => ?_
      simp only [List.set_cons_zero] at sA
      have zA := onA.size
      exact last hA mm d' es' sA (tmx.keep' (S := (· = b10)) (onA.keep rfl) (fun _ h => h) (fun j hj hs => by omega)) (by omega) (fun _ x hx => by rw [hm] at hx; exact Option.some.inj hx)
    · refine last h9 zeroM nilH [] s9 (zeroMsg _ _) (by omega) (fun hc0 x hx => ?_)
      have := (List.getElem?_eq_some_iff.1 hx).1
      rw [hbb.2 ⟨hc0, by omega⟩] at g; cases g
  refine ⟨c, s9.cell 1 rfl rfl, br_of (fun g => ⟨c, s9.cell 1 rfl rfl, k5 _ ?_⟩) (fun g => k5 _ ?_)⟩
  · have g : 0 ≤ c := by simpa using g
    simp [g]
  · have g : ¬ 0 ≤ c := by simpa using g
    exact ⟨fun h => (by cases h), fun h => absurd h.1 g⟩
end Go.Proofs.Ytnhnioodlciajaa
namespace Go.Proofs.Ytnhnioodlciajaa
open Go.Vc Go.Sha Go.Trail Go.Packs Go.Wire Go.ChangeShapes Go.WideShapes Go.ChangeAt Go.RowKit
variable {H : Type} {enc : TypeId × Value → H} {W : World} {hd : Bool}
theorem open_actsR {t : TypeId} (ht : Try.prog.underlying t = some (.slice 50)) {v : Value} {d : DataW H} {ps : List MemPlace} {b0 : Nat} {r : Reach} (hval : Value.okWide Try.prog W r b0 t v) (h : DataW.Trod enc Try.prog W 0 (fun _ => true) hd t v d ps) : ∃ (a : Option Addr) (l c : Nat), v = .slice a l c ∧ l < 9223372036854775808 ∧ ActsRd W.heap a l := by
  obtain ⟨a, l, c, rfl⟩ := okWide_slice ht hval
  obtain ⟨fuel, h⟩ := h
  simp only [Value.cells] at h
  obtain ⟨a', l', c', rows, e, t, hl, hr⟩ := trod_tab ht size50 (by omega) h
  simp at e
  obtain ⟨rfl, rfl, rfl⟩ := e
  refine ⟨a, l, c, rfl, hl, fun i hi => ?_⟩
  have hlen := t.len
  have hx : rows[i]? = some (rows[i]'(by omega)) := List.getElem?_eq_getElem _
  generalize rows[i]'(by omega) = x at hx
  obtain ⟨_, _, hy⟩ := hr x (List.mem_of_getElem? hx)
  obtain ⟨k, f, t', c', m, e, es, rfl, hp⟩ := open_actcells hy
  obtain ⟨b, o, ea, hb, hc⟩ := t.at_ (fun e => by rw [e] at hx; simp at hx)
  exact ⟨b, o, k, f, t', c', m, e, es, ea, hb, hp, fun j v hv => hc i _ hx j v hv⟩
end Go.Proofs.Ytnhnioodlciajaa
