/- Chapter 16: the comparisons, of things that are alike; the document's Tick; the law PartTicks. -/
import Derived.Test.YtelddmkdclhpoaaPartK
import Derived.Test.YtelddmkdclhpoaaPackEq
import Derived.Test.YtelddmkdclhpoaaVpPc
namespace Go.Proofs.Ytelddmkdclhpoaa
open Go.Vc Go.Sha Go.Trail Go.Packs
set_option linter.unusedVariables false

theorem hadd2 (q : Addr) (i j k : Nat) : ((q.add i).add j).add k = (q.add i).add (j + k) := by unfold Addr.add; by_cases hj : j = 0 <;> by_cases hk : k = 0 <;> simp [hj, hk, Nat.add_assoc]
theorem seq_self (s : ByteArray) : seq s s = true := by unfold seq; simp
theorem held46 : Try.prog.stoodInHeld 46 = false := by kernel_rfl
theorem eqg46 : Try.prog.eqGuardType Try.prog.depth 46 = false := by kernel_rfl

theorem nums_same (a : Option Addr) (l c : Nat) (a' : Option Addr) (l' c' : Nat) (ns : List Int) (h : Heap) (hn : NumsAt h a l c ns) (hn' : NumsAt h a' l' c' ns) (hl : l < 9223372036854775808) :
    HEnt Try.prog 15 #[.slice a l c, .slice a' l' c'] h fun v h' => v = .bool true ∧ h' = h := by
  refine F15_ent _ _ _ _ _ _ _ _ ?_
  have e1 := hn.len
  have e2 := hn'.len
  unfold F15
  refine br_of (fun g => by simp at g; omega) (fun _ => ?_)
  unfold F15_k1
  rintro _ rfl
  refine ⟨fun x h' => ∃ k : Nat, x = k ∧ k ≤ l ∧ h' = h, fun x _ => (l - x).toNat, ⟨0, rfl, by omega, rfl⟩, ?_⟩
  rintro h1 _ ⟨k, rfl, hk, rfl⟩
  unfold F15_b2
  refine br_of (fun ht => ?_) (fun hf => ?_)
  · have hk' : k < l := by
      have : (k : Int) < (l : Int) := by simpa using ht
      omega
    obtain ⟨q, x, hx, e, hc⟩ := hn.get hk'
    obtain ⟨q', x', hx', e', hc'⟩ := hn'.get (i := k) (by omega)
    rw [hx] at hx'
    obtain rfl := Option.some.inj hx'
    unfold F15_k3
    refine ⟨q, e, by omega, by omega, x, by rw [Int.toNat_natCast]; exact hc, q', e', by omega, by omega, x, by rw [Int.toNat_natCast]; exact hc', ?_⟩
    rintro _ rfl
    refine br_of (fun g => by simp at g) (fun _ => ?_)
    unfold F15_k4
    rintro _ rfl
    rw [wrap_succ k _ hk' hl]
    exact ⟨⟨k + 1, rfl, by omega, rfl⟩, less_succ _ _ hk'⟩
  · unfold F15_k5
    exact ⟨rfl, rfl⟩

theorem man_same (nm vr : ByteArray) (a : Option Addr) (l c : Nat) (a' : Option Addr) (l' c' : Nat) (rs : List RefV) (h : Heap) (hr : RefsAt h a l c rs) (hr' : RefsAt h a' l' c' rs) (hl : l < 9223372036854775808) :
    HEnt Try.prog 33 #[.agg #[.string nm, .string vr, .slice a l c], .agg #[.string nm, .string vr, .slice a' l' c']] h fun v h' => v = .bool true ∧ Ext h h' := by
  refine F33_ent _ _ _ _ _ _ _ _ _ _ _ _ ?_
  have e1 := hr.len
  have e2 := hr'.len
  unfold F33
  refine (St.start h).new fun b2 h1 s1 _ _ => s1.new fun b3 h2 s2 _ _ => ?_
  have c0 := s2.cell 1 rfl (k := 2) (v := .slice a l c) rfl
  have c1 := s2.cell 0 rfl (k := 2) (v := .slice a' l' c') rfl
  refine ⟨nm, s2.cell 1 rfl rfl, nm, s2.cell 0 rfl rfl, br_of (fun g => by simp [seq_self] at g) (fun _ => ⟨vr, s2.cell 1 rfl rfl, vr, s2.cell 0 rfl rfl, br_of (fun g => by simp [seq_self] at g) (fun _ => ⟨a, l, c, c0, a', l', c', c1, ?_⟩)⟩)⟩
  unfold F33_k1
  refine br_of (fun g => by simp at g; omega) (fun _ => ?_)
  unfold F33_k2
  rintro _ rfl
  have r2 := hr.grow s2.ext
  have r2' := hr'.grow s2.ext
  refine ⟨fun x h' => ∃ k : Nat, x = k ∧ k ≤ l ∧ h' = h2, fun x _ => (l - x).toNat, ⟨0, rfl, by omega, rfl⟩, ?_⟩
  rintro h3 _ ⟨k, rfl, hk, rfl⟩
  unfold F33_b3
  refine ⟨a, l, c, c0, br_of (fun ht => ?_) (fun hf => ?_)⟩
  · have hk' : k < l := by
      have : (k : Int) < (l : Int) := by simpa using ht
      omega
    obtain ⟨q, x, hx, e, hok, hc, _, _⟩ := r2.get hk'
    obtain ⟨q', x', hx', e', _, hc', _, _⟩ := r2'.get (i := k) (by omega)
    rw [hx] at hx'
    obtain rfl := Option.some.inj hx'
    have hcl := cells_len x hok
    unfold F33_k4
    refine ⟨a, l, c, c0, q, e, by omega, by omega, x.cells.toArray, by simp [hcl], by rw [Int.toNat_natCast]; exact hc, a', l', c', c1, q', e', by omega, by omega, x.cells.toArray, by simp [hcl], by rw [Int.toNat_natCast]; exact hc', true, fun w => ?_, eqg46, ?_⟩
    · have := run_equal_ref (P := Try.prog) Try.underlying46 held46 rfl rfl rfl rfl rfl rfl Try.underlying44 Try.underlying5 size5 size44 Try.underlying3 (x.sum.map Int.ofNat) (x.sum.map Int.ofNat) (by simp [hok.1]) (by simp [hok.1]) x.size x.size w
      simp only [List.map_map, and_self, decide_true] at this
      exact this
    · rintro _ rfl
      refine br_of (fun g => by cases g) (fun _ => ?_)
      unfold F33_k5
      rintro _ rfl
      rw [wrap_succ k _ hk' hl]
      exact ⟨⟨k + 1, rfl, by omega, rfl⟩, less_succ _ _ hk'⟩
  · unfold F33_k6
    exact ⟨rfl, s2.ext⟩

theorem packs_same (a : Option Addr) (l c : Nat) (a' : Option Addr) (l' c' : Nat) (ps : List PackV) (ds ds' : List Hdr) (h : Heap) (hp : PacksAt h a l c ps ds) (hp' : PacksAt h a' l' c' ps ds') (hl : l < 9223372036854775808) (hls : ∀ d ∈ ds, d.l < 9223372036854775808) :
    HEnt Try.prog 16 #[.slice a l c, .slice a' l' c'] h fun v h' => v = .bool true ∧ Ext h h' := by
  refine F16_ent _ _ _ _ _ _ _ _ ?_
  have e1 := hp.length
  have e2 := hp'.length
  unfold F16
  refine br_of (fun g => by simp at g; omega) (fun _ => ?_)
  unfold F16_k1
  rintro _ rfl
  refine ⟨fun x h' => ∃ k : Nat, x = k ∧ k ≤ l ∧ Ext h h', fun x _ => (l - x).toNat, ⟨0, rfl, by omega, Ext.refl h⟩, ?_⟩
  rintro h1 _ ⟨k, rfl, hk, x1⟩
  unfold F16_b2
  refine br_of (fun ht => ?_) (fun hf => ?_)
  · have hk' : k < l := by
      have : (k : Int) < (l : Int) := by simpa using ht
      omega
    obtain ⟨q, x, d, hx, hd, e, _, hr, g0, g1, g2, g3⟩ := (hp.grow x1).get hk'
    obtain ⟨q', x', d', hx', hd', e', _, hr', g0', g1', g2', g3'⟩ := (hp'.grow x1).get (i := k) (by omega)
    rw [hx] at hx'
    obtain rfl := Option.some.inj hx'
    unfold F16_k3
    simp only [hadd2, Int.toNat_natCast]
    refine ⟨q, e, by omega, by omega, x.owner, g0, q', e', by omega, by omega, x.owner, g0', br_of (fun g => by simp at g) (fun _ => ?_)⟩
    refine ⟨q, e, by omega, by omega, x.name, x.ver, d.a, d.l, d.c, g1, g2, g3, trivial, q', e', by omega, by omega, x.name, x.ver, d'.a, d'.l, d'.c, g1', g2', g3', trivial, true, ?_, ?_⟩
    · intro h2 x2
      exact man_same x.name x.ver d.a d.l d.c d'.a d'.l d'.c x.refs h2 (hr.grow x2) (hr'.grow x2) (hls d (List.mem_of_getElem? hd))
    · intro h2 x2
      unfold F16_k4
      refine br_of (fun g => by cases g) (fun _ => ?_)
      unfold F16_k5
      rintro _ rfl
      rw [wrap_succ k _ hk' hl]
      exact ⟨⟨k + 1, rfl, by omega, x1.trans x2⟩, less_succ _ _ hk'⟩
  · unfold F16_k6
    exact ⟨rfl, x1⟩

theorem msg_same (m : MsgV) (d d' : Hdr) (ds ds' : List Hdr) (h : Heap) (hp : PacksAt h d.a d.l d.c m.packs ds) (hp' : PacksAt h d'.a d'.l d'.c m.packs ds') (hl : d.l < 9223372036854775808) (hls : ∀ d ∈ ds, d.l < 9223372036854775808) :
    HEnt Try.prog 27 #[.agg (msgCells m d).toArray, .agg (msgCells m d').toArray] h fun v h' => v = .bool true ∧ Ext h h' := by
  refine F27_ent _ _ _ _ _ _ _ _ _ _ _ _ _ _ _ _ _ _ ?_
  unfold F27
  refine (St.start h).new fun b2 h1 s1 _ _ => s1.new fun b3 h2 s2 _ _ => ?_
  refine ⟨m.kind, s2.cell 1 rfl rfl, m.kind, s2.cell 0 rfl rfl, br_of (fun _ => ?_) (fun g => by simp at g)⟩
  refine ⟨m.from_, s2.cell 1 rfl rfl, m.from_, s2.cell 0 rfl rfl, br_of (fun _ => ?_) (fun g => by simp at g)⟩
  refine ⟨m.to, s2.cell 1 rfl rfl, m.to, s2.cell 0 rfl rfl, br_of (fun _ => ?_) (fun g => by simp at g)⟩
  refine ⟨m.txn, s2.cell 1 rfl rfl, m.txn, s2.cell 0 rfl rfl, br_of (fun _ => ?_) (fun g => by simp at g)⟩
  refine ⟨m.yes, s2.cell 1 rfl rfl, m.yes, s2.cell 0 rfl rfl, br_of (fun _ => ?_) (fun g => by simp at g)⟩
  refine ⟨d.a, d.l, d.c, s2.cell 1 rfl rfl, d'.a, d'.l, d'.c, s2.cell 0 rfl rfl, HEnt.use (packs_same d.a d.l d.c d'.a d'.l d'.c m.packs ds ds' h2 (hp.grow s2.ext) (hp'.grow s2.ext) hl hls) ?_⟩
  rintro _ h3 ⟨rfl, x3⟩
  exact ⟨true, rfl, rfl, s2.ext.trans x3⟩

/-- a list of deeds, as it is read -/
def DeedRead (h : Heap) (v : Value) (ds : List DeedV) : Prop := ∃ a c, v = .slice a ds.length c ∧ ∀ (i : Nat) (x : DeedV), ds[i]? = some x → ∃ q d es, a = some q ∧ (∀ j u, (deedCells x d)[j]? = some u → cell h ((q.add (i * 9)).add j) = some u) ∧ PacksAt h d.a d.l d.c x.packs es ∧ d.l < 9223372036854775808 ∧ ∀ y ∈ es, y.l < 9223372036854775808
theorem DeedRead.grow {h h' : Heap} {v : Value} {ds : List DeedV} (t : DeedRead h v ds) (x : Ext h h') : DeedRead h' v ds := by
  obtain ⟨a, c, e, t⟩ := t
  refine ⟨a, c, e, fun i y hy => ?_⟩
  obtain ⟨q, d, es, e1, hc, hp, hl⟩ := t i y hy
  exact ⟨q, d, es, e1, fun j u hu => x.some (hc j u hu), hp.grow x, hl⟩
theorem deeds_read {h0 h : Heap} {v : Value} {ds : List DeedV} (t : Deeds h0 v h ds) (ok : ∀ x ∈ ds, x.packs.length < 9223372036854775808 ∧ ∀ p ∈ x.packs, (p.ok ∧ ∀ r ∈ p.refs, r.ok) ∧ p.refs.length < 9223372036854775808) : DeedRead h v ds := by
  obtain ⟨y, hs, rfl, t⟩ := t
  have hl : y.l = ds.length := by
    have := t.rows.len
    rw [List.length_zipWith, t.len, Nat.min_self] at this
    exact this.symm
  refine ⟨y.a, y.c, by rw [hl], fun i x hx => ?_⟩
  have hlt := (List.getElem?_eq_some_iff.1 hx).1
  have hd : hs[i]? = some (hs[i]'(by rw [t.len]; exact hlt)) := List.getElem?_eq_getElem _
  generalize hs[i]'(by rw [t.len]; exact hlt) = d at hd
  have hz : (List.zipWith deedCells ds hs)[i]? = some (deedCells x d) := by rw [List.getElem?_zipWith, hx, hd]
  obtain ⟨q, e, _, hc⟩ := t.rows.rows.get hz
  obtain ⟨es, tw⟩ := t.packs i x d hx hd
  have okx := ok x (List.mem_of_getElem? hx)
  have pk := tw.packs fun p hp => (okx.2 p hp).1
  refine ⟨q, d, es, e, hc, pk, by rw [← pk.length]; exact okx.1, fun w hw => ?_⟩
  obtain ⟨j, hj⟩ := List.getElem?_of_mem hw
  have hlt := (List.getElem?_eq_some_iff.1 hj).1
  have hp : x.packs[j]? = some (x.packs[j]'(by rw [← tw.len]; exact hlt)) := List.getElem?_eq_getElem _
  have := (pk.refs j _ w hp hj).len
  rw [← this]
  exact (okx.2 _ (List.mem_of_getElem? hp)).2

theorem deeds_same (v v' : Value) (ds : List DeedV) (h : Heap) (t : DeedRead h v ds) (t' : DeedRead h v' ds) (hl : ds.length < 9223372036854775808) : HEnt Try.prog 11 #[v, v'] h fun r h' => r = .bool true ∧ Ext h h' := by
  obtain ⟨a, c, rfl, t⟩ := t
  obtain ⟨a', c', rfl, t'⟩ := t'
  refine F11_ent _ _ _ _ _ _ _ _ ?_
  unfold F11
  refine br_of (fun g => by simp at g) (fun _ => ?_)
  unfold F11_k1
  refine ⟨fun x h' => ∃ k : Nat, x = k ∧ k ≤ ds.length ∧ Ext h h', fun x _ => (ds.length - x).toNat, ⟨0, rfl, by omega, Ext.refl h⟩, ?_⟩
  rintro h1 _ ⟨k, rfl, hk, x1⟩
  unfold F11_b2
  refine br_of (fun ht => ?_) (fun hf => ?_)
  · have hk' : k < ds.length := by
      have : (k : Int) < (ds.length : Int) := by simpa using ht
      omega
    have hx : ds[k]? = some ds[k] := List.getElem?_eq_getElem hk'
    generalize ds[k] = x at hx
    obtain ⟨q, d, es, e, hc, hp, hdl, hel⟩ := t k x hx
    obtain ⟨q', d', es', e', hc', hp', _⟩ := t' k x hx
    have hc1 : ∀ j u, (deedCells x d)[j]? = some u → cell h1 ((q.add (k * 9)).add j) = some u := fun j u hu => x1.some (hc j u hu)
    have hc1' : ∀ j u, (deedCells x d')[j]? = some u → cell h1 ((q'.add (k * 9)).add j) = some u := fun j u hu => x1.some (hc' j u hu)
    unfold F11_k3
    simp only [hadd2, Int.toNat_natCast]
    refine ⟨q, e, by omega, by omega, x.kind, hc1 0 _ rfl, q', e', by omega, by omega, x.kind, hc1' 0 _ rfl, br_of (fun g => by simp at g) (fun _ => ?_)⟩
    refine ⟨q, e, by omega, by omega, x.txn, hc1 1 _ rfl, q', e', by omega, by omega, x.txn, hc1' 1 _ rfl, br_of (fun g => by simp at g) (fun _ => ?_)⟩
    refine ⟨q, e, by omega, by omega, d.a, d.l, d.c, hc1 2 _ rfl, q', e', by omega, by omega, d'.a, d'.l, d'.c, hc1' 2 _ rfl, true, ?_, br_of (fun g => by cases g) (fun _ => ?_)⟩
    · intro h2 x2
      exact packs_same d.a d.l d.c d'.a d'.l d'.c x.packs es es' h2 (hp.grow (x1.trans x2)) (hp'.grow (x1.trans x2)) hdl hel
    refine ⟨q, e, by omega, by omega, x.mq, x.mf, x.mt, x.mx, x.my, none, 0, 0, hc1 3 _ rfl, hc1 4 _ rfl, hc1 5 _ rfl, hc1 6 _ rfl, hc1 7 _ rfl, hc1 8 _ rfl, trivial, q', e', by omega, by omega, x.mq, x.mf, x.mt, x.mx, x.my, none, 0, 0, hc1' 3 _ rfl, hc1' 4 _ rfl, hc1' 5 _ rfl, hc1' 6 _ rfl, hc1' 7 _ rfl, hc1' 8 _ rfl, trivial, true, ?_, ?_⟩
    · intro h2 x2
      exact msg_same ⟨x.mq, x.mf, x.mt, x.mx, x.my, []⟩ nilH nilH [] [] h2 (nilPacks _ _ _) (nilPacks _ _ _) (by decide) (by simp)
    · intro h2 x2
      unfold F11_k4
      refine br_of (fun g => by cases g) (fun _ => ?_)
      unfold F11_k5
      rw [wrap_succ k _ hk' hl]
      exact ⟨⟨k + 1, rfl, by omega, x1.trans x2⟩, less_succ _ _ hk'⟩
  · unfold F11_k6
    exact ⟨rfl, x1⟩

theorem lastN_pos {s : Int} {l : List Int} (h : goodD s l) (hl : l ≠ []) : lastN l ≠ 0 := by
  unfold lastN
  rw [List.getLast?_eq_some_getLast hl]
  have := (h.2 _ (List.getLast_mem hl)).1
  simp only [Option.getD_some]; omega
theorem refTick_ok (p : PartV) (d : Hdr) (h : Heap) (hn : NumsAt h d.a d.l d.c p.done) (hl : d.l ≤ 1099511627776) :
    HEnt Try.prog 19 #[.agg (partCells p d).toArray] h fun v h' => Deeds h v h' (tickV p) ∧ Ext h h' := by
  refine F19_ent _ _ _ _ _ _ _ ?_
  have hlen := hn.len
  unfold F19
  refine (St.start h).new fun b1 h1 s1 _ _ => ?_
  refine ⟨p.root, p.staged, d.a, d.l, d.c, s1.cell 0 rfl rfl, s1.cell 0 rfl rfl, s1.cell 0 rfl rfl, rfl, HEnt.use (refGood_ok p d h1 (NumsAt.grow hn s1.ext) hl) ?_⟩
  rintro _ h3 ⟨rfl, x3⟩
  have s3 := s1.grow x3
  refine ⟨_, rfl, br_of (fun e => ?_) (fun e => ?_)⟩
  · have e : ¬ goodP p := by simpa using e
    unfold tickV
    rw [if_pos e]
    exact ⟨Deeds.nil_ s3.ext, s3.ext⟩
  have e : goodP p := by simpa using e
  unfold F19_k1
  refine ⟨p.staged, s3.cell 0 rfl rfl, br_of (fun e2 => ?_) (fun e2 => ?_)⟩
  · have e2 : p.staged ≠ 0 := by simpa using e2
    refine ⟨p.root, p.staged, d.a, d.l, d.c, s3.cell 0 rfl rfl, s3.cell 0 rfl rfl, s3.cell 0 rfl rfl, rfl, p.staged, s3.cell 0 rfl rfl, HEnt.use (refSend_ok p d 6 p.staged false h3) ?_⟩
    rintro _ h4 ⟨rfl, x4⟩
    have s4 := s3.grow x4
    refine ⟨5, 0, none, 0, 0, 6, p.root, 0, p.staged, false, none, 0, 0, rfl, rfl, by omega, newK_intro fun h8 n8 x8 _ => ⟨?_, s4.ext.trans x8⟩⟩
    unfold tickV
    rw [if_neg (fun g => g e), if_pos e2]
    exact deeds_plain n8 (s4.ext.trans x8) s4.ext.size rfl (by simp [sendV])
  · have e2 : ¬ p.staged ≠ 0 := by simpa using e2
    have c3 := s3.cell 0 rfl (k := 2) (v := .slice d.a d.l d.c) rfl
    unfold F19_k2
    refine ⟨d.a, d.l, d.c, c3, br_of (fun e3 => ?_) (fun e3 => ?_)⟩
    · have e3 : 0 < d.l := by
        have : (d.l : Int) > 0 := by simpa using e3
        omega
      obtain ⟨q, x, hx, eq, hc⟩ := (NumsAt.grow hn s3.ext).get (i := d.l - 1) (by omega)
      have hw : IntKind.i64.wrap ((d.l : Int) - 1) = ((d.l - 1 : Nat) : Int) := by rw [i64_lt _ (by omega) (by omega)]; omega
      have hlast : lastN p.done = x := by unfold lastN; rw [List.getLast?_eq_getElem?, hlen, hx]; rfl
      refine ⟨d.a, d.l, d.c, c3, d.a, d.l, d.c, c3, q, eq, by rw [hw]; omega, by rw [hw]; omega, x, by rw [hw, Int.toNat_natCast]; exact hc, HEnt.use (settle_ok x h3) ?_⟩
      rintro _ h4 ⟨rfl, x4⟩
      have s4 := s3.grow x4
      refine ⟨1, x, none, 0, 0, 0, 0, 0, 0, false, none, 0, 0, rfl, rfl, by omega, newK_intro fun h8 n8 x8 _ => ⟨?_, s4.ext.trans x8⟩⟩
      unfold tickV
      rw [if_neg (fun g => g e), if_neg e2, if_pos (lastN_pos e.2.2.2 (fun h => by rw [h] at hlen; simp at hlen; omega)), hlast]
      exact deeds_plain n8 (s4.ext.trans x8) s4.ext.size rfl (by simp [doV])
    · have e3 : ¬ (d.l : Int) > 0 := by simpa using e3
      have : p.done = [] := List.eq_nil_of_length_eq_zero (by omega)
      unfold F19_k3 tickV
      rw [if_neg (fun g => g e), if_neg e2, this]
      exact ⟨Deeds.nil_ s3.ext, s3.ext⟩

theorem tickV_plain (p : PartV) : ∀ x ∈ tickV p, x.packs = [] := by
  unfold tickV
  split
  · simp
  · split
    · simp [sendV]
    · split <;> simp [doV]
theorem tickV_len (p : PartV) : (tickV p).length ≤ 1 := by
  unfold tickV
  split
  · simp
  · split
    · simp
    · split <;> simp

theorem ticks_ok (p : PartV) (d : Hdr) (h : Heap) (hn : NumsAt h d.a d.l d.c p.done) :
    HEnt Try.prog 4 #[.agg (partCells p d).toArray] h fun v h' => v = .bool true ∧ Ext h h' := by
  refine F4_ent _ _ _ _ _ _ _ ?_
  unfold F4
  refine (St.start h).new fun b1 h1 s1 _ _ => ?_
  refine ⟨p.root, p.staged, d.a, d.l, d.c, s1.cell 0 rfl rfl, s1.cell 0 rfl rfl, s1.cell 0 rfl rfl, rfl, ?_⟩
  refine HEnt.use (few_ok p d ⟨0, 0, 0, 0, false, []⟩ nilH [] h1 (NumsAt.grow hn s1.ext) (nilPacks _ _ _)) ?_
  rintro _ h2 ⟨d', e', es', rfl, o2, _, x2⟩
  refine ⟨p.root, p.staged, d'.a, d'.l, d'.c, 0, 0, 0, 0, false, e'.a, e'.l, e'.c, rfl, ?_⟩
  refine (s1.grow x2).new fun b3 h3 s3 x3 l3 => s3.new fun b4 h4 s4 x4 l4 => ?_
  refine s4.storeAll 1 rfl rfl zeroC24 (vs := (partCells p d').toArray) (by simp [partCells, one]) fun h5 s5 on5 => ?_
  simp only [List.set_cons_zero, List.set_cons_succ] at s5
  refine s5.storeAll 0 rfl rfl zeroC27 (vs := (msgCells ⟨0, 0, 0, 0, false, []⟩ e').toArray) (by simp [msgCells, one]) fun h6 s6 on6 => ?_
  simp only [List.set_cons_zero] at s6
  have K6 : Keep (fun k => k = b3 ∨ k = b4) h2 h6 := (((x3.trans x4).keep _).trans (on5.keep (S := fun k => k = b3 ∨ k = b4) (.inl rfl))).trans (on6.keep (S := fun k => k = b3 ∨ k = b4) (.inr rfl))
  have lo3 := (s4.at_ 1 _ rfl).1
  have lo4 := (s4.at_ 0 _ rfl).1
  simp only at lo3 lo4
  have x3s := x3.size
  have n6 : NumsAt h6 d'.a d'.l d'.c (fewP p).done := ((o2.since s1.ext).keep K6 (fun k hk hs => by omega) (fun k ek hs => by have := (o2.lt k ek).2; omega)).rows
  have ln := few_nums o2
  have l24 := fun {h' : Heap} {L : List Vc.Loc} {cs : Array Value} (s : St h h' (⟨b4, cs, 27⟩ :: ⟨b3, (partCells p d').toArray, 24⟩ :: L)) => s.quietAgg (P := Try.prog) 1 rfl Try.underlying24 rfl (by show 3 = Try.prog.cellsOf 24; rw [size24])
  refine ⟨Ext, Ext.refl, fun _ _ _ x y => x.trans y, p.root, p.staged, d'.a, d'.l, d'.c, l24 s6, p.root, p.staged, d'.a, d'.l, d'.c, l24 s6, ?_⟩
  refine HEnt.use (tick_ok (fewP p) d' h6 n6 (by omega)) ?_
  rintro _ h7 ⟨t7, x7⟩
  obtain ⟨a7, c7, rfl⟩ := deeds_len t7
  refine ⟨a7, _, c7, rfl, x7, HEnt.use (refTick_ok (fewP p) d' h7 (n6.grow x7) (by omega)) ?_⟩
  rintro _ h8 ⟨t8, x8⟩
  obtain ⟨a8, c8, rfl⟩ := deeds_len t8
  have plain : ∀ x ∈ tickV (fewP p), x.packs.length < 9223372036854775808 ∧ ∀ p ∈ x.packs, (p.ok ∧ ∀ r ∈ p.refs, r.ok) ∧ p.refs.length < 9223372036854775808 := fun x hx => by rw [tickV_plain _ x hx]; simp
  refine ⟨a8, _, c8, rfl, x8, HEnt.use (deeds_same _ _ (tickV (fewP p)) h8 (deeds_read (t7.grow x8) plain) (deeds_read t8 plain) (by have := tickV_len (fewP p); omega)) ?_⟩
  rintro _ h9 ⟨rfl, x9⟩
  have s9 := ((s6.grow x7).grow x8).grow x9
  have n9 := ((n6.grow x7).grow x8).grow x9
  refine ⟨true, rfl, x9, br_of (fun _ => ?_) (fun g => by cases g)⟩
  refine ⟨p.root, p.staged, d'.a, d'.l, d'.c, l24 s9, p.root, p.staged, d'.a, d'.l, d'.c, l24 s9, HEnt.use (good_ok (fewP p) d' h9 n9 (by omega)) ?_⟩
  rintro _ h10 ⟨rfl, x10⟩
  refine ⟨_, rfl, x10, HEnt.use (refGood_ok (fewP p) d' h10 (n9.grow x10) (by omega)) ?_⟩
  rintro _ h11 ⟨rfl, x11⟩
  refine ⟨_, rfl, x11, br_of (fun _ => HEnt.use (works_ok h11) ?_) (fun g => by simp at g)⟩
  rintro _ h12 ⟨rfl, x12⟩
  exact ⟨true, rfl, x12, rfl, ((s9.ext.trans x10).trans x11).trans x12⟩
end Go.Proofs.Ytelddmkdclhpoaa
