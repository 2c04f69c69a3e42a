import Derived.Test.YtnhnioodlciajaaWireR
import Derived.Test.YtnhnioodlciajaaPackEq

namespace Go.Proofs.Ytnhnioodlciajaa
open Go.Vc Go.Sha Go.Trail Go.Packs Go.Wire
set_option linter.unusedVariables false
theorem seq_self (s : ByteArray) : seq s s = true := by unfold seq; simp
theorem held86 : Try.prog.stoodInHeld 86 = false := by kernel_rfl
theorem eqg86 : Try.prog.eqGuardType Try.prog.depth 86 = false := by kernel_rfl

theorem man_same (nm vr : ByteArray) (a : Option Addr) (l c : Nat) (a' : Option Addr) (l' c' : Nat) (rs : List RefV) (h : Heap) (hr : RefsAt h a l c rs) (hr' : RefsAt h a' l' c' rs) (hl : l < 9223372036854775808) :
    HEnt Try.prog 58 #[.agg #[.string nm, .string vr, .slice a l c], .agg #[.string nm, .string vr, .slice a' l' c']] h fun v h' => v = .bool true ∧ Ext h h' := by
  refine F58_ent _ _ _ _ _ _ _ _ _ _ _ _ ?_
  have e1 := hr.len
  have e2 := hr'.len
  unfold F58
  refine (St.start h).new fun b2 h1 s1 _ _ => s1.new fun b3 h2 s2 _ _ => ?_
  have c0 := s2.cell 1 rfl (k := 2) (v := .slice a l c) rfl
  have c1 := s2.cell 0 rfl (k := 2) (v := .slice a' l' c') rfl
  refine ⟨nm, s2.cell 1 rfl rfl, nm, s2.cell 0 rfl rfl, br_of (fun g => by simp [seq_self] at g) (fun _ => ⟨vr, s2.cell 1 rfl rfl, vr, s2.cell 0 rfl rfl, br_of (fun g => by simp [seq_self] at g) (fun _ => ⟨a, l, c, c0, a', l', c', c1, ?_⟩)⟩)⟩
  unfold F58_k1
  refine br_of (fun g => by simp at g; omega) (fun _ => ?_)
  unfold F58_k2
  rintro _ rfl
  have r2 := hr.grow s2.ext
  have r2' := hr'.grow s2.ext
  refine ⟨fun x h' => ∃ k : Nat, x = k ∧ k ≤ l ∧ h' = h2, fun x _ => (l - x).toNat, ⟨0, rfl, by omega, rfl⟩, ?_⟩
  rintro h3 _ ⟨k, rfl, hk, rfl⟩
  unfold F58_b3
  refine ⟨a, l, c, c0, br_of (fun ht => ?_) (fun hf => ?_)⟩
  · have hk' : k < l := by
      have : (k : Int) < (l : Int) := by simpa using ht
      omega
    obtain ⟨q, x, hx, e, hok, hc, _, _⟩ := r2.get hk'
    obtain ⟨q', x', hx', e', _, hc', _, _⟩ := r2'.get (i := k) (by omega)
    rw [hx] at hx'
    obtain rfl := Option.some.inj hx'
    have hcl := cells_len x hok
    unfold F58_k4
    refine ⟨a, l, c, c0, q, e, by omega, by omega, x.cells.toArray, by simp [hcl], by rw [Int.toNat_natCast]; exact hc, a', l', c', c1, q', e', by omega, by omega, x.cells.toArray, by simp [hcl], by rw [Int.toNat_natCast]; exact hc', true, fun w => ?_, eqg86, ?_⟩
    · have := run_equal_ref (P := Try.prog) Try.underlying86 held86 rfl rfl rfl rfl rfl rfl Try.underlying84 Try.underlying5 size5 size84 Try.underlying3 (x.sum.map Int.ofNat) (x.sum.map Int.ofNat) (by simp [hok.1]) (by simp [hok.1]) x.size x.size w
      simp only [List.map_map, and_self, decide_true] at this
      exact this
    · rintro _ rfl
      refine br_of (fun g => by cases g) (fun _ => ?_)
      unfold F58_k5
      rintro _ rfl
      rw [wrap_succ k _ hk' hl]
      exact ⟨⟨k + 1, rfl, by omega, rfl⟩, less_succ _ _ hk'⟩
  · unfold F58_k6
    exact ⟨rfl, s2.ext⟩

theorem packs_same (a : Option Addr) (l c : Nat) (a' : Option Addr) (l' c' : Nat) (ps : List PackV) (ds ds' : List Hdr) (h : Heap) (hp : PacksAt h a l c ps ds) (hp' : PacksAt h a' l' c' ps ds') (hl : l < 9223372036854775808) (hls : ∀ d ∈ ds, d.l < 9223372036854775808) :
    HEnt Try.prog 46 #[.slice a l c, .slice a' l' c'] h fun v h' => v = .bool true ∧ Ext h h' := by
  refine F46_ent _ _ _ _ _ _ _ _ ?_
  have e1 := hp.length
  have e2 := hp'.length
  unfold F46
  refine br_of (fun g => by simp at g; omega) (fun _ => ?_)
  unfold F46_k1
  rintro _ rfl
  refine ⟨fun x h' => ∃ k : Nat, x = k ∧ k ≤ l ∧ Ext h h', fun x _ => (l - x).toNat, ⟨0, rfl, by omega, Ext.refl h⟩, ?_⟩
  rintro h1 _ ⟨k, rfl, hk, x1⟩
  unfold F46_b2
  refine br_of (fun ht => ?_) (fun hf => ?_)
  · have hk' : k < l := by
      have : (k : Int) < (l : Int) := by simpa using ht
      omega
    obtain ⟨q, x, d, hx, hd, e, _, hr, g0, g1, g2, g3⟩ := (hp.grow x1).get hk'
    obtain ⟨q', x', d', hx', hd', e', _, hr', g0', g1', g2', g3'⟩ := (hp'.grow x1).get (i := k) (by omega)
    rw [hx] at hx'
    obtain rfl := Option.some.inj hx'
    unfold F46_k3
    simp only [hadd2, Int.toNat_natCast]
    refine ⟨q, e, by omega, by omega, x.owner, g0, q', e', by omega, by omega, x.owner, g0', br_of (fun g => by simp at g) (fun _ => ?_)⟩
    refine ⟨q, e, by omega, by omega, x.name, x.ver, d.a, d.l, d.c, g1, g2, g3, trivial, q', e', by omega, by omega, x.name, x.ver, d'.a, d'.l, d'.c, g1', g2', g3', trivial, true, ?_, ?_⟩
    · intro h2 x2
      exact man_same x.name x.ver d.a d.l d.c d'.a d'.l d'.c x.refs h2 (hr.grow x2) (hr'.grow x2) (hls d (List.mem_of_getElem? hd))
    · intro h2 x2
      unfold F46_k4
      refine br_of (fun g => by cases g) (fun _ => ?_)
      unfold F46_k5
      rintro _ rfl
      rw [wrap_succ k _ hk' hl]
      exact ⟨⟨k + 1, rfl, by omega, x1.trans x2⟩, less_succ _ _ hk'⟩
  · unfold F46_k6
    exact ⟨rfl, x1⟩

theorem msg_same (m : MsgV) (d d' : Hdr) (ds ds' : List Hdr) (h : Heap) (hp : PacksAt h d.a d.l d.c m.packs ds) (hp' : PacksAt h d'.a d'.l d'.c m.packs ds') (hl : d.l < 9223372036854775808) (hls : ∀ d ∈ ds, d.l < 9223372036854775808) :
    HEnt Try.prog 23 #[.agg (msgCells m d).toArray, .agg (msgCells m d').toArray] h fun v h' => v = .bool true ∧ Ext h h' := by
  refine F23_ent _ _ _ _ _ _ _ _ _ _ _ _ _ _ _ _ _ _ ?_
  unfold F23
  refine (St.start h).new fun b2 h1 s1 _ _ => s1.new fun b3 h2 s2 _ _ => ?_
  refine ⟨m.kind, s2.cell 1 rfl rfl, m.kind, s2.cell 0 rfl rfl, br_of (fun _ => ?_) (fun g => by simp at g)⟩
  refine ⟨m.from_, s2.cell 1 rfl rfl, m.from_, s2.cell 0 rfl rfl, br_of (fun _ => ?_) (fun g => by simp at g)⟩
  refine ⟨m.to, s2.cell 1 rfl rfl, m.to, s2.cell 0 rfl rfl, br_of (fun _ => ?_) (fun g => by simp at g)⟩
  refine ⟨m.txn, s2.cell 1 rfl rfl, m.txn, s2.cell 0 rfl rfl, br_of (fun _ => ?_) (fun g => by simp at g)⟩
  refine ⟨m.yes, s2.cell 1 rfl rfl, m.yes, s2.cell 0 rfl rfl, br_of (fun _ => ?_) (fun g => by simp at g)⟩
  refine ⟨d.a, d.l, d.c, s2.cell 1 rfl rfl, d'.a, d'.l, d'.c, s2.cell 0 rfl rfl, HEnt.use (packs_same d.a d.l d.c d'.a d'.l d'.c m.packs ds ds' h2 (hp.grow s2.ext) (hp'.grow s2.ext) hl hls) ?_⟩
  rintro _ h3 ⟨rfl, x3⟩
  exact ⟨true, rfl, rfl, s2.ext.trans x3⟩

end Go.Proofs.Ytnhnioodlciajaa
