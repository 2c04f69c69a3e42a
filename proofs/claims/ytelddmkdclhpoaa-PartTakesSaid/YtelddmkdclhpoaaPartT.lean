/- Chapter 16: the law PartTakes. -/
import Derived.Test.YtelddmkdclhpoaaPartS
namespace Go.Proofs.Ytelddmkdclhpoaa
open Go.Vc Go.Sha Go.Trail Go.Packs
set_option linter.unusedVariables false

theorem spoil_ok {h0 hT h : Heap} {L : List Vc.Loc} {ya : Option Addr} {yc : Nat} {ds : List DeedV} {hs : List Hdr} {ess : Nat → List Hdr} {b6 b8 : Nat} {e6 e8 : Hdr} {ps : List PackV} {es6 es8 : List Hdr} (x0 : Ext h0 hT) (hL : ∀ (i : Nat) (l : Vc.Loc), L[i]? = some l → l.t ≠ 46) (hlen : hs.length = ds.length)
    (c6 : ∀ h', St h0 h' L → Vc.cell h' ((at0 b6).add 5) = some (.slice e6.a e6.l e6.c)) (c8 : ∀ h', St h0 h' L → Vc.cell h' ((at0 b8).add 5) = some (.slice e8.a e8.l e8.c)) (t6 : TwinAt h0 hT e6 ps es6) (t8 : TwinAt h0 hT e8 ps es8) (oks : ∀ p ∈ ps, p.ok ∧ ∀ r ∈ p.refs, r.ok)
    (l6 : e6.l ≤ 20) (l6s : ∀ x ∈ es6, x.l ≤ 20) (hdl : ds.length ≤ 3) (hsl : ∀ d ∈ hs, d.l < 9223372036854775808) (hfl : ∀ i, ∀ f ∈ ess i, f.l < 9223372036854775808) (j : J h0 hT h L ⟨ya, ds.length, yc⟩ ds hs ess) :
    F3_k3 (at0 b6) (at0 b8) ya ds.length yc true h fun v h' => v = .bool true ∧ Ext h0 h' := by
  have deed : ∀ {h' : Heap}, J h0 hT h' L ⟨ya, ds.length, yc⟩ ds hs ess → ∀ (k : Nat) (x : DeedV) (d : Hdr), ds[k]? = some x → hs[k]? = some d → ∃ q, ya = some q ∧ Vc.cell h' ((q.add (k * 9)).add 2) = some (.slice d.a d.l d.c) := by
    intro h' j k x d hx hd
    have hz : (List.zipWith deedCells ds hs)[k]? = some (deedCells x d) := by rw [List.getElem?_zipWith, hx, hd]
    obtain ⟨q, e, _, hc⟩ := j.rows.rows.get hz
    exact ⟨q, e, hc 2 _ rfl⟩
  have pack : ∀ {h' : Heap}, J h0 hT h' L ⟨ya, ds.length, yc⟩ ds hs ess → ∀ (k : Nat) (x : DeedV) (d : Hdr), ds[k]? = some x → hs[k]? = some d → ∀ (i : Nat) (f : Hdr), (ess k)[i]? = some f → ∃ q, d.a = some q ∧ Vc.cell h' ((q.add (i * 4)).add 3) = some (.slice f.a f.l f.c) := by
    intro h' j k x d hx hd i f hf
    obtain ⟨h1, h2, _⟩ := j.packs k x d hx hd
    have hlt := (List.getElem?_eq_some_iff.1 hf).1
    have hp : x.packs[i]? = some (x.packs[i]'(by omega)) := List.getElem?_eq_getElem _
    have hz : (List.zipWith PackV.cells x.packs (ess k))[i]? = some (PackV.cells (x.packs[i]'(by omega)) f) := by rw [List.getElem?_zipWith, hp, hf]
    obtain ⟨q, e, _, hc⟩ := h2.rows.get hz
    exact ⟨q, e, hc 3 _ rfl⟩
  unfold F3_k3
  refine ⟨fun i h' => ∃ k : Nat, i = k ∧ k ≤ ds.length ∧ J h0 hT h' L ⟨ya, ds.length, yc⟩ ds hs ess, fun i _ => (ds.length - i).toNat, ⟨0, rfl, by omega, j⟩, ?_⟩
  rintro h1 _ ⟨k, rfl, hk, j1⟩
  unfold F3_b4
  refine br_of (fun hlt => ?_) (fun hf => ?_)
  · have hk' : k < ds.length := by
      have : (k : Int) < (ds.length : Int) := by simpa using hlt
      omega
    have hx : ds[k]? = some ds[k] := List.getElem?_eq_getElem hk'
    generalize ds[k] = x at hx
    have hd : hs[k]? = some (hs[k]'(by omega)) := List.getElem?_eq_getElem _
    generalize hs[k]'(by omega) = d at hd
    have hdl' := hsl d (List.mem_of_getElem? hd)
    obtain ⟨q, eq, hc⟩ := deed j1 k x d hx hd
    unfold F3_k5
    simp only [Int.toNat_natCast]
    refine ⟨q, eq, by omega, by omega, d.a, d.l, d.c, hc, fun i h' => ∃ k2 : Nat, i = k2 ∧ k2 ≤ d.l ∧ J h0 hT h' L ⟨ya, ds.length, yc⟩ ds hs ess, fun i _ => (d.l - i).toNat, ⟨0, rfl, by omega, j1⟩, ?_⟩
    rintro h2 _ ⟨k2, rfl, hk2, j2⟩
    unfold F3_b6
    refine br_of (fun hlt2 => ?_) (fun hf2 => ?_)
    · have hk2' : k2 < d.l := by
        have : (k2 : Int) < (d.l : Int) := by simpa using hlt2
        omega
      have hel : (ess k).length = d.l := by
        obtain ⟨h1', h2', _⟩ := j2.packs k x d hx hd
        have := h2'.len
        rw [List.length_zipWith, h1', Nat.min_self] at this
        omega
      have hf : (ess k)[k2]? = some ((ess k)[k2]'(by omega)) := List.getElem?_eq_getElem _
      generalize (ess k)[k2]'(by omega) = f at hf
      have hfm := List.mem_of_getElem? hf
      have hfl' := hfl k f hfm
      obtain ⟨qb, eqb, hcb⟩ := deed j2 k x d hx hd
      obtain ⟨q2, eq2, hc2⟩ := pack j2 k x d hx hd k2 f hf
      unfold F3_k7
      simp only [Int.toNat_natCast, hadd2]
      refine ⟨qb, eqb, by omega, by omega, d.a, d.l, d.c, hcb, q2, eq2, by omega, by omega, f.a, f.l, f.c, hc2, fun i h' => ∃ k3 : Nat, i = k3 ∧ k3 ≤ f.l ∧ J h0 hT h' L ⟨ya, ds.length, yc⟩ ds hs ess, fun i _ => (f.l - i).toNat, ⟨0, rfl, by omega, j2⟩, ?_⟩
      rintro h3 _ ⟨k3, rfl, hk3, j3⟩
      unfold F3_b8
      refine br_of (fun hlt3 => ?_) (fun hf3 => ?_)
      · have hk3' : k3 < f.l := by
          have : (k3 : Int) < (f.l : Int) := by simpa using hlt3
          omega
        obtain ⟨qc, eqc, hcc⟩ := deed j3 k x d hx hd
        obtain ⟨q3, eq3, hc3⟩ := pack j3 k x d hx hd k2 f hf
        rcases (j3.packs k x d hx hd).2.2 f hfm with h0' | ⟨b0, cs0, ef, hb0, g0, gz⟩
        · omega
        obtain ⟨z, hz⟩ := gz k3 hk3'
        unfold F3_k9
        simp only [Int.toNat_natCast, hadd2]
        refine ⟨qc, eqc, by omega, by omega, d.a, d.l, d.c, hcc, q3, eq3, by omega, by omega, f.a, f.l, f.c, hc3, _, ef, by omega, by omega, z, ?_, _, ef, by omega, by omega, ?_⟩
        · rw [add_mk, add_mk, Nat.zero_add, cell_blk g0]; exact hz
        · rw [add_mk, add_mk, Nat.zero_add]
          refine storeK_one g0 (Array.getElem?_eq_some_iff.1 hz).1 (.inr (Nat.zero_le _)) rfl fun h4 g4 on => ?_
          rw [wrap_succ k3 _ hk3' hfl']
          exact ⟨⟨k3 + 1, rfl, by omega, j3.wrote x0.size hL hb0 g0 g4 on⟩, less_succ _ _ hk3'⟩
      · unfold F3_k10
        rw [wrap_succ k2 _ hk2' hdl']
        exact ⟨⟨k2 + 1, rfl, by omega, j3⟩, less_succ _ _ hk2'⟩
    · unfold F3_k11
      rw [wrap_succ k _ hk' (by omega)]
      exact ⟨⟨k + 1, rfl, by omega, j2⟩, less_succ _ _ hk'⟩
  · unfold F3_k12
    have S0 : ∀ k, k < h0.size → ¬ (hT.size ≤ k) := fun k hk hs => by have := x0.size; omega
    have keepT : ∀ {e : Hdr} {es : List Hdr}, TwinAt h0 hT e ps es → TwinAt h0 h1 e ps es := fun t => t.keep j1.keep S0 (fun k e hs => by have := (t.rows.lt k e).2; omega) (fun i d hd k e hs => by obtain ⟨_, o⟩ := t.ref hd; have := (o.lt k e).2; omega)
    refine br_of (fun _ => ⟨e6.a, e6.l, e6.c, c6 h1 j1.loc, e8.a, e8.l, e8.c, c8 h1 j1.loc, HEnt.use (packs_same e6.a e6.l e6.c e8.a e8.l e8.c ps es6 es8 h1 ((keepT t6).packs oks) ((keepT t8).packs oks) (by omega) (fun x hx => by have := l6s x hx; omega)) ?_⟩) (fun g => by cases g)
    rintro _ h2 ⟨rfl, x2⟩
    refine ⟨true, rfl, br_of (fun _ => HEnt.use (works_ok h2) ?_) (fun g => by cases g)⟩
    rintro _ h3 ⟨rfl, x3⟩
    exact ⟨true, rfl, rfl, (j1.loc.ext.trans x2).trans x3⟩
end Go.Proofs.Ytelddmkdclhpoaa
