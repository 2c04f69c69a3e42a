import Derived.Test.YtnhnioodlciajaaWireF
import Derived.Test.YtnhnioodlciajaaVwpB
import Derived.Test.YtnhnioodlciajaaVcU

namespace Go.Proofs.Ytnhnioodlciajaa
open Go.Vc Go.Sha Go.Trail Go.Packs
set_option linter.unusedVariables false

theorem zeroC24 : (zeroC Try.prog 24).size = 6 := by kernel_rfl
theorem size24 : Try.prog.cellsOf 24 = 6 := by kernel_rfl
theorem bytes24 : Try.prog.bytesOf 24 = 64 := by kernel_rfl
theorem z24 : (((Try.prog.info? 24).bind (·.zero)).getD undef).cells.size = 6 := by kernel_rfl
theorem hadd2 (q : Addr) (i j k : Nat) : ((q.add i).add j).add k = (q.add i).add (j + k) := by unfold Addr.add; by_cases hj : j = 0 <;> by_cases hk : k = 0 <;> simp [hj, hk, Nat.add_assoc]

theorem TwinAt.since {h0 h1 h : Heap} {e : Hdr} {ps : List PackV} {es : List Hdr} (t : TwinAt h1 h e ps es) (x : Ext h0 h1) : TwinAt h0 h e ps es :=
  ⟨t.len, t.rows.since x, fun i p d hp hd => (t.refs i p d hp hd).since x⟩
theorem TwinAt.keep {S : Nat → Prop} {h0 h h' : Heap} {e : Hdr} {ps : List PackV} {es : List Hdr} (t : TwinAt h0 h e ps es) (x : Keep S h h') (h1 : ∀ k, k < h0.size → ¬ S k) (h2 : ∀ k, e.a = some ⟨k, 0, none⟩ → ¬ S k) (h3 : ∀ (i : Nat) (d : Hdr), es[i]? = some d → ∀ k, d.a = some ⟨k, 0, none⟩ → ¬ S k) : TwinAt h0 h' e ps es :=
  ⟨t.len, t.rows.keep x h1 h2, fun i p d hp hd => (t.refs i p d hp hd).keep x h1 (h3 i d hd)⟩
theorem TwinAt.ref {h0 h : Heap} {e : Hdr} {ps : List PackV} {es : List Hdr} (t : TwinAt h0 h e ps es) {i : Nat} {d : Hdr} (hd : es[i]? = some d) : ∃ rows, OwnR 86 33 h0 h d.a d.l d.c rows := by
  have hlt := (List.getElem?_eq_some_iff.1 hd).1
  have : ps[i]? = some (ps[i]'(by rw [← t.len]; exact hlt)) := List.getElem?_eq_getElem _
  exact ⟨_, t.refs i _ d this hd⟩

theorem twin_ok (m : MsgV) (d : Hdr) (ds : List Hdr) (h : Heap) (hp : PacksAt h d.a d.l d.c m.packs ds) (hl : d.l ≤ 1099511627776) (hls : ∀ x ∈ ds, x.l ≤ 1099511627776) :
    HEnt Try.prog 51 #[.agg (msgCells m d).toArray] h fun v h' => ∃ e es, v = .agg (msgCells m e).toArray ∧ e.l = d.l ∧ TwinAt h h' e m.packs es ∧ Ext h h' := by
  refine F51_ent _ _ _ _ _ _ _ _ _ _ ?_
  have hlen := hp.length
  unfold F51
  refine (St.start h).new fun b1 h1 s1 _ _ => s1.new fun b2 h2 s2 _ _ => ⟨d.a, d.l, d.c, s2.cell 1 rfl rfl, ?_⟩
  refine HEnt.use (clonePacks_ok d.a d.l d.c _ h2 (hp.rows.grow s2.ext) (fun r hr => by obtain ⟨p, q, rfl⟩ := zip_mem hr; exact pack_one p q) hl) ?_
  rintro _ h3 ⟨a6, c6, rfl, o6⟩
  have s3 := s2.grow o6.ext
  have lo1 := (s3.at_ 1 _ rfl).1
  have lo2 := (s3.at_ 0 _ rfl).1
  simp only at lo1 lo2
  refine ⟨a6, d.l, c6, rfl, s3.store 1 rfl (k := 5) (Nat.le_of_ble_eq_true rfl) rfl fun h4 s4 on4 => ?_⟩
  simp only [List.set_cons_zero, List.set_cons_succ] at s4
  have s4 : St h h4 [⟨b2, zeroC Try.prog 24, 24⟩, ⟨b1, (msgCells m ⟨a6, d.l, c6⟩).toArray, 24⟩] := s4
  have o4 : OwnR 68 4 h h4 a6 d.l c6 (List.zipWith PackV.cells m.packs ds) := (o6.since s2.ext).keep (S := (· = b1)) (on4.keep rfl) (fun k hk hs => by omega) (o6.loc_ne s3 (i := 1) rfl (Nat.ne_of_beq_eq_false rfl))
  refine ⟨a6, d.l, c6, s4.cell 1 rfl rfl, fun x h' => ∃ (k : Nat) (es : List Hdr), x = k ∧ k ≤ d.l ∧ es.length = k ∧ St h h' [⟨b2, zeroC Try.prog 24, 24⟩, ⟨b1, (msgCells m ⟨a6, d.l, c6⟩).toArray, 24⟩] ∧ OwnR 68 4 h h' a6 d.l c6 (List.zipWith PackV.cells m.packs (es ++ ds.drop k)) ∧ ∀ (i : Nat) (p : PackV) (e : Hdr), m.packs[i]? = some p → es[i]? = some e → OwnR 86 33 h h' e.a e.l e.c (p.refs.map RefV.cells),
    fun x _ => (d.l - x).toNat, ⟨0, [], rfl, by omega, rfl, s4, by simpa using o4, by simp⟩, ?_⟩
  rintro h5 _ ⟨k, es, rfl, hk, hes, s5, o, hrefs⟩
  unfold F51_b1
  refine br_of (fun ht => ?_) (fun hf => ?_)
  · have hk' : k < d.l := by
      have : (k : Int) < (d.l : Int) := by simpa using ht
      omega
    obtain ⟨_, p, x, hpk, hdk, _, _, hr, _⟩ := hp.get hk'
    have hz : (List.zipWith PackV.cells m.packs (es ++ ds.drop k))[k]? = some (p.cells x) := by
      rw [List.getElem?_zipWith, hpk, List.getElem?_append_right (by omega), hes, Nat.sub_self, List.getElem?_drop, Nat.add_zero, hdk]
    obtain ⟨q, eq, _, hc⟩ := o.rows.get hz
    have h3c := hc 3 (.slice x.a x.l x.c) rfl
    unfold F51_k2
    have hxl : x.l ≤ 1099511627776 := hls x (List.mem_of_getElem? hdk)
    have hadd : ((q.add ((Int.toNat (k : Int)) * 4)).add 1).add 2 = (q.add (k * 4)).add 3 := by rw [Int.toNat_natCast, hadd2]
    have cq := s5.quiet (P := Try.prog) 1 rfl (k := 5) (v := .slice a6 d.l c6) rfl Try.underlying22 rfl
    refine ⟨Ext, Ext.refl, fun _ _ _ x y => x.trans y, a6, d.l, c6, cq, a6, d.l, c6, cq, q, eq, by omega, by omega, x.a, x.l, x.c, fun w hw => ?_, ?_⟩
    · rw [hadd]
      exact run_loadCell (hw.some h3c) Try.underlying64 rfl
    refine HEnt.use (cloneRefs_ok x.a x.l x.c _ h5 ((hr.rows).grow o.ext) (fun r hr => by obtain ⟨y, _, rfl⟩ := List.mem_map.1 hr; exact cells_one y) hxl) ?_
    rintro _ h6 ⟨a20, c20, rfl, o20⟩
    refine ⟨a20, x.l, c20, rfl, o20.ext, q, eq, by omega, by omega, ?_⟩
    rw [hadd]
    have o3 := o.grow o20.ext
    have s6 := s5.grow o20.ext
    refine o3.store hz (by omega) rfl (fun h7 o7 on => ⟨trivial, ?_⟩) eq
    rw [wrap_succ k _ hk' (by omega)]
    have onb : ∃ b, a6 = some ⟨b, 0, none⟩ ∧ Only b h6 h7 := by
      rcases o3.own with ⟨e, e2⟩ | ⟨b, _, e, g1, _⟩
      · rw [e] at eq; cases eq
      · exact ⟨b, e, on b e⟩
    obtain ⟨b, eb, onb⟩ := onb
    have lb := o3.lt b eb
    have keepR : ∀ {a : Option Addr} {l c : Nat} {rows : List (List Value)}, OwnR 86 33 h h6 a l c rows → OwnR 86 33 h h7 a l c rows := by
      intro a l c rows o'
      have ne := o3.type_ne o' (by decide)
      exact o'.keep (S := (· = b)) (onb.keep rfl) (fun k hk e => by omega) (fun k' e' e2 => ne b k' eb e' e2.symm)
    have s7 : St h h7 [⟨b2, zeroC Try.prog 24, 24⟩, ⟨b1, (msgCells m ⟨a6, d.l, c6⟩).toArray, 24⟩] := s6.keep (S := (· = b)) (onb.keep rfl) (fun k hk e => by omega) (fun i l hl e => by
      match i, hl with
      | 0, hl => simp at hl; subst hl; exact o3.loc_ne s6 (i := 0) rfl (Nat.ne_of_beq_eq_false rfl) b eb e.symm
      | 1, hl => simp at hl; subst hl; exact o3.loc_ne s6 (i := 1) rfl (Nat.ne_of_beq_eq_false rfl) b eb e.symm
      | i + 2, hl => simp at hl)
    refine ⟨⟨k + 1, es ++ [⟨a20, x.l, c20⟩], rfl, by omega, by simp [hes], s7, ?_, ?_⟩, less_succ _ _ hk'⟩
    · have : (List.zipWith PackV.cells m.packs (es ++ ds.drop k)).set k ((p.cells x).set 3 (.slice a20 x.l c20)) = List.zipWith PackV.cells m.packs ((es ++ [⟨a20, x.l, c20⟩]) ++ ds.drop (k + 1)) := by
        apply List.ext_getElem?
        intro i
        rw [List.getElem?_set]
        by_cases hik : k = i
        · subst hik
          rw [if_pos rfl, if_pos (List.getElem?_eq_some_iff.1 hz).1, List.getElem?_zipWith, hpk, List.append_assoc, List.getElem?_append_right (by omega), hes, Nat.sub_self]
          rfl
        · rw [if_neg hik, List.getElem?_zipWith, List.getElem?_zipWith]
          have : (es ++ ds.drop k)[i]? = ((es ++ [⟨a20, x.l, c20⟩]) ++ ds.drop (k + 1))[i]? := by
            by_cases hlt : i < k
            · rw [List.getElem?_append_left (by omega), List.append_assoc, List.getElem?_append_left (by omega)]
            · rw [List.getElem?_append_right (by omega), List.getElem?_append_right (by simp; omega), List.getElem?_drop, List.getElem?_drop]
              simp only [List.length_append, List.length_singleton, hes]
              congr 1; omega
          rw [this]
      rw [this] at o7; exact o7
    · intro i p' e' hp' he'
      by_cases hi : i < k
      · rw [List.getElem?_append_left (by omega)] at he'
        exact keepR ((hrefs i p' e' hp' he').grow o20.ext)
      · have : i = k := by
          have := (List.getElem?_eq_some_iff.1 he').1
          simp [hes] at this; omega
        subst this
        rw [List.getElem?_append_right (by omega), hes, Nat.sub_self] at he'
        obtain rfl := Option.some.inj he'
        rw [hpk] at hp'
        obtain rfl := Option.some.inj hp'
        exact keepR (o20.since o.ext)
  · have hk' : k = d.l := by
      have : ¬ (k : Int) < (d.l : Int) := by simpa using hf
      omega
    unfold F51_k3
    subst hk'
    rw [List.drop_of_length_le (by rw [hp.len]; omega), List.append_nil] at o
    refine ⟨m.kind, m.from_, m.to, m.txn, m.yes, a6, d.l, c6, s5.cell 1 rfl rfl, s5.cell 1 rfl rfl, s5.cell 1 rfl rfl, s5.cell 1 rfl rfl, s5.cell 1 rfl rfl, s5.cell 1 rfl rfl, rfl, ?_⟩
    refine s5.storeAll 0 rfl rfl zeroC24 (vs := (msgCells m ⟨a6, d.l, c6⟩).toArray) (by simp [msgCells, one]) fun h6 s6 on6 => ?_
    simp only [List.set_cons_zero] at s6
    have K : Keep (· = b2) h5 h6 := on6.keep rfl
    refine ⟨m.kind, m.from_, m.to, m.txn, m.yes, a6, d.l, c6, s6.cell 0 rfl rfl, s6.cell 0 rfl rfl, s6.cell 0 rfl rfl, s6.cell 0 rfl rfl, s6.cell 0 rfl rfl, s6.cell 0 rfl rfl, rfl, ⟨a6, d.l, c6⟩, es, rfl, rfl, ⟨by omega, ?_, fun i p e hp he => ?_⟩, s6.ext⟩
    · exact o.keep K (fun k hk hs => by omega) (o.loc_ne s5 (i := 0) rfl (Nat.ne_of_beq_eq_false rfl))
    · have o' := hrefs i p e hp he
      exact o'.keep K (fun k hk hs => by omega) (o'.loc_ne s5 (i := 0) rfl (Nat.ne_of_beq_eq_false rfl))
end Go.Proofs.Ytnhnioodlciajaa
