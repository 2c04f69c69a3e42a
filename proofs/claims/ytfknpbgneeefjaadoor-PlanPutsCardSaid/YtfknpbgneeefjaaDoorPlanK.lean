import Derived.Test.YtfknpbgneeefjaaDoorPlanH
import Derived.Test.YtfknpbgneeefjaaDoorPlanOD

namespace Go.Proofs.YtfknpbgneeefjaaDoor
open Go.Vc Go.Sha Go.Trail Go.Packs Go.Plan Go.Man
set_option linter.unusedVariables false
set_option linter.unusedSimpArgs false
set_option maxRecDepth 20000
def DoR (h0 : Heap) (res : List PackV × Nat) : Value → Heap → Prop := fun v h' => ∃ e es, v = .tuple #[.slice e.a e.l e.c, .int .i64 res.2] ∧ TwinAt h0 h' e res.1 es
theorem chkC_bad {ps : List PackV} (h : packsC [] 0 ps ≠ 0) : chkC ps = ([], packsC [] 0 ps) := if_neg h
theorem chkC_good {ps : List PackV} (h : packsC [] 0 ps = 0) : chkC ps = (ps, 0) := if_pos h
theorem lay_ok {owner : Int} {o : OpV} (hn : o.name.size < 9223372036854775808) (hv : o.ver.size < 9223372036854775808) (hr : ∀ r ∈ o.refs, r.ok) : (layV owner o).ok ∧ ∀ r ∈ (layV owner o).refs, r.ok := ⟨⟨hn, hv⟩, hr⟩
theorem opC_man {o : OpV} (h : opC o = 0) (h3 : o.kind ≠ 3) : manC o.name o.ver o.refs = 0 := by
  unfold opC at h
  split at h
  · cases h
  · split at h
    · cases h
    · exact h
theorem name_size {s : ByteArray} (h : nameP (lst s)) : s.size ≤ 16 := by
  have := h.2.1
  rw [lst_len] at this; exact this
theorem do_ok (a : Option Addr) (l c : Nat) (ps : List PackV) (ds : List Hdr) (owner : Int) (o : OpV) (dd : Hdr) (h : Heap) (hp : PacksAt h a l c ps ds) (hr : RefsAt h dd.a dd.l dd.c o.refs) (hn : o.name.size < 9223372036854775808) (hv : o.ver.size < 9223372036854775808)
    (hl : l < 1099511627776) (hls : ∀ x ∈ ds, x.l ≤ 1099511627776) (hdl : dd.l ≤ 1099511627776) (hm : Ord.MaxAt h) :
    HEnt Tryd.prog 11 #[.slice a l c, .int .i64 owner, .agg (opA o dd)] h (DoR h (doC ps owner o)) := by
  have hlen := hp.length
  have hoks := PacksAt.oks hp
  refine F11_ent _ _ _ _ _ _ _ _ _ _ _ _ _ ?_
  unfold F11
  refine newK_intro fun h1 hb1 x1 z1 => ?_
  have cl : ∀ {h' : Heap} (i : Nat) (v : Value), (opA o dd)[i]? = some v → Ext h1 h' → Vc.cell h' ((at0 h.size).add i) = some v := fun i v hv x => by rw [at_cell (x.blk hb1)]; exact hv
  have bad : ∀ {h' : Heap} (n : Nat), Ext h h' → doC ps owner o = ([], n) → DoR h (doC ps owner o) (.tuple #[.slice none 0 0, .int .i64 n]) h' := fun n x e => ⟨⟨none, 0, 0⟩, [], by rw [e], by rw [e]; exact TwinAt.nil x⟩
  refine ⟨_, _, _, _, _, _, _, cl 0 _ rfl (Ext.refl _), cl 1 _ rfl (Ext.refl _), cl 2 _ rfl (Ext.refl _), cl 3 _ rfl (Ext.refl _), cl 4 _ rfl (Ext.refl _), rfl, HEnt.use (check_ok o dd h1 (hr.grow x1) hn hv hdl) ?_⟩
  rintro _ h2 ⟨rfl, x2⟩
  have x02 := x1.trans x2
  refine ⟨_, rfl, br_of (fun g => ?_) (fun g => ?_)⟩
  · have g' : opC o ≠ 0 := by simp at g; omega
    exact bad _ x02 (by unfold doC; rw [if_pos g'])
  have g1 : ¬ opC o ≠ 0 := by simp at g; omega
  unfold F11_k1
  refine HEnt.use (packs_ok a l c ps ds h2 (hp.grow x02) (by omega)) ?_
  rintro _ h3 ⟨rfl, x3⟩
  have x03 := x02.trans x3
  refine ⟨_, rfl, br_of (fun g => ?_) (fun g => ?_)⟩
  · have g' : packsC [] 0 ps ≠ 0 := by simp at g; omega
    exact bad _ x03 (by unfold doC; rw [if_neg g1, if_pos g'])
  have g2 : ¬ packsC [] 0 ps ≠ 0 := by simp at g; omega
  have k3 : ∀ b, (b = true ↔ (owner < 1 ∨ owner > 8)) → F11_k3 a l c owner (at0 h.size) b h3 (DoR h (doC ps owner o)) := by
    intro b hb
    unfold F11_k3
    refine br_of (fun e => bad 2 x03 (by unfold doC; rw [if_neg g1, if_neg g2, if_pos (hb.1 e)])) (fun e => ?_)
    have g3 : ¬ (owner < 1 ∨ owner > 8) := fun hh => by rw [hb.2 hh] at e; cases e
    have hdoc : doC ps owner o = match atN (lst o.name) ps 0 with
      | none => if o.kind = 1 then chkC (ps ++ [layV owner o]) else ([], 9)
      | some (k, p) => if o.kind = 1 then ([], 8) else if p.owner ≠ owner then ([], 16) else if o.kind = 3 then (ps.eraseIdx k, 0) else if orderC (lst o.ver) (lst p.ver) ≤ 0 then ([], 14) else chkC (ps.set k (layV owner o)) := by
      unfold doC; rw [if_neg g1, if_neg g2, if_neg g3]; rfl
    unfold F11_k4
    refine HEnt.use (place_ok a l c ps ds (at0 h.size) o.name h3 (hp.grow x03) (by omega) (cl 2 _ rfl (x2.trans x3))) ?_
    rintro _ h4 ⟨rfl, x4⟩
    have x04 := x03.trans x4
    refine ⟨_, rfl, HEnt.use (twin_ok ⟨a, l, c⟩ ps ds h4 (hp.grow x04) (by show l ≤ _; omega) hls) ?_⟩
    rintro _ h5 ⟨e, es, rfl, hel, t4⟩
    have hel : e.l = l := hel
    have x45 : Ext h4 h5 := t4.ext
    have t := t4.since x04
    have x05 : Ext h h5 := t.ext
    have x15 : Ext h1 h5 := ((x2.trans x3).trans x4).trans x45
    -- the end of those that are checked
    have fin : ∀ {h' : Heap} (e' : Hdr) (ps' : List PackV) (es' : List Hdr), TwinAt h h' e' ps' es' → (∀ p ∈ ps', p.ok ∧ ∀ r ∈ p.refs, r.ok) → e'.l ≤ 1099511627777 → doC ps owner o = chkC ps' → F11_k6 e'.a e'.l e'.c h' (DoR h (doC ps owner o)) := by
      intro h' e' ps' es' t' ok' hl' hd
      unfold F11_k6
      refine HEnt.use (packs_ok e'.a e'.l e'.c ps' es' h' (t'.packs ok') (by omega)) ?_
      rintro _ h7 ⟨rfl, x7⟩
      refine ⟨_, rfl, br_of (fun g => ?_) (fun g => ?_)⟩
      · have g' : packsC [] 0 ps' ≠ 0 := by simp at g; omega
        exact bad _ (t'.ext.trans x7) (by rw [hd, chkC_bad g'])
      · have g' : packsC [] 0 ps' = 0 := by simp at g; omega
        unfold F11_k7
        rw [hd, chkC_good g']
        exact ⟨e', es', rfl, t'.grow x7⟩
    -- the package that is laid
    have laid : ∀ {K : Value → Heap → Prop} {h' : Heap}, Ext h h' → (∀ (e2 : Hdr) h'', OwnR 75 33 h' h'' e2.a e2.l e2.c (o.refs.map RefV.cells) → K (.agg ((layV owner o).cells e2).toArray) h'') → HCalls Tryd.prog 31 #[.int .i64 owner, .agg (opA o dd)] h' K := by
      intro K h' x hK
      refine HEnt.use (lays_ok owner o dd h' (hr.grow x) hdl) ?_
      rintro _ h'' ⟨e2, _, rfl, o2⟩
      exact hK e2 h'' o2
    refine ⟨_, _, _, rfl, _, cl 0 _ rfl x15, ?_⟩
    cases hat : atN (lst o.name) ps 0 with
    | none =>
      rw [hat] at hdoc
      have hx : idxV (lst o.name) ps = -1 := by unfold idxV; rw [hat]
      rw [hx]
      refine br_of (fun gk => br_of (fun e => by simp at e) (fun _ => ?_)) (fun gk => br_of (fun _ => ?_) (fun e => by simp at e))
      · have gk' : o.kind = 1 := by simpa using gk
        unfold F11_k5
        refine ⟨_, _, _, _, _, _, _, cl 0 _ rfl x15, cl 1 _ rfl x15, cl 2 _ rfl x15, cl 3 _ rfl x15, cl 4 _ rfl x15, rfl, laid x05 fun e2 h6 o2 => ?_⟩
        refine ⟨_, _, _, _, _, _, rfl, rfl, by decide, newK_intro fun h7 hb7 x7 _ => ?_⟩
        refine (t.grow (o2.ext.trans x7)).app (p := layV owner o) (d := e2) ((o2.since x05).grow x7) hb7 (by omega) fun e' h8 hl' t' => ?_
        refine fin e' _ _ t' (fun p hp' => ?_) (by omega) (by rw [hdoc]; exact if_pos gk')
        rcases List.mem_append.1 hp' with hp' | hp'
        · exact hoks p hp'
        · simp at hp'; subst hp'; exact lay_ok hn hv hr.ok
      · have gk' : ¬ o.kind = 1 := by simpa using gk
        exact bad 9 x05 (by rw [hdoc]; exact if_neg gk')
    | some kp =>
      obtain ⟨k, p⟩ := kp
      rw [hat] at hdoc
      simp only at hdoc
      have hx : idxV (lst o.name) ps = k := by unfold idxV; rw [hat]
      obtain ⟨j, e1, hpk, hpn, _⟩ := atN_some hat
      rw [Nat.zero_add] at e1
      subst e1
      have hkl : k < l := by have := (List.getElem?_eq_some_iff.1 hpk).1; omega
      rw [hx]
      refine br_of (fun gk => br_of (fun _ => ?_) (fun e => by simp at e)) (fun gk => br_of (fun e => by simp at e; omega) (fun _ => ?_))
      · have gk' : o.kind = 1 := by simpa using gk
        exact bad 8 x05 (by rw [hdoc]; exact if_pos gk')
      have gk' : ¬ o.kind = 1 := by simpa using gk
      rw [if_neg gk'] at hdoc
      obtain ⟨q, p', d, hp1, hd1, ea, pok, _, q0, q1, q2, q3⟩ := (hp.grow x05).get hkl
      rw [hpk] at hp1
      obtain rfl := Option.some.inj hp1
      refine ⟨q, ea, by omega, by omega, p.owner, by rw [Int.toNat_natCast]; exact q0, br_of (fun g => ?_) (fun g => ?_)⟩
      · have g' : p.owner ≠ owner := by simpa using g
        exact bad 16 x05 (by rw [hdoc]; exact if_pos g')
      have g4 : ¬ p.owner ≠ owner := by simpa using g
      rw [if_neg g4] at hdoc
      refine ⟨_, cl 0 _ rfl x15, br_of (fun g => ?_) (fun g => ?_)⟩
      · have g' : o.kind = 3 := by simpa using g
        rw [if_pos g'] at hdoc
        refine HEnt.use (delete_ok e.a e.l e.c k _ h h5 t.rows (fun r hr => by obtain ⟨x, y, rfl⟩ := zip_mem hr; exact pack_one x y) (by omega) (by omega)) ?_
        rintro _ h6 ⟨rfl, o6, kk⟩
        refine ⟨_, _, _, rfl, ⟨e.a, e.l - 1, e.c⟩, es.eraseIdx k, by rw [hdoc]; rfl, ?_⟩
        rw [hdoc]
        exact t.erase (by omega) o6 kk
      have g5 : ¬ o.kind = 3 := by simpa using g
      rw [if_neg g5] at hdoc
      have hman := opC_man (by omega : opC o = 0) g5
      have hov := name_size (manC_pos hman).2.2.2
      have hpv := name_size (manC_pos (packsC_mem ps (by omega : packsC [] 0 ps = 0) p (List.mem_of_getElem? hpk))).2.2.2
      refine ⟨_, cl 3 _ rfl x15, q, ea, by omega, by omega, p.ver, by rw [hadd2, Int.toNat_natCast]; exact q2, orderC (lst o.ver) (lst p.ver), fun h' c' => ?_, fun h' c' => ?_⟩
      · exact (Ord.order_ok o.ver p.ver (by omega) (by omega) h' (hm.ext (x05.trans c'.ext))).mono fun v h'' ⟨e1, e2⟩ => ⟨e1, e2⟩
      · have x5' : Ext h5 h' := c'.ext
        refine br_of (fun g => ?_) (fun g => ?_)
        · have g' : orderC (lst o.ver) (lst p.ver) ≤ 0 := by simpa using g
          exact bad 14 (x05.trans x5') (by rw [hdoc]; exact if_pos g')
        have g6 : ¬ orderC (lst o.ver) (lst p.ver) ≤ 0 := by simpa using g
        rw [if_neg g6] at hdoc
        have x1' := x15.trans x5'
        unfold F11_k8
        refine ⟨_, _, _, _, _, _, _, cl 0 _ rfl x1', cl 1 _ rfl x1', cl 2 _ rfl x1', cl 3 _ rfl x1', cl 4 _ rfl x1', rfl, laid (x05.trans x5') fun e2 h6 o2 => ?_⟩
        have t6 := t.grow (x5'.trans o2.ext)
        obtain ⟨qe, eqe⟩ : ∃ qe, e.a = some qe := by
          rcases t.rows.own with ⟨_, e3⟩ | ⟨b, _, e3, _⟩
          · have := t.rows.cap; omega
          · exact ⟨_, e3⟩
        refine ⟨_, _, _, _, _, _, rfl, qe, eqe, by omega, by omega, ?_⟩
        rw [Int.toNat_natCast]
        refine t6.put (p := layV owner o) (d := e2) (by omega) (o2.since (x05.trans x5')) eqe fun h7 t7 => ?_
        refine fin e _ _ t7 (fun r hr' => ?_) (by omega) hdoc
        rcases List.mem_or_eq_of_mem_set hr' with hr' | rfl
        · exact hoks r hr'
        · exact lay_ok hn hv hr.ok
  unfold F11_k2
  refine br_of (fun g => k3 _ ?_) (fun g => k3 _ ?_)
  · have g' : owner < 1 := by simpa using g
    exact ⟨fun _ => .inl g', fun _ => rfl⟩
  · have g' : ¬ owner < 1 := by simpa using g
    simp only [decide_eq_true_eq]; omega
end Go.Proofs.YtfknpbgneeefjaaDoor

namespace Go.Proofs.YtfknpbgneeefjaaDoor
open Go.Vc Go.Sha Go.Trail Go.Packs Go.Plan Go.Man
set_option linter.unusedVariables false
set_option linter.unusedSimpArgs false
set_option maxRecDepth 20000
/-- packages in a slice of one's own; their layers lie where they lay -/
structure LentAt (h0 h : Heap) (e : Hdr) (ps : List PackV) (es : List Hdr) : Prop where
  len : es.length = ps.length
  rows : OwnR 61 4 h0 h e.a e.l e.c (List.zipWith PackV.cells ps es)
  refs : ∀ (i : Nat) (p : PackV) (d : Hdr), ps[i]? = some p → es[i]? = some d → RefsAt h0 d.a d.l d.c p.refs
theorem LentAt.nil {h0 h : Heap} (x : Ext h0 h) : LentAt h0 h ⟨none, 0, 0⟩ [] [] := ⟨rfl, OwnR.nil _ _ x, fun i p d hp _ => by simp at hp⟩
theorem LentAt.grow {h0 h h' : Heap} {e : Hdr} {ps : List PackV} {es : List Hdr} (t : LentAt h0 h e ps es) (x : Ext h h') : LentAt h0 h' e ps es := ⟨t.len, t.rows.grow x, t.refs⟩
theorem LentAt.length {h0 h : Heap} {e : Hdr} {ps : List PackV} {es : List Hdr} (t : LentAt h0 h e ps es) : ps.length = e.l := by
  have := t.rows.len
  rw [List.length_zipWith, t.len, Nat.min_self] at this; exact this
theorem LentAt.packs {h0 h : Heap} {e : Hdr} {ps : List PackV} {es : List Hdr} (t : LentAt h0 h e ps es) (ok : ∀ p ∈ ps, p.ok) : PacksAt h e.a e.l e.c ps es :=
  ⟨t.len, t.rows.rows, fun i p d hp hd => (t.refs i p d hp hd).grow t.rows.ext, ok⟩
theorem LentAt.app {h0 h : Heap} {e d : Hdr} {ps : List PackV} {es : List Hdr} {p : PackV} {b : Nat} {K : Option Addr → Nat → Nat → Heap → Prop} (t : LentAt h0 h e ps es) (hd : RefsAt h0 d.a d.l d.c p.refs) (hb : h[b]? = some (.cells (p.cells d).toArray 61 (0, 0))) (room : e.l < 1099511627776)
    (hK : ∀ e' h', e'.l = e.l + 1 → LentAt h0 h' e' (ps ++ [p]) (es ++ [d]) → Keep (fun k => e.a = some ⟨k, 0, none⟩ ∨ h.size ≤ k) h h' → (∀ k, e'.a = some ⟨k, 0, none⟩ → e.a = some ⟨k, 0, none⟩ ∨ h.size ≤ k) → K e'.a e'.l e'.c h') : appK Tryd.prog 61 h e.a e.l e.c (.slice (some (at0 b)) 1 1) K := by
  refine appK_R (new := [p.cells d]) (m := 1) size61 t.rows (srcK_slice rfl (fun ad e => by cases e; exact cells_blk0 hb) (by rintro ⟨⟩)) rfl (by intro r hr; simp at hr; subst hr; rfl) (by intro r hr; simp at hr; subst hr; exact pack_one p d) (by rw [bytes61]; omega) z61 fun a' c' h' o' k' d' => hK ⟨a', e.l + 1, c'⟩ h' rfl ⟨by simp [t.len], ?_, fun i q x hq hx => ?_⟩ k' d'
  · have : List.zipWith PackV.cells (ps ++ [p]) (es ++ [d]) = List.zipWith PackV.cells ps es ++ [p.cells d] := by
      rw [List.zipWith_append t.len.symm]; rfl
    rw [this]; exact o'
  · have hlen := t.len
    by_cases hi : i < ps.length
    · rw [List.getElem?_append_left (by omega)] at hq hx
      exact t.refs i q x hq hx
    · have hi2 := (List.getElem?_eq_some_iff.1 hq).1
      simp at hi2
      rw [List.getElem?_append_right (by omega), show i - ps.length = 0 by omega] at hq
      rw [List.getElem?_append_right (by omega), show i - es.length = 0 by omega] at hx
      simp at hq hx
      subst hq; subst hx
      exact hd
def RefDoR (h0 : Heap) (res : List PackV × Nat) : Value → Heap → Prop := fun v h' => ∃ a l c ds, v = .tuple #[.slice a l c, .int .i64 res.2] ∧ PacksAt h' a l c res.1 ds ∧ Ext h0 h'
theorem take_erase {ps : List PackV} {k i : Nat} {p : PackV} (hk : k < i) (hp : ps[i]? = some p) : (ps.take (i + 1)).eraseIdx k = (ps.take i).eraseIdx k ++ [p] := by
  have hi := (List.getElem?_eq_some_iff.1 hp).1
  rw [takeR_succ hp, List.eraseIdx_append_of_lt_length (by rw [List.length_take]; omega)]
theorem take_set {ps : List PackV} {k i : Nat} {p q : PackV} (hk : k < i) (hp : ps[i]? = some p) : (ps.take (i + 1)).set k q = (ps.take i).set k q ++ [p] := by
  have hi := (List.getElem?_eq_some_iff.1 hp).1
  rw [takeR_succ hp, List.set_append_left _ _ (by rw [List.length_take]; omega)]
theorem opC_kind {o : OpV} (h : opC o = 0) : 1 ≤ o.kind ∧ o.kind ≤ 3 := by
  unfold opC at h
  split at h
  · cases h
  · omega
/-- how a run over the packages stands -/
def RunSt (ps : List PackV) (owner : Int) (o : OpV) (i : Nat) (there : Bool) (out : List PackV) : Prop :=
  (there = false ∧ out = ps.take i ∧ ∀ q ∈ ps.take i, lst q.name ≠ lst o.name) ∨
  (there = true ∧ ∃ k p, atN (lst o.name) ps 0 = some (k, p) ∧ k < i ∧ o.kind ≠ 1 ∧ p.owner = owner ∧ ((o.kind = 3 ∧ out = (ps.take i).eraseIdx k) ∨ (o.kind ≠ 3 ∧ ¬ orderC (lst o.ver) (lst p.ver) ≤ 0 ∧ out = (ps.take i).set k (layV owner o))))
theorem run_next {ps : List PackV} {owner : Int} {o : OpV} {i : Nat} {there : Bool} {out : List PackV} {p : PackV} (h : RunSt ps owner o i there out) (hp : ps[i]? = some p) (hne : lst p.name ≠ lst o.name) : RunSt ps owner o (i + 1) there (out ++ [p]) := by
  rcases h with ⟨e, rfl, hn⟩ | ⟨e, k, q, h1, h2, h3, h4, h5⟩
  · refine .inl ⟨e, (takeR_succ hp).symm, fun r hr => ?_⟩
    rw [takeR_succ hp] at hr
    rcases List.mem_append.1 hr with hr | hr
    · exact hn r hr
    · simp at hr; subst hr; exact hne
  · refine .inr ⟨e, k, q, h1, by omega, h3, h4, ?_⟩
    rcases h5 with ⟨g1, rfl⟩ | ⟨g1, g2, rfl⟩
    · exact .inl ⟨g1, (take_erase h2 hp).symm⟩
    · exact .inr ⟨g1, g2, (take_set h2 hp).symm⟩
/-- the one of the name comes once -/
theorem run_here {ps : List PackV} {owner : Int} {o : OpV} {i : Nat} {there : Bool} {out : List PackV} {p : PackV} (h : RunSt ps owner o i there out) (hnd : (ps.map fun p => lst p.name).Nodup) (hp : ps[i]? = some p) (he : lst p.name = lst o.name) : there = false ∧ out = ps.take i ∧ atN (lst o.name) ps 0 = some (i, p) := by
  rcases h with ⟨e, rfl, hn⟩ | ⟨e, k, q, h1, h2, h3, h4, h5⟩
  · refine ⟨e, rfl, ?_⟩
    have := atN_at (k := 0) hn hp he
    rwa [Nat.zero_add] at this
  · obtain ⟨j, e1, hq, hqn, _⟩ := atN_some h1
    have := names_ne hnd hp hq (he.trans hqn.symm)
    omega
theorem erase_last {ps : List PackV} {i : Nat} {p : PackV} (hp : ps[i]? = some p) : (ps.take (i + 1)).eraseIdx i = ps.take i := by
  have hi := (List.getElem?_eq_some_iff.1 hp).1
  rw [takeR_succ hp, List.eraseIdx_append_of_length_le (by rw [List.length_take]; omega), List.length_take, show i - min i ps.length = 0 by omega]
  simp
theorem set_last {ps : List PackV} {i : Nat} {p q : PackV} (hp : ps[i]? = some p) : (ps.take (i + 1)).set i q = ps.take i ++ [q] := by
  have hi := (List.getElem?_eq_some_iff.1 hp).1
  rw [takeR_succ hp, List.set_append_right _ _ (by rw [List.length_take]; omega), List.length_take, show i - min i ps.length = 0 by omega]
  simp
theorem refDo_ok (a : Option Addr) (l c : Nat) (ps : List PackV) (ds : List Hdr) (owner : Int) (o : OpV) (dd : Hdr) (h : Heap) (hp : PacksAt h a l c ps ds) (hr : RefsAt h dd.a dd.l dd.c o.refs) (hn : o.name.size < 9223372036854775808) (hv : o.ver.size < 9223372036854775808)
    (hl : l < 1099511627776) :
    HEnt Tryd.prog 12 #[.slice a l c, .int .i64 owner, .agg (opA o dd)] h (RefDoR h (doC ps owner o)) := by
  have hlen := hp.length
  refine F12_ent _ _ _ _ _ _ _ _ _ _ _ _ _ ?_
  unfold F12
  refine newK_intro fun h1 hb1 x1 z1 => ?_
  have cl : ∀ {h' : Heap} (i : Nat) (v : Value), (opA o dd)[i]? = some v → Ext h1 h' → Vc.cell h' ((at0 h.size).add i) = some v := fun i v hv x => by rw [at_cell (x.blk hb1)]; exact hv
  have bad : ∀ {h' : Heap} (n : Nat), Ext h h' → doC ps owner o = ([], n) → RefDoR h (doC ps owner o) (.tuple #[.slice none 0 0, .int .i64 n]) h' := fun n x e => ⟨none, 0, 0, [], by rw [e], by rw [e]; exact (LentAt.nil x).packs (by simp), x⟩
  refine ⟨_, _, _, _, _, _, _, cl 0 _ rfl (Ext.refl _), cl 1 _ rfl (Ext.refl _), cl 2 _ rfl (Ext.refl _), cl 3 _ rfl (Ext.refl _), cl 4 _ rfl (Ext.refl _), rfl, HEnt.use (refCheck_ok o dd h1 (hr.grow x1) hn hv) ?_⟩
  rintro _ h2 ⟨rfl, x2⟩
  have x02 := x1.trans x2
  refine ⟨_, rfl, br_of (fun g => ?_) (fun g => ?_)⟩
  · have g' : opC o ≠ 0 := by simp at g; omega
    exact bad _ x02 (by unfold doC; rw [if_pos g'])
  have g1 : ¬ opC o ≠ 0 := by simp at g; omega
  unfold F12_k1
  refine HEnt.use (refPacks_ok a l c ps ds h2 (hp.grow x02) (by omega)) ?_
  rintro _ h3 ⟨rfl, x3⟩
  have x03 := x02.trans x3
  refine ⟨_, rfl, br_of (fun g => ?_) (fun g => ?_)⟩
  · have g' : packsC [] 0 ps ≠ 0 := by simp at g; omega
    exact bad _ x03 (by unfold doC; rw [if_neg g1, if_pos g'])
  have g2 : ¬ packsC [] 0 ps ≠ 0 := by simp at g; omega
  have g2' : packsC [] 0 ps = 0 := by omega
  have hnd := (packsC_names ps g2').1
  have hkind := opC_kind (by omega : opC o = 0)
  have k3 : ∀ b, (b = true ↔ (owner < 1 ∨ owner > 8)) → F12_k3 a l c owner (at0 h.size) b h3 (RefDoR h (doC ps owner o)) := by
    intro b hb
    unfold F12_k3
    refine br_of (fun e => bad 2 x03 (by unfold doC; rw [if_neg g1, if_neg g2, if_pos (hb.1 e)])) (fun e => ?_)
    have g3 : ¬ (owner < 1 ∨ owner > 8) := fun hh => by rw [hb.2 hh] at e; cases e
    have hdoc : doC ps owner o = match atN (lst o.name) ps 0 with
      | none => if o.kind = 1 then chkC (ps ++ [layV owner o]) else ([], 9)
      | some (k, p) => if o.kind = 1 then ([], 8) else if p.owner ≠ owner then ([], 16) else if o.kind = 3 then (ps.eraseIdx k, 0) else if orderC (lst o.ver) (lst p.ver) ≤ 0 then ([], 14) else chkC (ps.set k (layV owner o)) := by
      unfold doC; rw [if_neg g1, if_neg g2, if_neg g3]; rfl
    unfold F12_k4
    have x13 := x2.trans x3
    refine ⟨_, cl 2 _ rfl x13, _, cl 3 _ rfl x13, _, _, _, cl 4 _ rfl x13, rfl, newK_intro fun h4 hb4 x4 z4 => ?_⟩
    refine storeK_whole (vs := ((layV owner o).cells dd).toArray) hb4 rfl zsize61 (pack_one (layV owner o) dd) fun h5 hb5 o5 => ?_
    have x05 : Ext h h5 := Keep.since (x03.trans x4) (o5.keep rfl : Keep (· = h3.size) h4 h5) fun j hj e => by have := x03.size; omega
    have x15 : Ext h1 h5 := Keep.since (x13.trans x4) (o5.keep rfl : Keep (· = h3.size) h4 h5) fun j hj e => by have := x13.size; omega
    have z13 := x13.size
    -- the end of those that are checked
    have fin : ∀ {h' : Heap} (e' : Hdr) (ps' : List PackV) (es' : List Hdr), LentAt h h' e' ps' es' → (∀ p ∈ ps', p.ok) → e'.l ≤ 1099511627777 → (packsC [] 0 ps' = 0 → doC ps owner o = (ps', 0)) → (packsC [] 0 ps' ≠ 0 → doC ps owner o = ([], packsC [] 0 ps')) → F12_k13 e'.a e'.l e'.c h' (RefDoR h (doC ps owner o)) := by
      intro h' e' ps' es' t' ok' hl' hd1 hd2
      unfold F12_k13
      refine HEnt.use (refPacks_ok e'.a e'.l e'.c ps' es' h' (t'.packs ok') (by omega)) ?_
      rintro _ h7 ⟨rfl, x7⟩
      refine ⟨_, rfl, br_of (fun g => ?_) (fun g => ?_)⟩
      · have g' : packsC [] 0 ps' ≠ 0 := by simp at g; omega
        exact bad _ (t'.rows.ext.trans x7) (hd2 g')
      · have g' : packsC [] 0 ps' = 0 := by simp at g; omega
        unfold F12_k14
        rw [hd1 g']
        exact ⟨e'.a, e'.l, e'.c, es', rfl, (t'.grow x7).packs ok', t'.rows.ext.trans x7⟩
    refine ⟨fun a11 l11 c11 b12 x13 hh => ∃ (i : Nat) (out : List PackV) (os : List Hdr), x13 = i ∧ i ≤ l ∧ LentAt h hh ⟨a11, l11, c11⟩ out os ∧ (∀ p ∈ out, p.ok) ∧ l11 ≤ i ∧ RunSt ps owner o i b12 out ∧ hh[h3.size]? = some (.cells ((layV owner o).cells dd).toArray 61 (0, 0)) ∧ hh[h.size]? = some (.cells (opA o dd) 25 (0, 0)) ∧ (∀ k, a11 = some ⟨k, 0, none⟩ → k ≠ h3.size),
      fun _ _ _ _ x _ => ((l : Int) - x).toNat, ⟨0, [], [], rfl, by omega, LentAt.nil x05, by simp, by omega, .inl ⟨rfl, rfl, by simp⟩, hb5, x15.blk hb1, by rintro k ⟨⟩⟩, ?_⟩
    rintro h6 a11 l11 c11 b12 _ ⟨i, out, os, rfl, hi, t, oks, hle, hst, hb6, hop, hne⟩
    have x06 : Ext h h6 := t.rows.ext
    have cl6 : ∀ (j : Nat) (v : Value), (opA o dd)[j]? = some v → Vc.cell h6 ((at0 h.size).add j) = some v := fun j v hv => by rw [at_cell hop]; exact hv
    unfold F12_b5
    -- one more of them
    have more : ∀ {h' : Heap} (p : PackV) (d : Hdr) (there : Bool), h'[h6.size]? = some (.cells (p.cells d).toArray 61 (0, 0)) → Ext h6 h' → RefsAt h d.a d.l d.c p.refs → p.ok → i < l → RunSt ps owner o (i + 1) there (out ++ [p]) →
        appK Tryd.prog 61 h' a11 l11 c11 (.slice (some (at0 h6.size)) 1 1) fun a' l' c' h'' => F12_k7 (fun a11 l11 c11 b12 x13 hh => ∃ (i : Nat) (out : List PackV) (os : List Hdr), x13 = i ∧ i ≤ l ∧ LentAt h hh ⟨a11, l11, c11⟩ out os ∧ (∀ p ∈ out, p.ok) ∧ l11 ≤ i ∧ RunSt ps owner o i b12 out ∧ hh[h3.size]? = some (.cells ((layV owner o).cells dd).toArray 61 (0, 0)) ∧ hh[h.size]? = some (.cells (opA o dd) 25 (0, 0)) ∧ (∀ k, a11 = some ⟨k, 0, none⟩ → k ≠ h3.size)) (fun _ _ _ _ x _ => ((l : Int) - x).toNat) ((l : Int) - (i : Int)).toNat a l c owner (at0 h.size) (at0 h3.size) a' l' c' there i h'' (RefDoR h (doC ps owner o)) := by
      intro h' p d there hb x' hrd hok hil hs
      have b1 := blk_lt hb6
      have b2 := blk_lt hop
      have zx := x'.size
      refine (t.grow x').app (e := ⟨a11, l11, c11⟩) (p := p) (d := d) hrd hb (by show l11 < _; omega) fun e' h'' hl' t' k' d' => ?_
      have hl' : e'.l = l11 + 1 := hl'
      unfold F12_k7
      rw [wrap_succ i l hil (by omega)]
      refine ⟨⟨i + 1, out ++ [p], os ++ [d], rfl, by omega, t', fun r hr => ?_, by omega, hs, k'.blk (x'.blk hb6) ?_, k'.blk (x'.blk hop) ?_, fun k e e2 => ?_⟩, less_succ i l hil⟩
      · rcases List.mem_append.1 hr with hr | hr
        · exact oks r hr
        · simp at hr; subst hr; exact hok
      · rintro (e | e)
        · exact hne _ e rfl
        · omega
      · rintro (e | e)
        · have := (own_type t.rows e).2.2 _ _ hop; exact absurd this (by decide)
        · omega
      · subst e2
        rcases d' _ e with e3 | e3
        · exact hne _ e3 rfl
        · omega
    refine br_of (fun gi => ?_) (fun gi => ?_)
    · have hil : i < l := by
        have : (i : Int) < (l : Int) := by simpa using gi
        omega
      obtain ⟨q, p, d, hpi, hdi, ea, pok, _, q0, q1, q2, q3⟩ := (hp.grow x06).get hil
      have hrd := hp.refs i p d hpi hdi
      unfold F12_k6
      refine ⟨q, ea, by omega, by omega, p.name, by rw [hadd2, Int.toNat_natCast]; exact q1, o.name, cl6 2 _ rfl, fun h' c' => ?_⟩
      obtain rfl := c'.eq
      rw [seq_names]
      refine br_of (fun g => ?_) (fun g => ?_)
      · have g' : lst p.name ≠ lst o.name := by simpa using g
        refine ⟨q, ea, by omega, by omega, p.owner, p.name, p.ver, d.a, d.l, d.c, by rw [Int.toNat_natCast]; exact q0, by rw [Int.toNat_natCast]; exact q1, by rw [Int.toNat_natCast]; exact q2, by rw [Int.toNat_natCast]; exact q3, rfl, rfl, by decide, newK_intro fun h7 hb7 x7 _ => ?_⟩
        exact more p d b12 hb7 x7 hrd pok hil (run_next hst hpi g')
      have g' : lst p.name = lst o.name := by simpa using g
      obtain ⟨rfl, rfl, hat⟩ := run_here hst hnd hpi g'
      rw [hat] at hdoc
      simp only at hdoc
      unfold F12_k8
      refine ⟨_, cl6 0 _ rfl, br_of (fun g => ?_) (fun g => ?_)⟩
      · have gk : o.kind = 1 := by simpa using g
        exact bad 8 x06 (by rw [hdoc]; exact if_pos gk)
      have gk : ¬ o.kind = 1 := by simpa using g
      rw [if_neg gk] at hdoc
      unfold F12_k9
      refine ⟨q, ea, by omega, by omega, p.owner, by rw [Int.toNat_natCast]; exact q0, br_of (fun g => ?_) (fun g => ?_)⟩
      · have g4 : p.owner ≠ owner := by simpa using g
        exact bad 16 x06 (by rw [hdoc]; exact if_pos g4)
      have g4 : p.owner = owner := by simpa using g
      rw [if_neg (fun e => e g4)] at hdoc
      unfold F12_k10
      refine ⟨_, cl6 0 _ rfl, br_of (fun g => ?_) (fun g => ?_)⟩
      · have gk2 : o.kind = 2 := by simpa using g
        have gk3 : ¬ o.kind = 3 := by omega
        rw [if_neg gk3] at hdoc
        have hman := opC_man (by omega : opC o = 0) gk3
        have hov := name_size (manC_pos hman).2.2.2
        have hpv := name_size (manC_pos (packsC_mem ps g2' p (List.mem_of_getElem? hpi))).2.2.2
        refine ⟨_, cl6 3 _ rfl, q, ea, by omega, by omega, p.ver, by rw [hadd2, Int.toNat_natCast]; exact q2, orderC (lst o.ver) (lst p.ver), fun h' c' => ?_, fun h' c' => ?_⟩
        · exact (Ord.refOrder_ok o.ver p.ver (by omega) (by omega) h').mono fun v h'' ⟨e1, e2⟩ => ⟨e1, e2⟩
        · have x' : Ext _ h' := c'.ext
          refine br_of (fun g => ?_) (fun g => ?_)
          · have g5 : orderC (lst o.ver) (lst p.ver) ≤ 0 := by simpa using g
            exact bad 14 (x06.trans x') (by rw [hdoc]; exact if_pos g5)
          have g5 : ¬ orderC (lst o.ver) (lst p.ver) ≤ 0 := by simpa using g
          unfold F12_k11
          have hb7 := x'.blk hb6
          refine ⟨owner, o.name, o.ver, dd.a, dd.l, dd.c, by rw [at_cell hb7]; rfl, by rw [at_cell hb7]; rfl, by rw [at_cell hb7]; rfl, by rw [at_cell hb7]; rfl, rfl, rfl, by decide, newK_intro fun h8 hb8 x8 _ => ?_⟩
          have b1 := blk_lt hb7
          have b2 := blk_lt (x'.blk hop)
          have zx := x'.size
          have z8 := x8.size
          refine (t.grow (x'.trans x8)).app (e := ⟨a11, l11, c11⟩) (p := layV owner o) (d := dd) hr hb8 (by show l11 < _; omega) fun e' h'' hl' t' k' d' => ?_
          have hl' : e'.l = l11 + 1 := hl'
          unfold F12_k7
          rw [wrap_succ i l hil (by omega)]
          refine ⟨⟨i + 1, _, os ++ [dd], rfl, by omega, t', fun r hr => ?_, by omega, .inr ⟨rfl, i, p, hat, by omega, gk, g4, .inr ⟨gk3, g5, (set_last hpi).symm⟩⟩, k'.blk (x8.blk hb7) ?_, k'.blk (x8.blk (x'.blk hop)) ?_, fun k e e2 => ?_⟩, less_succ i l hil⟩
          · rcases List.mem_append.1 hr with hr | hr
            · exact oks r hr
            · simp at hr; subst hr; exact ⟨hn, hv⟩
          · rintro (e | e)
            · exact hne _ e rfl
            · omega
          · rintro (e | e)
            · have := (own_type t.rows e).2.2 _ _ hop; exact absurd this (by decide)
            · omega
          · subst e2
            rcases d' _ e with e3 | e3
            · exact hne _ e3 rfl
            · omega
      · have gk2 : ¬ o.kind = 2 := by simpa using g
        have gk3 : o.kind = 3 := by omega
        unfold F12_k7
        rw [wrap_succ i l hil (by omega)]
        exact ⟨⟨i + 1, _, os, rfl, by omega, t, oks, by omega, .inr ⟨rfl, i, p, hat, by omega, gk, g4, .inl ⟨gk3, (erase_last hpi).symm⟩⟩, hb6, hop, hne⟩, less_succ i l hil⟩
    · have hil : i = l := by
        have : ¬ (i : Int) < (l : Int) := by simpa using gi
        omega
      subst hil
      unfold F12_k12
      refine ⟨_, cl6 0 _ rfl, br_of (fun g => ?_) (fun g => ?_)⟩
      · have gk : o.kind = 1 := by simpa using g
        rcases hst with ⟨_, rfl, hno⟩ | ⟨_, k, p, _, _, hk1, _⟩
        · rw [List.take_of_length_le (by omega)] at hno t oks
          rw [atN_no hno] at hdoc
          simp only at hdoc
          rw [if_pos gk] at hdoc
          refine ⟨owner, o.name, o.ver, dd.a, dd.l, dd.c, by rw [at_cell hb6]; rfl, by rw [at_cell hb6]; rfl, by rw [at_cell hb6]; rfl, by rw [at_cell hb6]; rfl, rfl, rfl, by decide, newK_intro fun h7 hb7 x7 _ => ?_⟩
          refine (t.grow x7).app (e := ⟨a11, l11, c11⟩) (p := layV owner o) (d := dd) hr hb7 (by show l11 < _; omega) fun e' h'' hl' t' k' d' => ?_
          have hl' : e'.l = l11 + 1 := hl'
          refine fin e' _ _ t' (fun r hr => ?_) (by omega) (fun e => by rw [hdoc, chkC_good e]) (fun e => by rw [hdoc, chkC_bad e])
          rcases List.mem_append.1 hr with hr | hr
          · exact oks r hr
          · simp at hr; subst hr; exact ⟨hn, hv⟩
        · exact absurd gk hk1
      · have gk : ¬ o.kind = 1 := by simpa using g
        rcases hst with ⟨rfl, rfl, hno⟩ | ⟨rfl, k, p, hat, hki, _, g4, hout⟩
        · rw [List.take_of_length_le (by omega)] at hno
          rw [atN_no hno] at hdoc
          simp only at hdoc
          rw [if_neg gk] at hdoc
          exact br_of (fun _ => bad 9 x06 hdoc) (fun e => by cases e)
        · rw [hat] at hdoc
          simp only at hdoc
          rw [if_neg gk, if_neg (fun e => e g4)] at hdoc
          refine br_of (fun e => by cases e) (fun _ => ?_)
          rcases hout with ⟨gk3, rfl⟩ | ⟨gk3, g5, rfl⟩
          · rw [List.take_of_length_le (by omega)] at t oks
            rw [if_pos gk3] at hdoc
            exact fin ⟨a11, l11, c11⟩ _ _ t oks (by show l11 ≤ _; omega) (fun _ => hdoc) (fun e => absurd (packsC_erase ps k g2') e)
          · rw [List.take_of_length_le (by omega)] at t oks
            rw [if_neg gk3, if_neg g5] at hdoc
            exact fin ⟨a11, l11, c11⟩ _ _ t oks (by show l11 ≤ _; omega) (fun e => by rw [hdoc, chkC_good e]) (fun e => by rw [hdoc, chkC_bad e])
  unfold F12_k2
  refine br_of (fun g => k3 _ ?_) (fun g => k3 _ ?_)
  · have g' : owner < 1 := by simpa using g
    exact ⟨fun _ => .inl g', fun _ => rfl⟩
  · have g' : ¬ owner < 1 := by simpa using g
    simp only [decide_eq_true_eq]; omega
end Go.Proofs.YtfknpbgneeefjaaDoor

namespace Go.Proofs.YtfknpbgneeefjaaDoor
open Go.Vc Go.Sha Go.Trail Go.Packs Go.Plan Go.Man
set_option linter.unusedVariables false
set_option linter.unusedSimpArgs false
set_option maxRecDepth 20000
theorem cutAt0 (c n : Nat) (a : Option Addr) : cutAt c 0 n a = a := by
  unfold cutAt
  split
  · rfl
  · cases a with
    | none => rfl
    | some q => rw [Option.map_some, Nat.zero_mul]; unfold Addr.add; simp
def fewPack (p : PackV) : PackV := { p with refs := p.refs.take 20 }
def fewPacks (ps : List PackV) : List PackV := (ps.take 20).map fewPack
def OpV.cells (o : OpV) (d : Hdr) : List Value := [.int .i64 o.kind, .int .i64 o.root, .string o.name, .string o.ver, .slice d.a d.l d.c]
def OpV.ok (o : OpV) : Prop := o.name.size < 9223372036854775808 ∧ o.ver.size < 9223372036854775808
theorem op_one (o : OpV) (d : Hdr) : ∀ u ∈ OpV.cells o d, one u = true := by
  intro u hu
  simp only [OpV.cells, List.mem_cons, List.not_mem_nil, or_false] at hu
  rcases hu with rfl | rfl | rfl | rfl | rfl <;> rfl
theorem size25 : Tryd.prog.cellsOf 25 = 5 := by kernel_rfl
theorem bytes25 : Tryd.prog.bytesOf 25 = 72 := by kernel_rfl
theorem z25 : (((Tryd.prog.info? 25).bind (·.zero)).getD undef).cells.size = 5 := by kernel_rfl
theorem zsize25 : (zeroC Tryd.prog 25).size = 5 := by kernel_rfl
def fewOp (o : OpV) : OpV := { o with refs := o.refs.take 20 }
def fewOps (os : List OpV) : List OpV := (os.take 12).map fewOp
structure OpsAt (h : Heap) (a : Option Addr) (l c : Nat) (os : List OpV) (ds : List Hdr) : Prop where
  len : ds.length = os.length
  rows : Tab 5 h a l c (List.zipWith OpV.cells os ds)
  refs : ∀ (i : Nat) (o : OpV) (d : Hdr), os[i]? = some o → ds[i]? = some d → RefsAt h d.a d.l d.c o.refs
  ok : ∀ o ∈ os, OpV.ok o
theorem OpsAt.grow {h h' : Heap} {a : Option Addr} {l c : Nat} {os : List OpV} {ds : List Hdr} (p : OpsAt h a l c os ds) (x : Ext h h') : OpsAt h' a l c os ds :=
  ⟨p.len, p.rows.grow x, fun i q d hi hd => (p.refs i q d hi hd).grow x, p.ok⟩
theorem OpsAt.length {h : Heap} {a : Option Addr} {l c : Nat} {os : List OpV} {ds : List Hdr} (p : OpsAt h a l c os ds) : os.length = l := by
  have := p.rows.len
  rw [List.length_zipWith, p.len, Nat.min_self] at this; exact this
theorem OpsAt.get {h : Heap} {a : Option Addr} {l c : Nat} {os : List OpV} {ds : List Hdr} (p : OpsAt h a l c os ds) {i : Nat} (hi : i < l) :
    ∃ q x d, os[i]? = some x ∧ ds[i]? = some d ∧ a = some q ∧ OpV.ok x ∧ RefsAt h d.a d.l d.c x.refs ∧ ∀ j v, (OpV.cells x d)[j]? = some v → cell h ((q.add (i * 5)).add j) = some v := by
  have hl := p.length
  have h1 : os[i]? = some (os[i]'(by omega)) := List.getElem?_eq_getElem (by omega)
  have h2 : ds[i]? = some (ds[i]'(by have := p.len; omega)) := List.getElem?_eq_getElem (by have := p.len; omega)
  generalize os[i]'(by omega) = x at *
  generalize ds[i]'(by have := p.len; omega) = d at *
  have hz : (List.zipWith OpV.cells os ds)[i]? = some (OpV.cells x d) := by rw [List.getElem?_zipWith, h1, h2]
  obtain ⟨q, e, _, hc⟩ := p.rows.get hz
  exact ⟨q, x, d, h1, h2, e, p.ok x (List.mem_of_getElem? h1), p.refs i x d h1 h2, hc⟩
structure OpTwin (h0 h : Heap) (e : Hdr) (os : List OpV) (es : List Hdr) : Prop where
  len : es.length = os.length
  rows : OwnR 25 5 h0 h e.a e.l e.c (List.zipWith OpV.cells os es)
  refs : ∀ (i : Nat) (o : OpV) (d : Hdr), os[i]? = some o → es[i]? = some d → OwnR 75 33 h0 h d.a d.l d.c (o.refs.map RefV.cells)
theorem OpTwin.grow {h0 h h' : Heap} {e : Hdr} {os : List OpV} {es : List Hdr} (t : OpTwin h0 h e os es) (x : Ext h h') : OpTwin h0 h' e os es :=
  ⟨t.len, t.rows.grow x, fun i p d hp hd => (t.refs i p d hp hd).grow x⟩
theorem OpTwin.length {h0 h : Heap} {e : Hdr} {os : List OpV} {es : List Hdr} (t : OpTwin h0 h e os es) : os.length = e.l := by
  have := t.rows.len
  rw [List.length_zipWith, t.len, Nat.min_self] at this; exact this
theorem OpTwin.ops {h0 h : Heap} {e : Hdr} {os : List OpV} {es : List Hdr} (t : OpTwin h0 h e os es) (ok : ∀ o ∈ os, OpV.ok o ∧ ∀ r ∈ o.refs, r.ok) : OpsAt h e.a e.l e.c os es :=
  ⟨t.len, t.rows.rows, fun i p d hp hd => ⟨(t.refs i p d hp hd).rows, (ok p (List.mem_of_getElem? hp)).2⟩, fun p hp => (ok p hp).1⟩
theorem OpTwin.app {h0 h : Heap} {e d : Hdr} {os : List OpV} {es : List Hdr} {o : OpV} {b : Nat} {K : Option Addr → Nat → Nat → Heap → Prop} (t : OpTwin h0 h e os es) (hd : OwnR 75 33 h0 h d.a d.l d.c (o.refs.map RefV.cells)) (hb : h[b]? = some (.cells (OpV.cells o d).toArray 25 (0, 0))) (room : e.l < 1099511627776)
    (hK : ∀ e' h', e'.l = e.l + 1 → OpTwin h0 h' e' (os ++ [o]) (es ++ [d]) → K e'.a e'.l e'.c h') : appK Tryd.prog 25 h e.a e.l e.c (.slice (some (at0 b)) 1 1) K := by
  refine appK_R (new := [OpV.cells o d]) (m := 1) size25 t.rows (srcK_slice rfl (fun ad e => by cases e; exact cells_blk0 hb) (by rintro ⟨⟩)) rfl (by intro r hr; simp at hr; subst hr; rfl) (by intro r hr; simp at hr; subst hr; exact op_one o d) (by rw [bytes25]; omega) z25 fun a' c' h' o' k' _ => hK ⟨a', e.l + 1, c'⟩ h' rfl ⟨by simp [t.len], ?_, fun i q x hq hx => ?_⟩
  · have : List.zipWith OpV.cells (os ++ [o]) (es ++ [d]) = List.zipWith OpV.cells os es ++ [OpV.cells o d] := by
      rw [List.zipWith_append t.len.symm]; rfl
    rw [this]; exact o'
  · have keepR : ∀ {a : Option Addr} {l c : Nat} {rows : List (List Value)}, OwnR 75 33 h0 h a l c rows → OwnR 75 33 h0 h' a l c rows := fun o => by
      refine o.keepT k' (fun k hk e => ?_) (fun k cs g e => ?_)
      · rcases e with e | e
        · have := (own_type t.rows e).1; omega
        · have := t.rows.ext.size; omega
      · rcases e with e | e
        · exact absurd ((own_type t.rows e).2.2 _ _ g) (by decide)
        · have := blk_lt g; omega
    have hlen := t.len
    by_cases hi : i < os.length
    · rw [List.getElem?_append_left (by omega)] at hq hx
      exact keepR (t.refs i q x hq hx)
    · have hi2 := (List.getElem?_eq_some_iff.1 hq).1
      simp at hi2
      rw [List.getElem?_append_right (by omega), show i - os.length = 0 by omega] at hq
      rw [List.getElem?_append_right (by omega), show i - es.length = 0 by omega] at hx
      simp at hq hx
      subst hq; subst hx
      exact keepR hd
/-- layers taken over into memory of one's own -/
theorem own_refs {h0 h1 : Heap} {b : Nat} {a : Option Addr} {l c : Nat} {rs : List RefV} {K : Option Addr → Nat → Nat → Heap → Prop} (n1 : h1[b]? = some (.cells #[] 75 (0, 0))) (hx : Ext h0 h1) (hb : h0.size ≤ b) (hr : RefsAt h1 a l c rs) (hl : l ≤ 20)
    (hK : ∀ a' c' h', OwnR 75 33 h0 h' a' l c' (rs.map RefV.cells) → Keep (fun k => k = b ∨ h1.size ≤ k) h1 h' → K a' l c' h') : appK Tryd.prog 75 h1 (some (at0 b)) 0 0 (.slice a l c) K := by
  refine appK_R (rows := []) (new := rs.map RefV.cells) size75 (OwnR.new_ n1 hx hb (by simp) rfl) hr.rows.src hr.rows.len hr.rows.row (fun r hr => by obtain ⟨y, _, rfl⟩ := List.mem_map.1 hr; exact cells_one y) (by rw [bytes75]; omega) z75 fun a' c' h' o' k' _ => ?_
  rw [Nat.zero_add] at o' ⊢
  refine hK a' c' h' o' (k'.mono fun k _ e => ?_)
  rcases e with e | e
  · cases e; exact .inl rfl
  · exact .inr e
theorem RefsAt.cut {h : Heap} {a : Option Addr} {l c : Nat} {rs : List RefV} (hr : RefsAt h a l c rs) (k : Nat) (hk : k ≤ l) : RefsAt h a k c (rs.take k) :=
  ⟨by rw [List.map_take]; exact hr.rows.take k hk, fun r h => hr.ok r (List.mem_of_mem_take h)⟩
theorem packsOf_ok (a : Option Addr) (l c : Nat) (ps : List PackV) (ds : List Hdr) (h : Heap) (hp : PacksAt h a l c ps ds) (hl : l < 9223372036854775808) :
    HEnt Tryd.prog 9 #[.slice a l c] h fun v h' => ∃ e es, v = .slice e.a e.l e.c ∧ TwinAt h h' e (fewPacks ps) es := by
  have hlen := hp.length
  refine F9_ent _ _ _ _ _ ?_
  unfold F9
  rintro _ rfl
  refine ⟨fun a3 l3 c3 x hh => ∃ (i : Nat) (es : List Hdr), x = i ∧ i ≤ l ∧ i ≤ 20 ∧ l3 = i ∧ TwinAt h hh ⟨a3, l3, c3⟩ ((ps.take i).map fewPack) es, fun _ _ _ x _ => ((l : Int) - x).toNat, ⟨0, [], rfl, by omega, by omega, rfl, TwinAt.nil (Ext.refl h)⟩, ?_⟩
  rintro h1 a3 i c3 _ ⟨_, es, rfl, hi, hi20, rfl, t⟩
  have done : (i = l ∨ i = 20) → F9_k6 a3 i c3 h1 fun v h' => ∃ e es, v = .slice e.a e.l e.c ∧ TwinAt h h' e (fewPacks ps) es := by
    intro hd
    unfold F9_k6
    refine ⟨⟨a3, i, c3⟩, es, rfl, ?_⟩
    have : fewPacks ps = (ps.take i).map fewPack := by
      unfold fewPacks
      rcases hd with rfl | rfl
      · rw [List.take_of_length_le (by omega), List.take_of_length_le (by omega)]
      · rfl
    rw [this]; exact t
  unfold F9_b1
  refine br_of (fun g => ?_) (fun g => ?_)
  case refine_2 =>
    have g' : i = l := by
      have : ¬ (i : Int) < (l : Int) := by simpa using g
      omega
    unfold F9_k2
    exact br_of (fun e => by cases e) (fun _ => done (.inl g'))
  have hil : i < l := by
    have : (i : Int) < (l : Int) := by simpa using g
    omega
  unfold F9_k2
  refine br_of (fun g => ?_) (fun g => done (.inr (by
    have : ¬ (i : Int) < 20 := by simpa using g
    omega)))
  have h20 : i < 20 := by
    have : (i : Int) < 20 := by simpa using g
    omega
  have x1 := t.ext
  obtain ⟨q, p, d, hpi, hdi, ea, pok, hr, q0, q1, q2, q3⟩ := (hp.grow x1).get hil
  unfold F9_k3
  refine ⟨q, ea, by omega, by omega, p.owner, p.name, p.ver, d.a, d.l, d.c, by rw [Int.toNat_natCast]; exact q0, by rw [Int.toNat_natCast]; exact q1, by rw [Int.toNat_natCast]; exact q2, by rw [Int.toNat_natCast]; exact q3, rfl, newK_intro fun h2 hb2 x2 _ => ?_⟩
  refine storeK_whole (vs := (p.cells d).toArray) hb2 rfl zsize61 (pack_one p d) fun h3 hb3 o3 => ?_
  have x13 : Ext h1 h3 := Keep.since x2 (o3.keep rfl : Keep (· = h1.size) h2 h3) fun j hj e => by omega
  -- with the layers that are left
  have k4 : ∀ {h' : Heap} (d' : Hdr), Ext h1 h' → h'[h1.size]? = some (.cells (p.cells d').toArray 61 (0, 0)) → RefsAt h1 d'.a d'.l d'.c (p.refs.take 20) → d'.l ≤ 20 → F9_k4 (fun a3 l3 c3 x hh => ∃ (i : Nat) (es : List Hdr), x = i ∧ i ≤ l ∧ i ≤ 20 ∧ l3 = i ∧ TwinAt h hh ⟨a3, l3, c3⟩ ((ps.take i).map fewPack) es) (fun _ _ _ x _ => ((l : Int) - x).toNat) ((l : Int) - (i : Int)).toNat a l c a3 i c3 i (at0 h1.size) h' fun v h' => ∃ e es, v = .slice e.a e.l e.c ∧ TwinAt h h' e (fewPacks ps) es := by
    intro h' d' x' hb' hr' hl'
    unfold F9_k4
    refine ⟨by decide, newK_intro fun h4 n4 x4 z4 => ?_⟩
    have zx := x'.size
    have b1 := blk_lt hb'
    have hb4 := x4.blk hb'
    refine ⟨d'.a, d'.l, d'.c, by rw [add_at0, add_mk, cell_blk hb4]; rfl, ?_⟩
    refine own_refs n4 ((x1.trans x').trans x4) (by have := (x1.trans x').size; omega) (hr'.grow (x'.trans x4)) hl' fun a5 c5 h5 o5 k5 => ?_
    have hb5 := k5.blk hb4 (by omega)
    rw [add_at0, add_mk]
    refine storeK_one hb5 (by simp [PackV.cells]) (.inr (Nat.zero_le _)) rfl fun h6 hb6 o6 => ?_
    have hb6 : h6[h1.size]? = some (.cells (PackV.cells (fewPack p) ⟨a5, d'.l, c5⟩).toArray 61 (0, 0)) := hb6
    have k16 : Keep (fun k => h1.size ≤ k) h1 h6 := ((x'.trans x4).keep _).trans ((k5.mono fun k _ e => by omega).trans (o6.keep (Nat.le_refl _)))
    have x16 : Ext h1 h6 := k16.ext fun k hk e => by omega
    have o6' : OwnR 75 33 h h6 a5 d'.l c5 ((fewPack p).refs.map RefV.cells) := by
      refine o5.keepT (o6.keep (S := (· = h1.size)) rfl) (fun k hk e => by have := x1.size; omega) (fun k cs g e => ?_)
      subst e
      rw [hb5] at g
      injection g with g; injection g with _ g; exact absurd g (by decide)
    refine ⟨p.owner, p.name, p.ver, a5, d'.l, c5, by first | (rw [at_cell hb6]; rfl) | (rw [cell_blk hb6]; rfl), by first | (rw [at_cell hb6]; rfl) | (rw [cell_blk hb6]; rfl), by first | (rw [at_cell hb6]; rfl) | (rw [cell_blk hb6]; rfl), by first | (rw [at_cell hb6]; rfl) | (rw [cell_blk hb6]; rfl), rfl, rfl, by decide, newK_intro fun h7 hb7 x7 z7 => ?_⟩
    refine ((t.grow x16).grow x7).app (e := ⟨a3, i, c3⟩) (p := fewPack p) (d := ⟨a5, d'.l, c5⟩) (o6'.grow x7) hb7 (by show i < _; omega) fun e' h8 hl8 t8 => ?_
    have hl8 : e'.l = i + 1 := hl8
    unfold F9_k5
    rintro _ rfl
    rw [wrap_succ i l hil hl]
    refine ⟨⟨i + 1, es ++ [⟨a5, d'.l, c5⟩], rfl, by omega, by omega, hl8, ?_⟩, less_succ i l hil⟩
    have : (ps.take (i + 1)).map fewPack = (ps.take i).map fewPack ++ [fewPack p] := by rw [takeR_succ hpi, List.map_append]; rfl
    rw [this]
    exact t8
  have hcap := hr.rows.cap
  have hrl := hr.len
  refine ⟨d.a, d.l, d.c, by rw [add_at0, add_mk, cell_blk hb3]; rfl, br_of (fun g => ?_) (fun g => ?_)⟩
  · have g' : 20 < d.l := by
      have : (d.l : Int) > 20 := by simpa using g
      omega
    refine ⟨d.a, d.l, d.c, by rw [add_at0, add_mk, cell_blk hb3]; rfl, by omega, by omega, by omega, ?_⟩
    rw [add_at0, add_mk, cutAt0]
    refine storeK_one hb3 (by simp [PackV.cells]) (.inr (Nat.zero_le _)) rfl fun h4 hb4 o4 => ?_
    exact k4 ⟨d.a, 20, d.c⟩ (Keep.since x13 (o4.keep rfl : Keep (· = h1.size) h3 h4) fun j hj e => by omega) hb4 (RefsAt.cut hr 20 (by omega)) (Nat.le_refl _)
  · have g' : d.l ≤ 20 := by
      have : ¬ (d.l : Int) > 20 := by simpa using g
      omega
    refine k4 d x13 hb3 ?_ g'
    rw [List.take_of_length_le (by omega)]; exact hr
theorem opsOf_ok (a : Option Addr) (l c : Nat) (os : List OpV) (ds : List Hdr) (h : Heap) (hp : OpsAt h a l c os ds) (hl : l < 9223372036854775808) :
    HEnt Tryd.prog 10 #[.slice a l c] h fun v h' => ∃ e es, v = .slice e.a e.l e.c ∧ OpTwin h h' e (fewOps os) es := by
  have hlen := hp.length
  refine F10_ent _ _ _ _ _ ?_
  unfold F10
  rintro _ rfl
  refine ⟨fun a3 l3 c3 x hh => ∃ (i : Nat) (es : List Hdr), x = i ∧ i ≤ l ∧ i ≤ 12 ∧ l3 = i ∧ OpTwin h hh ⟨a3, l3, c3⟩ ((os.take i).map fewOp) es, fun _ _ _ x _ => ((l : Int) - x).toNat, ⟨0, [], rfl, by omega, by omega, rfl, ⟨rfl, OwnR.nil _ _ (Ext.refl h), fun i p d hp _ => by simp at hp⟩⟩, ?_⟩
  rintro h1 a3 i c3 _ ⟨_, es, rfl, hi, hi20, rfl, t⟩
  have done : (i = l ∨ i = 12) → F10_k6 a3 i c3 h1 fun v h' => ∃ e es, v = .slice e.a e.l e.c ∧ OpTwin h h' e (fewOps os) es := by
    intro hd
    unfold F10_k6
    refine ⟨⟨a3, i, c3⟩, es, rfl, ?_⟩
    have : fewOps os = (os.take i).map fewOp := by
      unfold fewOps
      rcases hd with rfl | rfl
      · rw [List.take_of_length_le (by omega), List.take_of_length_le (by omega)]
      · rfl
    rw [this]; exact t
  unfold F10_b1
  refine br_of (fun g => ?_) (fun g => ?_)
  case refine_2 =>
    have g' : i = l := by
      have : ¬ (i : Int) < (l : Int) := by simpa using g
      omega
    unfold F10_k2
    exact br_of (fun e => by cases e) (fun _ => done (.inl g'))
  have hil : i < l := by
    have : (i : Int) < (l : Int) := by simpa using g
    omega
  unfold F10_k2
  refine br_of (fun g => ?_) (fun g => done (.inr (by
    have : ¬ (i : Int) < 12 := by simpa using g
    omega)))
  have h20 : i < 12 := by
    have : (i : Int) < 12 := by simpa using g
    omega
  have x1 : Ext h h1 := t.rows.ext
  obtain ⟨q, p, d, hpi, hdi, ea, pok, hr, qc⟩ := (hp.grow x1).get hil
  unfold F10_k3
  refine ⟨q, ea, by omega, by omega, p.kind, p.root, p.name, p.ver, d.a, d.l, d.c, by rw [Int.toNat_natCast]; exact qc 0 _ rfl, by rw [Int.toNat_natCast]; exact qc 1 _ rfl, by rw [Int.toNat_natCast]; exact qc 2 _ rfl, by rw [Int.toNat_natCast]; exact qc 3 _ rfl, by rw [Int.toNat_natCast]; exact qc 4 _ rfl, rfl, newK_intro fun h2 hb2 x2 _ => ?_⟩
  refine storeK_whole (vs := (OpV.cells p d).toArray) hb2 rfl zsize25 (op_one p d) fun h3 hb3 o3 => ?_
  have x13 : Ext h1 h3 := Keep.since x2 (o3.keep rfl : Keep (· = h1.size) h2 h3) fun j hj e => by omega
  -- with the layers that are left
  have k4 : ∀ {h' : Heap} (d' : Hdr), Ext h1 h' → h'[h1.size]? = some (.cells (OpV.cells p d').toArray 25 (0, 0)) → RefsAt h1 d'.a d'.l d'.c (p.refs.take 20) → d'.l ≤ 20 → F10_k4 (fun a3 l3 c3 x hh => ∃ (i : Nat) (es : List Hdr), x = i ∧ i ≤ l ∧ i ≤ 12 ∧ l3 = i ∧ OpTwin h hh ⟨a3, l3, c3⟩ ((os.take i).map fewOp) es) (fun _ _ _ x _ => ((l : Int) - x).toNat) ((l : Int) - (i : Int)).toNat a l c a3 i c3 i (at0 h1.size) h' fun v h' => ∃ e es, v = .slice e.a e.l e.c ∧ OpTwin h h' e (fewOps os) es := by
    intro h' d' x' hb' hr' hl'
    unfold F10_k4
    refine ⟨by decide, newK_intro fun h4 n4 x4 z4 => ?_⟩
    have zx := x'.size
    have b1 := blk_lt hb'
    have hb4 := x4.blk hb'
    refine ⟨d'.a, d'.l, d'.c, by rw [at_cell hb4]; rfl, ?_⟩
    refine own_refs n4 ((x1.trans x').trans x4) (by have := (x1.trans x').size; omega) (hr'.grow (x'.trans x4)) hl' fun a5 c5 h5 o5 k5 => ?_
    have hb5 := k5.blk hb4 (by omega)
    rw [add_at0]
    refine storeK_one hb5 (by simp [OpV.cells]) (.inr (Nat.zero_le _)) rfl fun h6 hb6 o6 => ?_
    have hb6 : h6[h1.size]? = some (.cells (OpV.cells (fewOp p) ⟨a5, d'.l, c5⟩).toArray 25 (0, 0)) := hb6
    have k16 : Keep (fun k => h1.size ≤ k) h1 h6 := ((x'.trans x4).keep _).trans ((k5.mono fun k _ e => by omega).trans (o6.keep (Nat.le_refl _)))
    have x16 : Ext h1 h6 := k16.ext fun k hk e => by omega
    have o6' : OwnR 75 33 h h6 a5 d'.l c5 ((fewOp p).refs.map RefV.cells) := by
      refine o5.keepT (o6.keep (S := (· = h1.size)) rfl) (fun k hk e => by have := x1.size; omega) (fun k cs g e => ?_)
      subst e
      rw [hb5] at g
      injection g with g; injection g with _ g; exact absurd g (by decide)
    refine ⟨p.kind, p.root, p.name, p.ver, a5, d'.l, c5, by first | (rw [at_cell hb6]; rfl) | (rw [cell_blk hb6]; rfl), by first | (rw [at_cell hb6]; rfl) | (rw [cell_blk hb6]; rfl), by first | (rw [at_cell hb6]; rfl) | (rw [cell_blk hb6]; rfl), by first | (rw [at_cell hb6]; rfl) | (rw [cell_blk hb6]; rfl), by first | (rw [at_cell hb6]; rfl) | (rw [cell_blk hb6]; rfl), rfl, rfl, by decide, newK_intro fun h7 hb7 x7 z7 => ?_⟩
    refine ((t.grow x16).grow x7).app (e := ⟨a3, i, c3⟩) (o := fewOp p) (d := ⟨a5, d'.l, c5⟩) (o6'.grow x7) hb7 (by show i < _; omega) fun e' h8 hl8 t8 => ?_
    have hl8 : e'.l = i + 1 := hl8
    unfold F10_k5
    rintro _ rfl
    rw [wrap_succ i l hil hl]
    refine ⟨⟨i + 1, es ++ [⟨a5, d'.l, c5⟩], rfl, by omega, by omega, hl8, ?_⟩, less_succ i l hil⟩
    have : (os.take (i + 1)).map fewOp = (os.take i).map fewOp ++ [fewOp p] := by rw [takeR_succ hpi, List.map_append]; rfl
    rw [this]
    exact t8
  have hcap := hr.rows.cap
  have hrl := hr.len
  refine ⟨d.a, d.l, d.c, by rw [at_cell hb3]; rfl, br_of (fun g => ?_) (fun g => ?_)⟩
  · have g' : 20 < d.l := by
      have : (d.l : Int) > 20 := by simpa using g
      omega
    refine ⟨d.a, d.l, d.c, by rw [at_cell hb3]; rfl, by omega, by omega, by omega, ?_⟩
    rw [add_at0, cutAt0]
    refine storeK_one hb3 (by simp [OpV.cells]) (.inr (Nat.zero_le _)) rfl fun h4 hb4 o4 => ?_
    exact k4 ⟨d.a, 20, d.c⟩ (Keep.since x13 (o4.keep rfl : Keep (· = h1.size) h3 h4) fun j hj e => by omega) hb4 (RefsAt.cut hr 20 (by omega)) (Nat.le_refl _)
  · have g' : d.l ≤ 20 := by
      have : ¬ (d.l : Int) > 20 := by simpa using g
      omega
    refine k4 d x13 hb3 ?_ g'
    rw [List.take_of_length_le (by omega)]; exact hr
/-- what spoil needs: numbers where it adds one -/
structure SpoilAt (h0 h : Heap) (e : Hdr) (es : List Hdr) : Prop where
  rows : e.l = 0 ∨ ∃ b cs, e.a = some ⟨b, 0, none⟩ ∧ h0.size ≤ b ∧ h[b]? = some (.cells cs 61 (0, 0)) ∧ ∀ i, i < e.l → (∃ z, cs[i * 4]? = some (.int .i64 z)) ∧ ∃ d : Hdr, cs[i * 4 + 3]? = some (.slice d.a d.l d.c) ∧ d ∈ es
  refs : ∀ d ∈ es, d.l = 0 ∨ ∃ b cs, d.a = some ⟨b, 0, none⟩ ∧ h0.size ≤ b ∧ h[b]? = some (.cells cs 75 (0, 0)) ∧ ∀ k, k < d.l → ∃ z, cs[k * 33 + 32]? = some (.int .i64 z)
theorem row_cell {el : TypeId} {n : Nat} {h0 h : Heap} {a : Option Addr} {l c : Nat} {rows : List (List Value)} (o : OwnR el n h0 h a l c rows) : l = 0 ∨ ∃ b cs, a = some ⟨b, 0, none⟩ ∧ h0.size ≤ b ∧ h[b]? = some (.cells cs el (0, 0)) ∧ ∀ i r j v, rows[i]? = some r → r[j]? = some v → cs[i * n + j]? = some v := by
  rcases o.own with ⟨e, e2⟩ | ⟨b, cs, e, g1, g2, g3, g4⟩
  · have := o.cap; exact .inl (by omega)
  · refine .inr ⟨b, cs, e, g1, g2, fun i r j v hi hj => ?_⟩
    by_cases hl : rows = []
    · rw [hl] at hi; simp at hi
    obtain ⟨b', o', e', _, hc⟩ := o.rows.at_ hl
    rw [e] at e'; cases e'
    have := hc i r hi j v hj
    rw [cell_blk g2, Nat.zero_add] at this
    exact this
theorem TwinAt.spoil {h0 h : Heap} {e : Hdr} {ps : List PackV} {es : List Hdr} (t : TwinAt h0 h e ps es) (ok : ∀ p ∈ ps, ∀ r ∈ p.refs, r.ok) : SpoilAt h0 h e es := by
  have hlen := t.len
  have hpl := t.length
  refine ⟨?_, fun d hd => ?_⟩
  · rcases row_cell t.rows with e0 | ⟨b, cs, e1, g1, g2, hc⟩
    · exact .inl e0
    · refine .inr ⟨b, cs, e1, g1, g2, fun i hi => ?_⟩
      have p1 : ps[i]? = some (ps[i]'(by omega)) := List.getElem?_eq_getElem (by omega)
      have d1 : es[i]? = some (es[i]'(by omega)) := List.getElem?_eq_getElem (by omega)
      have hz : (List.zipWith PackV.cells ps es)[i]? = some (PackV.cells (ps[i]'(by omega)) (es[i]'(by omega))) := by rw [List.getElem?_zipWith, p1, d1]
      exact ⟨⟨_, hc i _ 0 _ hz rfl⟩, es[i]'(by omega), hc i _ 3 _ hz rfl, List.getElem_mem _⟩
  · obtain ⟨i, hi⟩ := List.getElem?_of_mem hd
    have hlt := (List.getElem?_eq_some_iff.1 hi).1
    have p1 : ps[i]? = some (ps[i]'(by omega)) := List.getElem?_eq_getElem (by omega)
    have o := t.refs i _ d p1 hi
    rcases row_cell o with e0 | ⟨b, cs, e1, g1, g2, hc⟩
    · exact .inl e0
    · refine .inr ⟨b, cs, e1, g1, g2, fun k hk => ?_⟩
      have hl := o.len
      rw [List.length_map] at hl
      have r1 : (ps[i]'(by omega)).refs[k]? = some ((ps[i]'(by omega)).refs[k]'(by omega)) := List.getElem?_eq_getElem (by omega)
      have hz : ((ps[i]'(by omega)).refs.map RefV.cells)[k]? = some (((ps[i]'(by omega)).refs[k]'(by omega)).cells) := by rw [List.getElem?_map, r1]; rfl
      have hok := ok _ (List.mem_of_getElem? p1) _ (List.mem_of_getElem? r1)
      exact ⟨((ps[i]'(by omega)).refs[k]'(by omega)).size, hc k _ 32 _ hz (by unfold RefV.cells sumCells; rw [List.getElem?_append_right (by simp [hok.1])]; simp [hok.1])⟩
theorem spoil_ok (e : Hdr) (es : List Hdr) (h0 h : Heap) (t : SpoilAt h0 h e es) (hl : e.l < 9223372036854775808) (hls : ∀ d ∈ es, d.l < 9223372036854775808) :
    HEnt Tryd.prog 16 #[.slice e.a e.l e.c] h fun v h' => v = .tuple #[] ∧ Keep (h0.size ≤ ·) h h' := by
  refine F16_ent _ _ _ _ _ ?_
  unfold F16
  refine ⟨fun x hh => ∃ i : Nat, x = i ∧ i ≤ e.l ∧ SpoilAt h0 hh e es ∧ Keep (h0.size ≤ ·) h hh, fun x _ => ((e.l : Int) - x).toNat, ⟨0, rfl, by omega, t, Keep.refl _ _⟩, ?_⟩
  rintro h1 _ ⟨i, rfl, hi, t1, k1⟩
  unfold F16_b1
  refine br_of (fun g => ?_) (fun g => ⟨rfl, k1⟩)
  have hil : i < e.l := by
    have : (i : Int) < (e.l : Int) := by simpa using g
    omega
  rcases t1.rows with e0 | ⟨b, cs, ea, g1, g2, hc⟩
  · omega
  obtain ⟨⟨z, hz⟩, d, hd, hde⟩ := hc i hil
  have hdl := hls d hde
  unfold F16_k2
  rw [Int.toNat_natCast, ea]
  simp only [add_mk, Nat.zero_add, Nat.add_zero]
  refine ⟨_, rfl, by omega, by omega, z, by rw [add_mk, add_mk, cell_blk g2, Nat.zero_add, Nat.add_zero]; exact hz, _, rfl, by omega, by omega, ?_⟩
  have hlt := (List.getElem?_eq_some_iff.1 (by simpa using hd : cs.toList[i * 4 + 3]? = _)).1
  rw [Array.length_toList] at hlt
  rw [add_mk, add_mk, Nat.zero_add, Nat.add_zero]
  refine storeK_one g2 (by omega) (.inr (Nat.zero_le _)) rfl fun h2 hb2 o2 => ?_
  have k2 : Keep (h0.size ≤ ·) h h2 := k1.trans (o2.keep g1)
  have t2 : SpoilAt h0 h2 e es := by
    refine ⟨.inr ⟨b, _, ea, g1, hb2, fun j hj => ?_⟩, fun d' hd' => ?_⟩
    · obtain ⟨⟨z', hz'⟩, d', hd', hde'⟩ := hc j hj
      refine ⟨?_, d', ?_, hde'⟩
      · rw [Array.getElem?_setIfInBounds]
        by_cases e2 : i * 4 = j * 4
        · rw [if_pos e2, if_pos (by omega)]; exact ⟨_, rfl⟩
        · rw [if_neg e2]; exact ⟨z', hz'⟩
      · rw [Array.getElem?_setIfInBounds, if_neg (by omega)]; exact hd'
    · rcases t1.refs d' hd' with e0 | ⟨b', cs', e1, f1, f2, f3⟩
      · exact .inl e0
      · refine .inr ⟨b', cs', e1, f1, o2.blk f2 (fun e2 => ?_), f3⟩
        subst e2
        rw [g2] at f2
        injection f2 with f2; injection f2 with _ f2; exact absurd f2 (by decide)
  have hd2 : (cs.setIfInBounds (i * 4) (.int .i64 (IntKind.i64.wrap (z + 1))))[i * 4 + 3]? = some (.slice d.a d.l d.c) := by
    rw [Array.getElem?_setIfInBounds, if_neg (by omega)]; exact hd
  refine ⟨_, rfl, by omega, by omega, d.a, d.l, d.c, by rw [add_mk, add_mk, add_mk, cell_blk hb2, Nat.zero_add]; exact hd2, ?_⟩
  refine ⟨fun x hh => ∃ j : Nat, x = j ∧ j ≤ d.l ∧ SpoilAt h0 hh e es ∧ Keep (h0.size ≤ ·) h hh ∧ hh[b]? = some (.cells (cs.setIfInBounds (i * 4) (.int .i64 (IntKind.i64.wrap (z + 1)))) 61 (0, 0)), fun x _ => ((d.l : Int) - x).toNat, ⟨0, rfl, by omega, t2, k2, hb2⟩, ?_⟩
  rintro h3 _ ⟨j, rfl, hj, t3, k3, hb3⟩
  unfold F16_b3
  refine br_of (fun gj => ?_) (fun gj => ?_)
  · have hjl : j < d.l := by
      have : (j : Int) < (d.l : Int) := by simpa using gj
      omega
    rcases t3.refs d hde with e0 | ⟨b', cs', e1, f1, f2, f3⟩
    · omega
    obtain ⟨y, hy⟩ := f3 j hjl
    have hlt' := (List.getElem?_eq_some_iff.1 (by simpa using hy : cs'.toList[j * 33 + 32]? = _)).1
    rw [Array.length_toList] at hlt'
    unfold F16_k4
    rw [Int.toNat_natCast, Int.toNat_natCast]
    refine ⟨_, rfl, by omega, by omega, d.a, d.l, d.c, by rw [add_mk, add_mk, add_mk, cell_blk hb3, Nat.zero_add]; exact hd2, _, e1, by omega, by omega, y, by rw [add_mk, add_mk, cell_blk f2, Nat.zero_add]; exact hy, _, e1, by omega, by omega, ?_⟩
    rw [add_mk, add_mk, Nat.zero_add]
    refine storeK_one f2 (by omega) (.inr (Nat.zero_le _)) rfl fun h4 hb4 o4 => ?_
    rw [wrap_succ j d.l hjl hdl]
    have hne : b ≠ b' := fun e2 => by
      subst e2
      rw [hb3] at f2
      injection f2 with f2; injection f2 with _ f2; exact absurd f2 (by decide)
    refine ⟨⟨j + 1, rfl, by omega, ⟨?_, fun d' hd' => ?_⟩, k3.trans (o4.keep f1), o4.blk hb3 hne⟩, less_succ j d.l hjl⟩
    · rcases t3.rows with e0 | ⟨b2, cs2, e2, q1, q2, q3⟩
      · exact .inl e0
      · refine .inr ⟨b2, cs2, e2, q1, o4.blk q2 (fun e3 => ?_), q3⟩
        subst e3
        rw [q2] at f2
        injection f2 with f2; injection f2 with _ f2; exact absurd f2 (by decide)
    · rcases t3.refs d' hd' with e0 | ⟨b2, cs2, e2, q1, q2, q3⟩
      · exact .inl e0
      · by_cases hb : b2 = b'
        · subst hb
          rw [f2] at q2
          injection q2 with q2; injection q2 with q2 _
          subst q2
          refine .inr ⟨b2, _, e2, q1, hb4, fun k hk => ?_⟩
          rw [Array.getElem?_setIfInBounds]
          by_cases e3 : j * 33 + 32 = k * 33 + 32
          · rw [if_pos e3, if_pos (by omega)]; exact ⟨_, rfl⟩
          · rw [if_neg e3]; exact q3 k hk
        · exact .inr ⟨b2, cs2, e2, q1, o4.blk q2 hb, q3⟩
  · unfold F16_k5
    rw [wrap_succ i e.l hil hl]
    exact ⟨⟨i + 1, rfl, by omega, t3, k3⟩, less_succ i e.l hil⟩
end Go.Proofs.YtfknpbgneeefjaaDoor
