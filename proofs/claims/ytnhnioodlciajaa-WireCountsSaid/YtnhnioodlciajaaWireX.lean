import Derived.Test.YtnhnioodlciajaaWireV

namespace Go.Wire
open Go.Vc Go.Packs Go.Proofs Go.Proofs.Ytnhnioodlciajaa
set_option linter.unusedVariables false
/-- a call -/
def actN (M : NetM) (k f t a : Int) (m : MsgV) : NetM := if k = 0 then (sendN M m).2 else if k = 1 then (deliverN M f t a).2 else if k = 2 then (dropN M f t a).2 else if k = 3 then (doubleN M f t a).2 else if k = 4 then takeM M t else updM M (.box t) []
/-- a link that there may be -/
def goodL (f t : Int) : Prop := (f = 0 ∧ rootP t) ∨ (t = 0 ∧ rootP f)
/-- nothing is on other links -/
def validM (M : NetM) : Prop := ∀ f t, ¬ goodL f t → M (.link f t) = []
/-- what is one root's -/
def ofRoot (r : Int) : Key → Prop
  | .link f t => f = r ∨ t = r
  | .box n => n = r
def alikeM (r : Int) (M M' : NetM) : Prop := ∀ k, ofRoot r k → M k = M' k
def mineP (r k f t : Int) (m : MsgV) : Prop := if k = 0 then m.from_ = r ∨ m.to = r else f = r ∨ t = r

theorem msgC_goes {m : MsgV} (h : msgC m = 0) : goodL m.from_ m.to := by
  unfold msgC at h
  split at h
  · cases h
  · split at h
    · cases h
    · rename_i h2
      have hg : goesP m.kind m.from_ m.to := Classical.not_not.1 fun x => h2 (.inl x)
      unfold goesP at hg
      split at hg
      · exact .inl hg
      · exact .inr hg
theorem put_valid {M : NetM} {f t : Int} {m : MsgV} (hv : validM M) (hg : goodL f t) : validM (putN M f t m).2 := by
  unfold putN
  split
  · exact hv
  · intro f' t' hn
    show updM M (.link f t) _ (.link f' t') = []
    unfold updM
    rw [if_neg (fun e => by cases e; exact hn hg)]
    exact hv f' t' hn
theorem there_good {M : NetM} {f t a : Int} (hv : validM M) (h : thereN M f t a = 0) : goodL f t := by
  obtain ⟨_, m, hm⟩ := thereN_ok h
  refine Classical.byContradiction fun hn => ?_
  rw [hv f t hn] at hm
  simp at hm
theorem box_valid {M : NetM} {n : Int} {l : List MsgV} (hv : validM M) : validM (updM M (.box n) l) := by
  intro f t hn
  unfold updM
  rw [if_neg (fun e => by cases e)]
  exact hv f t hn
theorem out_valid {M : NetM} {f t : Int} {i : Nat} (hv : validM M) : validM (outN M f t i) := by
  intro f' t' hn
  unfold outN updM
  split
  · rename_i e
    cases e
    rw [hv f t hn]; rfl
  · exact hv f' t' hn
theorem act_valid {M : NetM} (k f t a : Int) (m : MsgV) (hv : validM M) : validM (actN M k f t a m) := by
  unfold actN
  split
  · unfold sendN
    split
    · exact hv
    · rename_i h
      exact put_valid hv (msgC_goes (Classical.not_not.1 h))
  split
  · unfold deliverN
    split
    · exact hv
    · split
      · exact hv
      · split
        · exact out_valid (box_valid hv)
        · exact hv
  split
  · unfold dropN
    split
    · exact hv
    · exact out_valid hv
  split
  · unfold doubleN
    split
    · exact hv
    · rename_i h
      split
      · exact put_valid hv (there_good hv (Classical.not_not.1 h))
      · exact hv
  split
  · exact box_valid hv
  · exact box_valid hv
theorem upd_alike {r : Int} {M M' : NetM} {k : Key} {l l' : List MsgV} (h : alikeM r M M') (hl : ofRoot r k → l = l') : alikeM r (updM M k l) (updM M' k l') := by
  intro k' hk'
  unfold updM
  split
  · rename_i e
    subst e
    exact hl hk'
  · exact h k' hk'
theorem upd_one {r : Int} {M M' : NetM} {k : Key} {l : List MsgV} (h : alikeM r M M') (hk : ¬ ofRoot r k) : alikeM r (updM M k l) M' := by
  intro k' hk'
  unfold updM
  rw [if_neg (fun (e : k' = k) => hk (by rw [← e]; exact hk'))]
  exact h k' hk'
theorem put_alike {r f t : Int} {M M' : NetM} {m : MsgV} (h : alikeM r M M') (hk : f = r ∨ t = r) : alikeM r (putN M f t m).2 (putN M' f t m).2 := by
  have e := h (.link f t) hk
  unfold putN
  rw [e]
  split
  · exact h
  · exact upd_alike h fun _ => rfl
theorem put_one {r f t : Int} {M M' : NetM} {m : MsgV} (h : alikeM r M M') (hk : ¬ (f = r ∨ t = r)) : alikeM r (putN M f t m).2 M' := by
  unfold putN
  split
  · exact h
  · exact upd_one h hk
theorem there_alike {r f t a : Int} {M M' : NetM} (h : alikeM r M M') (hk : f = r ∨ t = r) : thereN M f t a = thereN M' f t a := by
  unfold thereN
  rw [h (.link f t) hk]
/-- what is one's own is done on both -/
theorem act_alike {r k f t a : Int} {M M' : NetM} {m : MsgV} (hr : rootP r) (h : alikeM r M M') (hv : validM M) (hm : mineP r k f t m) (hs : ¬ (t = 0 ∧ (k = 1 ∨ k ≥ 4))) : alikeM r (actN M k f t a m) (actN M' k f t a m) := by
  unfold actN
  unfold mineP at hm
  split
  · rename_i k0
    rw [if_pos k0] at hm
    unfold sendN
    split
    · exact h
    · exact put_alike h hm
  rename_i k0
  rw [if_neg k0] at hm
  split
  · rename_i k1
    have ht := there_alike (a := a) h hm
    unfold deliverN
    rw [← ht]
    split
    · exact h
    · rename_i h0
      have h0 := Classical.not_not.1 h0
      have hg := there_good hv h0
      have ht0 : t ≠ 0 := fun e => hs ⟨e, .inl k1⟩
      have htr : t = r := by
        unfold goodL at hg
        unfold rootP at hr hg
        omega
      rw [← h (.box t) htr, ← h (.link f t) hm]
      split
      · exact h
      · split
        · unfold outN
          have hb := upd_alike (k := .box t) (l := M (.box t) ++ [‹MsgV›]) (l' := M (.box t) ++ [‹MsgV›]) h fun _ => rfl
          exact upd_alike hb fun hk => by rw [hb _ hk]
        · exact h
  split
  · have ht := there_alike (a := a) h hm
    unfold dropN
    rw [← ht]
    split
    · exact h
    · exact upd_alike h fun hk => by rw [h _ hk]
  split
  · have ht := there_alike (a := a) h hm
    unfold doubleN
    rw [← ht, ← h (.link f t) hm]
    split
    · exact h
    · split
      · exact put_alike h hm
      · exact h
  split
  · exact upd_alike h fun hk => by rw [h _ hk]
  · exact upd_alike h fun _ => rfl
/-- what is not one's own is done on one alone -/
theorem act_one {r k f t a : Int} {M M' : NetM} {m : MsgV} (h : alikeM r M M') (hm : ¬ mineP r k f t m) : alikeM r (actN M k f t a m) M' := by
  unfold actN
  unfold mineP at hm
  split
  · rename_i k0
    rw [if_pos k0] at hm
    unfold sendN
    split
    · exact h
    · exact put_one h hm
  rename_i k0
  rw [if_neg k0] at hm
  have hb : ¬ ofRoot r (.box t) := fun e => hm (.inr e)
  have hl : ¬ ofRoot r (.link f t) := hm
  split
  · unfold deliverN
    split
    · exact h
    · split
      · exact h
      · split
        · exact upd_one (upd_one h hb) hl
        · exact h
  split
  · unfold dropN
    split
    · exact h
    · exact upd_one h hl
  split
  · unfold doubleN
    split
    · exact h
    · split
      · exact put_one h hm
      · exact h
  split
  · exact upd_one h hb
  · exact upd_one h hb
end Go.Wire
namespace Go.Proofs.Ytnhnioodlciajaa
open Go.Vc Go.Sha Go.Trail Go.Packs Go.Wire
set_option linter.unusedVariables false
/-- what may be read at a place -/
theorem Copies.get {h0 h : Heap} {a : Option Addr} {l c : Nat} {ms : List MsgV} (t : Copies h0 h a l c ms) {i : Nat} {m : MsgV} (hm : ms[i]? = some m) : ∃ q d es, a = some q ∧ i < l ∧ PacksAt h d.a d.l d.c m.packs es ∧ d.l ≤ 20 ∧ (∀ x ∈ es, x.l ≤ 20) ∧ (∀ j v, (msgCells m d)[j]? = some v → Vc.cell h ((q.add (i * 6)).add j) = some v) ∧ ∀ w : World, Ext h w.heap → (loadVar 24 (q.add (i * 6))).run Try.prog w = .ok (.agg (msgCells m d).toArray) w := by
  obtain ⟨ds, o, hds, hms⟩ := t.ex
  have hd : ds[i]? = some (ds[i]'(by rw [hds]; exact (List.getElem?_eq_some_iff.1 hm).1)) := List.getElem?_eq_getElem _
  generalize ds[i]'(by rw [hds]; exact (List.getElem?_eq_some_iff.1 hm).1) = d at hd
  obtain ⟨es, tm, l1, l2, ok⟩ := hms _ m d hm hd
  obtain ⟨q, e, hlt, hc, hw⟩ := row_load o.rows (i := i) (m := m) (d := d) (by rw [List.getElem?_zipWith, hm, hd])
  exact ⟨q, d, es, e, hlt, tm.packs ok, l1, l2, hc, hw⟩
end Go.Proofs.Ytnhnioodlciajaa
