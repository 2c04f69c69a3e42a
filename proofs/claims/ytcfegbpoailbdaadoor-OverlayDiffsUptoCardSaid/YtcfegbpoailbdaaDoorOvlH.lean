import Derived.Test.YtcfegbpoailbdaaDoorOvlF
import Derived.Test.YtcfegbpoailbdaaDoorVdpB
import Derived.Test.YtcfegbpoailbdaaDoorOvlSort
import Derived.Test.YtcfegbpoailbdaaDoorVcU
import Derived.Shelf.SlSortCmp.NoneTotal

namespace Go.Proofs.YtcfegbpoailbdaaDoor
open Go.Vc Go.Sha Go.Trail Go.Lay Go.Sort
set_option linter.unusedVariables false
set_option linter.unusedSimpArgs false
set_option maxRecDepth 20000
theorem less_vc (s t : ByteArray) (hs : s.size < 2 ^ 62) (h : Heap) : F41 s t h fun v h' => v = .bool (lexK (lst s) (lst t)) ∧ h' = h := by
  unfold F41
  have ls := lst_len s
  have lt := lst_len t
  have main : F41_k2 s t h fun v h' => v = .bool (lexK (lst s) (lst t)) ∧ h' = h := by
    unfold F41_k2
    have em : minI (s.size : Int) (t.size : Int) = ((min s.size t.size : Nat) : Int) := by unfold minI; split <;> omega
    rw [em]
    refine ⟨fun x h' => ∃ k : Nat, x = k ∧ k ≤ min s.size t.size ∧ lexK ((lst s).drop k) ((lst t).drop k) = lexK (lst s) (lst t) ∧ h' = h, fun x _ => (min s.size t.size - x).toNat, ⟨0, rfl, by omega, rfl, rfl⟩, ?_⟩
    rintro _ _ ⟨k, rfl, hk, he, rfl⟩
    unfold F41_b3
    refine br_of (fun ht => ?_) (fun hf => ?_)
    · have hk' : k < min s.size t.size := by
        have : (k : Int) < ((min s.size t.size : Nat) : Int) := by simpa using ht
        omega
      have ds : (lst s).drop k = (lst s).getD k 0 :: (lst s).drop (k + 1) := by
        rw [List.drop_eq_getElem_cons (by omega), List.getD_eq_getElem?_getD, List.getElem?_eq_getElem (by omega)]; rfl
      have dt : (lst t).drop k = (lst t).getD k 0 :: (lst t).drop (k + 1) := by
        rw [List.drop_eq_getElem_cons (by omega), List.getD_eq_getElem?_getD, List.getElem?_eq_getElem (by omega)]; rfl
      rw [ds, dt, lexK] at he
      unfold F41_k4
      refine ⟨by omega, by omega, by omega, by omega, ?_⟩
      intro h1 hcl; obtain rfl := hcl.eq
      rw [bt_lst, bt_lst]
      generalize (lst s).getD k 0 = a at *
      generalize (lst t).getD k 0 = b at *
      refine br_of (fun hab => ?_) (fun hab => ?_)
      · have hab' : a = b := by
          have : (a : Int) = b := by simpa using hab
          omega
        rw [if_pos hab'] at he
        unfold F41_k5
        have e1 : IntKind.i64.wrap ((k : Int) + 1) = ((k + 1 : Nat) : Int) := by rw [i64_lt _ (by omega) (by omega)]; omega
        rw [e1]
        exact ⟨⟨k + 1, rfl, by omega, he, rfl⟩, by show (((min s.size t.size : Nat) : Int) - ((k + 1 : Nat) : Int)).toNat < (((min s.size t.size : Nat) : Int) - (k : Int)).toNat; omega⟩
      · have hab' : ¬ a = b := by
          have : ¬ (a : Int) = b := by simpa using hab
          omega
        rw [if_neg hab'] at he
        rw [← he]
        unfold F41_k6
        refine br_of (fun ha => ?_) (fun ha => ?_)
        · have ha' : a = 47 := by
            have : (a : Int) = 47 := by simpa using ha
            omega
          unfold F41_k7
          refine br_of (fun _ => ⟨?_, rfl⟩) (fun hb => by cases hb)
          rw [if_pos ha', ha']; rfl
        · have ha' : ¬ a = 47 := by
            have : ¬ (a : Int) = 47 := by simpa using ha
            omega
          rw [if_neg ha']
          unfold F41_k7
          refine br_of (fun hb => ?_) (fun hb => ?_)
          · have hb' : b = 47 := by
              have : (b : Int) = 47 := by simpa using hb
              omega
            rw [if_pos hb', ha]; exact ⟨rfl, rfl⟩
          · have hb' : ¬ b = 47 := by
              have : ¬ (b : Int) = 47 := by simpa using hb
              omega
            rw [if_neg hb']
            unfold F41_k8
            exact ⟨by congr 1; exact decide_eq_decide.2 (by omega), rfl⟩
    · have hk' : k = min s.size t.size := by
        have : ¬ (k : Int) < ((min s.size t.size : Nat) : Int) := by simpa using hf
        omega
      unfold F41_k9
      refine ⟨?_, rfl⟩
      rw [← he]
      congr 1
      by_cases hlt : s.size < t.size
      · rw [List.drop_of_length_le (l := lst s) (by omega), List.drop_eq_getElem_cons (l := lst t) (by omega)]
        simp [lexK, hlt]
      · rw [List.drop_of_length_le (l := lst t) (by omega)]
        have : decide ((s.size : Int) < (t.size : Int)) = false := decide_eq_false (by omega)
        rw [this]
        cases (lst s).drop k <;> rfl
  rw [seq_nil, seq_nil]
  refine br_of (fun hs0 => ?_) (fun hs0 => ?_)
  · have h0 := of_decide_eq_true hs0
    unfold F41_k1
    refine br_of (fun _ => br_of (fun _ => ⟨?_, rfl⟩) (fun hb => ?_)) (fun hb => by cases hb)
    · rw [h0, seq_nil t]
      by_cases ht : lst t = []
      · rw [ht]; rfl
      · cases hl : lst t with
        | nil => exact absurd hl ht
        | cons b q => rfl
    · rw [seq_nil, h0] at hb; simp at hb
  · have h0 := of_decide_eq_false hs0
    unfold F41_k1
    refine br_of (fun ht0 => br_of (fun hb => ?_) (fun _ => ⟨?_, rfl⟩)) (fun _ => main)
    · rw [seq_nil, decide_eq_true_eq] at hb; exact absurd hb h0
    · have h1 := of_decide_eq_true ht0
      rw [h1]
      cases hl : lst s with
      | nil => exact absurd hl h0
      | cons a p => rfl

theorem less_dr (s t : ByteArray) (hs : s.size < 2 ^ 62) (h : Heap) : Go.Vd.HEnt Tryd.prog 41 #[.string s, .string t] h fun v h' => v = .bool (lexK (lst s) (lst t)) ∧ h' = h :=
  Dr.F41_ent s t h _ (Eq.mp (by kernel_rfl) (less_vc s t hs h))
/-- what the comparing function tells -/
def cmpE (e f : EntV) : Int := if lexK (lst e.path) (lst f.path) = true then -1 else 1
theorem cmp_dr (e f : EntV) (hs : e.path.size < 2 ^ 62) (h : Heap) : Go.Vd.HEnt Tryd.prog 47 #[.agg (entA e), .agg (entA f)] h fun v h' => v = .int .i64 (cmpE e f) ∧ ∃ os, h' = h ++ os := by
  refine Dr.F47_ent _ _ _ _ _ _ _ _ _ _ ?_
  unfold Dr.F47
  intro b2 h1 n1 b3 h2 n2
  obtain ⟨rfl, rfl⟩ := n1
  obtain ⟨rfl, rfl⟩ := n2
  refine ⟨e.path, ?_, f.path, ?_, Go.Vd.HEnt.use (less_dr e.path f.path hs _) ?_⟩
  · show Vc.cell _ ((at0 h.size).add 0) = _
    rw [add_at0]
    refine (cell_blk (cs := entA e) (t := 38) (fr := (0, 0)) ?_ 0).trans rfl
    rw [Array.getElem?_push, if_neg (by rw [Array.size_push]; omega), Array.getElem?_push, if_pos rfl]; rfl
  · show Vc.cell _ ((at0 (h.push _).size).add 0) = _
    rw [add_at0]
    refine (cell_blk (cs := entA f) (t := 38) (fr := (0, 0)) ?_ 0).trans rfl
    rw [Array.getElem?_push, if_pos rfl]; rfl
  rintro _ h3 ⟨rfl, rfl⟩
  have hos : ∃ os, (h.push (.cells (entA e) 38)).push (.cells (entA f) 38) = h ++ os := ⟨#[.cells (entA e) 38, .cells (entA f) 38], by apply Array.ext'; simp⟩
  refine ⟨_, rfl, ?_⟩
  cases hl : lexK (lst e.path) (lst f.path) with
  | true => exact ⟨by unfold cmpE; rw [if_pos hl], hos⟩
  | false => exact ⟨by unfold cmpE; rw [hl]; rfl, hos⟩
/-- entries as they are sorted: with a path of a bounded size -/
abbrev SE : Type := { e : EntV // e.path.size < 2 ^ 62 }
instance : Inhabited SE := ⟨⟨⟨ByteArray.empty, 0, 0, ByteArray.empty⟩, by decide⟩⟩
def encS (x : SE) : List Value := [.string x.1.path, .int .i64 x.1.kind, .int .i64 x.1.mode, .string x.1.body]
def cfS (x y : SE) : Int := cmpE x.1 y.1
theorem ltS (x y : SE) : ltOf cfS x y = lexK (lst x.1.path) (lst y.1.path) := by
  unfold ltOf cfS cmpE
  cases lexK (lst x.1.path) (lst y.1.path) <;> simp
theorem swoS : SWO (ltOf cfS) where
  irrefl x := by rw [ltS]; exact lexK_irr _
  trans x y z h1 h2 := by rw [ltS] at *; exact lexK_trans _ _ _ h1 h2
  ntrans x y z h1 h2 := by
    rw [ltS] at *
    by_cases e : lst x.1.path = lst y.1.path
    · rw [e]; exact h2
    · have hyx : lexK (lst y.1.path) (lst x.1.path) = true := by
        have := lexK_total _ _ e
        rw [h1] at this
        cases h : lexK (lst y.1.path) (lst x.1.path) with
        | true => rfl
        | false => exact absurd h.symm this
      by_cases e2 : lst y.1.path = lst z.1.path
      · rw [← e2]; exact h1
      · have hzy : lexK (lst z.1.path) (lst y.1.path) = true := by
          have := lexK_total _ _ e2
          rw [h2] at this
          cases h : lexK (lst z.1.path) (lst y.1.path) with
          | true => rfl
          | false => exact absurd h.symm this
        exact lexK_asymm (lexK_trans _ _ _ hzy hyx)
theorem closure47 (x y : SE) (W : World) : Calls Tryd.prog 47 #[.agg (encS x).toArray, .agg (encS y).toArray] W fun e w' => e = .returned (.int .i64 (cfS x y)) ∧ ∃ q os', w' = grow (W.drewN q) os' := by
  refine ((cmp_dr x.1 y.1 x.2 W.heap) W rfl).2.mono fun e w' ⟨v, he, hk, hv, os, ho⟩ => ?_
  subst hv
  refine ⟨he, w'.drawn - W.drawn, os, ?_⟩
  obtain ⟨k1, k2, k3, k4⟩ := hk
  obtain ⟨hp, tp, dr, o, ou⟩ := w'
  simp only at k1 k2 k3 k4 ho
  subst k1; subst k2; subst k3; subst ho
  unfold grow World.drewN
  congr 1
  simp only
  omega
theorem cmpLays47 (blk off size : Nat) (w : World) : CmpLays Tryd.prog 47 #[] encS 4 cfS blk off size w := fun _ _ _ _ x y => closure47 x y _
end Go.Proofs.YtcfegbpoailbdaaDoor

namespace Go.Proofs.YtcfegbpoailbdaaDoor
open Go.Vc Go.Sha Go.Trail Go.Lay Go.Sort
set_option linter.unusedVariables false
set_option linter.unusedSimpArgs false
set_option maxRecDepth 20000
theorem lift_se : ∀ es : List EntV, (∀ e ∈ es, e.path.size < 2 ^ 62) → ∃ ds : List SE, ds.map (fun x => x.1) = es
  | [], _ => ⟨[], rfl⟩
  | e :: es, h => by
    obtain ⟨ds, hd⟩ := lift_se es fun x hx => h x (List.mem_cons_of_mem _ hx)
    exact ⟨⟨e, h e (by simp)⟩ :: ds, by rw [List.map_cons, hd]⟩
theorem ents_at {es : List EntV} {i j : Nat} {e : EntV} {v : Value} (hi : es[i]? = some e) (hj : (entC e)[j]? = some v) : (ents es).flatten[i * 4 + j]? = some v :=
  flat_at hj (ents es) i (ents_row es) (by rw [ents, List.getElem?_map, hi]; rfl)
theorem flatK_at (d : Array SE) (i j : Nat) (hi : i < d.size) (hj : j < 4) : (flatK encS 4 d)[i * 4 + j]! = (entC d[i]!.1)[j]! := by
  rw [get_flatK _ _ _ _ (by omega), show (i * 4 + j) / 4 = i by omega, show (i * 4 + j) % 4 = j by omega]
  rfl
theorem entC_get (e : EntV) (j : Nat) (hj : j < 4) : (entC e)[j]? = some (entC e)[j]! := by
  match j, hj with
  | 0, _ => rfl
  | 1, _ => rfl
  | 2, _ => rfl
  | 3, _ => rfl
theorem sort_ok (a : Option Addr) (l c : Nat) (es : List EntV) (h0 h : Heap) (o : OwnR 38 4 h0 h a l c (ents es)) (hs : ∀ e ∈ es, e.path.size < 2 ^ 62) (hl : l < 2 ^ 60) :
    HEnt Tryd.prog 46 #[.slice a l c, .func (.func 47) #[] #[]] h fun v h' => v = .tuple #[] ∧ ∃ es' : List EntV, es'.Perm es ∧ (es'.Pairwise fun e f => lexK (lst f.path) (lst e.path) = false) ∧ OwnR 38 4 h0 h' a l c (ents es') ∧ Keep (fun k => a = some ⟨k, 0, none⟩) h h' := by
  have hlen := o.len
  rw [ents_len] at hlen
  rcases o.own with ⟨ea, ec⟩ | ⟨b, cs, ea, hB, hb, hc, hf⟩
  · have hcap := o.cap
    have l0 : l = 0 := by omega
    subst l0
    refine HEnt.of_body Tryd.func46 (by kernel_rfl) (by kernel_rfl) fun w hw => ?_
    have hcon := AnyF.slices_SortFunc_none Tryd.sf46 a c (.func (.func 47) #[] #[]) w
    change Calls Tryd.prog 46 _ _ _ at hcon
    refine hcon.mono fun e w' ⟨he, hw'⟩ => ?_
    subst hw'
    exact ⟨_, he, Kin.refl _, rfl, es, List.Perm.refl _, by rw [List.eq_nil_of_length_eq_zero hlen]; exact List.Pairwise.nil, by rw [hw]; exact o, by rw [hw]; exact Keep.refl _ _⟩
  subst ea
  obtain ⟨ds, hdl⟩ := lift_se es hs
  obtain ⟨d, hd⟩ : ∃ d : Array SE, d.toList = ds := ⟨ds.toArray, List.toList_toArray⟩
  have hdm : d.toList.map (fun x => x.1) = es := by rw [hd]; exact hdl
  have hds : d.size = l := by
    have := congrArg List.length hdm
    rw [List.length_map, Array.length_toList] at this
    exact this.trans hlen
  have at_ : ∀ (x : Array SE) (i : Nat), i < x.size → (x.toList.map (fun x => x.1))[i]? = some x[i]!.1 := fun x i hi => by
    rw [List.getElem?_map, Array.getElem?_toList, Array.getElem?_eq_getElem hi, getElem!_pos x i hi]; rfl
  have hcs : ∀ k, k < l * 4 → cs[k]? = some (flatK encS 4 d)[k]! := fun k hk => by
    have h1 := at_ d (k / 4) (by omega)
    rw [hdm] at h1
    have h2 := ents_at h1 (entC_get d[k / 4]!.1 (k % 4) (by omega))
    rw [← hf, show k / 4 * 4 + k % 4 = k by omega, List.getElem?_take, if_pos hk, Array.getElem?_toList] at h2
    rw [h2, ← flatK_at d (k / 4) (k % 4) (by omega) (by omega), show k / 4 * 4 + k % 4 = k by omega]
  refine HEnt.of_body Tryd.func46 (by kernel_rfl) (by kernel_rfl) fun w hw => ?_
  have eg : ∀ args w, (callFunc 47 args).run Tryd.prog w = .ok (.enter 47 args) w := enters_of Tryd.func47 (by kernel_rfl) rfl
  have hH : HoldsK encS 4 w b 0 d := by
    intro j hj
    rw [size_flatK] at hj
    refine ⟨?_, ?_⟩
    · show Vc.cell w.heap _ = _
      rw [hw, cell_blk hb, Nat.zero_add]
      exact hcs j (by omega)
    · unfold World.frozen?
      simp [hw, hb]
  have hblk : b < w.heap.size := by rw [hw]; exact blk_lt hb
  have hcon := AnyQ.slices_SortFunc Tryd.sf46 4 Tryd.isAgg38 Tryd.sizeOf38 encS (fun _ => rfl) (fun x v hv => by simp [encS] at hv; rcases hv with rfl | rfl | rfl | rfl <;> rfl) cfS swoS 47 #[] b 0 c d w eg (cmpLays47 b 0 d.size w) hH hblk (by omega)
  rw [hds] at hcon
  change Calls Tryd.prog 46 _ _ _ at hcon
  refine hcon.mono fun e w' ⟨he, d', n, os, hp, hso, hw'⟩ => ?_
  subst hw'
  have hd's : d'.size = l := hp.1.trans hds
  have hperm : d'.toList.Perm d.toList := by
    have h2 := hp.2.2
    rw [show d'.extract 0 l = d' by rw [← hd's]; simp, show d.extract 0 l = d by rw [← hds]; simp] at h2
    exact h2
  have hblk' : ((grow (putRowK encS 4 (Sort.ahead w n) b 0 d') os).heap)[b]? = some (.cells (putCells id 0 (flatK encS 4 d') cs) 38 (0, 0)) := by
    show ((w.heap.modify b (onCells (putCells id 0 (flatK encS 4 d')))) ++ os)[b]? = _
    rw [Array.getElem?_append_left (by rw [Array.size_modify]; exact hblk), Array.getElem?_modify, if_pos rfl, hw, hb]
    rfl
  have hkeep : Keep (fun k => (some ⟨b, 0, none⟩ : Option Addr) = some ⟨k, 0, none⟩) h (grow (putRowK encS 4 (Sort.ahead w n) b 0 d') os).heap := by
    refine ⟨?_, fun k hk hne => ?_⟩
    · show h.size ≤ ((w.heap.modify b (onCells (putCells id 0 (flatK encS 4 d')))) ++ os).size
      rw [Array.size_append, Array.size_modify, hw]; omega
    · show ((w.heap.modify b (onCells (putCells id 0 (flatK encS 4 d')))) ++ os)[k]? = _
      rw [Array.getElem?_append_left (by rw [Array.size_modify, hw]; exact hk), Array.getElem?_modify, if_neg (fun e => hne (by rw [e])), hw]
  refine ⟨_, he, ⟨rfl, rfl, rfl⟩, rfl, d'.toList.map (fun x => x.1), by rw [← hdm]; exact hperm.map _, ?_, ?_, hkeep⟩
  · rw [List.pairwise_map, List.pairwise_iff_getElem]
    intro i j hi hj hij
    rw [Array.length_toList] at hi hj
    have := hso i j (Nat.zero_le _) hij (by omega)
    rw [ltS, getElem!_pos d' i hi, getElem!_pos d' j hj] at this
    simpa using this
  · refine ⟨by rw [ents_len, List.length_map, Array.length_toList]; exact hd's, o.cap, ents_row _, .inr ⟨b, _, rfl, hB, hblk', by unfold putCells; rw [Array.size_mapIdx]; exact hc, ?_⟩, Keep.since o.ext hkeep fun k hk e => by cases e; omega⟩
    apply List.ext_getElem?
    intro k
    rw [List.getElem?_take]
    by_cases hk : k < l * 4
    · rw [if_pos hk]
      have h1 := at_ d' (k / 4) (by omega)
      have h2 := ents_at h1 (entC_get d'[k / 4]!.1 (k % 4) (by omega))
      rw [← flatK_at d' (k / 4) (k % 4) (by omega) (by omega), show k / 4 * 4 + k % 4 = k by omega] at h2
      rw [h2, Array.getElem?_toList]
      unfold putCells
      rw [Array.getElem?_mapIdx, hcs k hk]
      simp only [Option.map_some, size_flatK, Nat.zero_add, Nat.sub_zero, Nat.zero_le, true_and]
      rw [if_pos (by omega)]
      rfl
    · rw [if_neg hk, List.getElem?_eq_none]
      rw [flat_len (ents_row _), ents_len, List.length_map, Array.length_toList]
      omega
end Go.Proofs.YtcfegbpoailbdaaDoor
