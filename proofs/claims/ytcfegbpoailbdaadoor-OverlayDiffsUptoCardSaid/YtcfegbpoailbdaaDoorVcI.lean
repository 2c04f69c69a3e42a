import Derived.Test.YtcfegbpoailbdaaDoorVcH

namespace Go.Vc
set_option linter.unusedSimpArgs false
set_option linter.unusedVariables false
variable {P : Program}

theorem opvs_arr {e : Env} {a : Act} (hA : Agree e a.tmps) {args : Array Operand} {vs : List Value} (h : opvs e args.toList = some vs) : args.map a.eval = vs.toArray := by
  apply Array.ext'; simpa using opvs_eval hA h

theorem callK_wp {o : Oper} {c : Call} {f : Operand} {e : Env} {h : Heap} {K : Option Value → Heap → Prop} {a : Act} {w : World} {next : Act → World → Prop} {Q : Exit → Act → World → Prop}
    (ho : o.op = .call c) (hc : c.callee = .value f) (hA : Agree e a.tmps) (hw : w.heap = h) (hn : Nexts o a w K next)
    (H : callK P o.type (opv e f) (opvs e c.args.toList) h K) : o.wp P a w next Q := by
  unfold callK at H
  split at H
  case h_2 => exact H.elim
  rename_i g first captured vs hf hv
  have e1 := opv_eval hA hf
  have e2 := opvs_arr hA hv
  have harr : (first.toList ++ vs ++ captured.toList).toArray = first ++ vs.toArray ++ captured := by apply Array.ext'; simp
  rw [harr] at H
  have hr : execOp a.eval o = callFunc g (first ++ vs.toArray ++ captured) := by
    simp only [execOp, ho, resolve, hc, e1, e2, Deferred.ofValue]
    rfl
  unfold Oper.wp
  rw [hr]
  rcases H w hw with ⟨v, w', h1, hk, hR⟩ | ⟨h1, hC⟩
  · rw [h1]
    obtain ⟨u, rfl, hK⟩ := withSh_some hR
    exact hn _ _ _ hK (.inr rfl) hk
  · rw [h1]
    simp only [Oper.upon]
    exact hC.mono fun en w' ⟨v, he, hk, hR⟩ => by
      subst he
      obtain ⟨u, rfl, hK⟩ := withSh_some hR
      exact hn _ _ _ hK (.inr rfl) hk

theorem semK_wp {o : Oper} {s : Sem Value} {h : Heap} {K' : Value → Heap → Prop} {K : Option Value → Heap → Prop} {a : Act} {w : World} {next : Act → World → Prop} {Q : Exit → Act → World → Prop}
    (hr : execOp a.eval o = (do pure (.value (← s)))) (hw : w.heap = h) (hn : Nexts o a w K next) (H : semK P s h K') (hK : ∀ v h', K' v h' → K (some v) h') : o.wp P a w next Q := by
  obtain ⟨v, w', hs, hk, hv⟩ := H w hw
  exact wp_value (by rw [hr]; simp [hs]) (hn _ _ _ (hK _ _ hv) (.inr rfl) hk)
theorem semU_wp {o : Oper} {s : Sem Unit} {h : Heap} {K : Option Value → Heap → Prop} {a : Act} {w : World} {next : Act → World → Prop} {Q : Exit → Act → World → Prop}
    (hr : execOp a.eval o = (do s; pure .skip)) (hw : w.heap = h) (hn : Nexts o a w K next) (H : semU P s h fun h' => K none h') : o.wp P a w next Q := by
  obtain ⟨w', hs, hk, hv⟩ := H w hw
  exact wp_skip' (by rw [hr]; simp [hs]) (hn _ _ _ hv (.inl rfl) hk)
theorem resK_out {t : TypeId} {K : Option Value → Heap → Prop} {v : Value} {h : Heap} (H : resK P t K v h) : K (some v) h := by
  obtain ⟨u, rfl, hK⟩ := withSh_some H; exact hK

theorem newK_run {h : Heap} {o : Obj} {K : Nat → Heap → Prop} (H : newK h o K) : K h.size (h.push o) := H _ _ ⟨rfl, rfl⟩

theorem buildV_sound {t : TypeId} {e : Env} {a : Act} {parts : Array (Nat × Operand)} {K : Option Value → Prop} (hA : Agree e a.tmps) (H : buildV P t (partsV e parts.toList) K) :
    ∃ v, K (some v) ∧ ∀ w, (Instr.build t (parts.map fun (i, x) => (i, a.eval x))).run P w = .ok v w := by
  unfold buildV at H
  split at H
  case h_2 => exact H.elim
  rename_i vs hv
  have e1 : (parts.map fun (i, x) => (i, a.eval x)) = vs.toArray := by
    apply Array.ext'
    have := partsV_eval hA hv
    simpa using this
  split at H
  · rename_i z fs hz ht
    split at H
    case h_2 => exact H.elim
    rename_i hall
    obtain ⟨l, hk, hf⟩ := buildK_sound vs z.cells.toList (by simp) H
    refine ⟨_, hk, fun w => ?_⟩
    have hm : ∀ (fl : List Field), (∀ f ∈ fl, (P.info? f.type).isSome = true) → (List.mapM (fun f => do pure (f.offset, ← sizeOf f.type) : Field → Sem (Nat × Nat)) fl).run P w = .ok (fl.map fun f => (f.offset, P.cellsOf f.type)) w := by
      intro fl
      induction fl with
      | nil => intro _; simp
      | cons f fl ih =>
        intro hf
        obtain ⟨i, hi⟩ := Option.isSome_iff_exists.1 (hf f (by simp))
        have ih' := ih (fun g hg => hf g (by simp [hg]))
        simp only [List.mapM_cons, Sem.run_bind, run_sizeI hi, Result.andThen_ok, Sem.run_pure, ih', List.map_cons]
    have hm' : (fs.mapM (fun f => do pure (f.offset, ← sizeOf f.type) : Field → Sem (Nat × Nat))).run P w = .ok (fs.map fun f => (f.offset, P.cellsOf f.type)) w := by
      have h1 := hm fs.toList (fun f hf => List.all_eq_true.1 hall f hf)
      rw [Array.mapM_eq_mapM_toList, Sem.run_map, h1]
      simp only [Result.andThen_ok]
      congr 1
      apply Array.ext'; simp
    simp only [Array.toArray_toList] at hf
    have hfill : Instr.fill (fun i => (fs.map fun f => (f.offset, P.cellsOf f.type))[i]?) z.cells vs = some l.toArray := by
      rw [← hf]; congr 1; funext i; simp
    simp only [Instr.build, Sem.run_bind, run_zero hz, Result.andThen_ok, run_und ht, hm', e1, hfill, Sem.run_pure]
  · rename_i z n el hz ht
    split at H
    · split at H
      case h_2 => exact H.elim
      rename_i i hi
      exact ⟨_, H, fun w => by simp [Instr.build, run_zero hz, run_und ht, run_sizeI hi, e1, Instr.fill]⟩
    split at H
    case h_2 => exact H.elim
    rename_i i hl hi hn
    have hlen := Nat.eq_of_beq_eq_true hl
    have hzn := Nat.eq_of_beq_eq_true hn
    obtain ⟨hk, hf⟩ := seqParts_sound vs 0 n z.cells.toList (by omega) (by simpa using hzn) H
    refine ⟨_, hk, fun w => ?_⟩
    simp only [Array.toArray_toList, Nat.zero_mul, List.take_zero, List.nil_append] at hf
    simp only [Instr.build, Sem.run_bind, run_zero hz, Result.andThen_ok, run_und ht, run_sizeI hi, e1, hf, Sem.run_pure]
  · exact H.elim


theorem vcEff_sound {A : Ann} {o : Oper} {e : Env} {h : Heap} {K : Option Value → Heap → Prop} {a : Act} {w : World} {next : Act → World → Prop} {Q : Exit → Act → World → Prop}
    (hA : Agree e a.tmps) (hw : w.heap = h) (hn : Nexts o a w K next) (H : vcEff P A o e h K) : o.wp P a w next Q := by
  obtain ⟨dst, op, ty, pos, after, guard⟩ := o
  have pure_ := @vcPure_wp P A ⟨dst, op, ty, pos, after, guard⟩ e h K a w next Q hA hw hn
  cases op with
  | alloc t =>
    simp only [vcEff] at H
    split at H
    case h_2 => exact H.elim
    rename_i z hz
    subst hw
    refine wp_value (v := .pointer (some ⟨w.heap.size, 0, none⟩)) (w' := { w with heap := w.heap.push (.cells z.cells t) }) ?_ (hn _ _ _ (newK_run H) (.inr rfl) ⟨rfl, rfl, rfl⟩)
    simp [execOp, Instr.alloc, run_zero hz, newVar, newRow]
  | box t x =>
    simp only [vcEff] at H
    split at H
    case h_2 => exact H.elim
    rename_i v hv
    subst hw
    refine wp_value (v := .pointer (some ⟨w.heap.size, 0, none⟩)) (w' := { w with heap := w.heap.push (.cells v.cells t) }) ?_ (hn _ _ _ (newK_run H) (.inr rfl) ⟨rfl, rfl, rfl⟩)
    simp [execOp, Instr.box, opv_eval hA hv, newVar, newRow]
  | store t x y =>
    simp only [vcEff] at H
    split at H
    case h_2 => exact H.elim
    rename_i ad v hx hy
    split at H
    case h_2 => exact H.elim
    rename_i d hd
    obtain ⟨h', hk, hr⟩ := run_storeK (P := P) hd hw H
    refine wp_skip' (w' := { w with heap := h' }) ?_ (hn _ _ _ hk (.inl rfl) ⟨rfl, rfl, rfl⟩)
    simp [execOp, Instr.storeAt, Instr.sureAddr, opv_eval hA hx, opv_eval hA hy, hr]
  | build t parts =>
    simp only [vcEff] at H
    obtain ⟨v, hk, hr⟩ := buildV_sound hA H
    exact wp_value (v := v) (w' := w) (by simp [execOp, hr w]) (hn _ _ _ (by rw [hw]; exact hk) (.inr rfl) (Kin.refl w))
  | buildSlice t len parts =>
    simp only [vcEff] at H
    split at H
    case h_2 => exact H.elim
    rename_i el vs ht hv
    split at H
    case h_2 => exact H.elim
    rename_i z hl hz
    have hlen := Nat.eq_of_beq_eq_true hl
    have e1 : (parts.map fun (i, x) => (i, a.eval x)) = vs.toArray := by
      apply Array.ext'
      have := partsV_eval hA hv
      simpa using this
    subst hw
    obtain ⟨i, hi, hiz⟩ := info_of hz
    obtain ⟨⟨hsz, hk⟩, hf⟩ := seqParts_sound vs 0 len (((Array.range (len * P.cellsOf el)).map ((if len * P.cellsOf el = 0 then #[] else z.cells)[· % (if len * P.cellsOf el = 0 then #[] else z.cells).size]!)).toList) (by omega) (by simp) H
    simp only [Array.toArray_toList, Nat.zero_mul, List.take_zero, List.nil_append] at hf
    refine wp_value (v := .slice (some ⟨w.heap.size, 0, none⟩) len len) (w' := { w with heap := w.heap.push (.cells (catCells vs).toArray el) }) ?_ (hn _ _ _ (newK_run hk) (.inr rfl) ⟨rfl, rfl, rfl⟩)
    have hle : ¬ (len * P.cellsOf el > 2 ^ 24) := by have e : (2 : Nat) ^ 24 = 16777216 := by decide
                                                     omega
    simp only [execOp, Instr.buildSlice, Sem.run_bind, run_und ht, Result.andThen_ok, run_sizeI hi, if_neg hle, e1]
    by_cases h0 : len * P.cellsOf el = 0
    · simp only [h0, if_true] at hf ⊢
      simp at hf
      simp [hf, newRow]
    · simp only [h0, if_false] at hf ⊢
      simp [run_zero hz, hf, newRow]
  | makeSlice t x y =>
    simp only [vcEff] at H
    split at H
    case h_2 => exact H.elim
    rename_i kl l kc c hx hy
    split at H
    case h_2 => exact H.elim
    rename_i el ht
    split at H
    case h_2 => exact H.elim
    rename_i z hz
    obtain ⟨h0, h1, h2, h3, hk⟩ := H
    obtain ⟨i, hi, hiz⟩ := info_of hz
    subst hw
    have wl : IntKind.i64.wrap l = l := IntWalk.i64_in _ (by omega)
    have wc : IntKind.i64.wrap c = c := IntWalk.i64_in _ (by omega)
    have ex : ∀ zs : Array Value, (c.toNat * P.cellsOf el = 0 ∨ zs = z.cells) → ((Array.range (c.toNat * P.cellsOf el)).map (zs[· % zs.size]!)) = mkCells z.cells (c.toNat * P.cellsOf el) := by
      intro zs hzs
      rcases hzs with h | h
      · simp [mkCells, h]
      · subst h; rfl
    refine wp_value (v := .slice (some ⟨w.heap.size, 0, none⟩) l.toNat c.toNat) (w' := { w with heap := w.heap.push (.cells (mkCells z.cells (c.toNat * P.cellsOf el)) el) }) ?_ (hn _ _ _ (newK_run hk) (.inr rfl) ⟨rfl, rfl, rfl⟩)
    have b1 : ((P.bytesOf el : Nat) : Int) * c ≤ 281474976710656 := h2
    have e48 : ((2 : Int) ^ 48) = 281474976710656 := by decide
    simp only [execOp, Instr.makeSlice, Sem.run_bind, run_und ht, Result.andThen_ok, opv_eval hA hx, opv_eval hA hy, asInt, asIntOf, Sem.run_pure, run_info hi, bytesOf_info hi, wl, wc]
    rw [if_neg (by simp only [e48, Bool.or_eq_true, decide_eq_true_eq]; omega)]
    simp only [Sem.run_bind, run_askRoom, Result.andThen_ok, run_sizeI hi]
    by_cases hz0 : c.toNat * P.cellsOf el = 0
    · rw [if_pos hz0]
      simp only [Sem.run_bind, Sem.run_pure, Result.andThen_ok, run_newRow, ex _ (.inl hz0)]
    · rw [if_neg hz0]
      simp only [Sem.run_bind, Sem.run_pure, Result.andThen_ok, run_zero hz, run_newRow, ex _ (.inr rfl)]
  | makeMap t r =>
    cases r with
    | some r => exact pure_ H
    | none =>
      simp only [vcEff] at H
      subst hw
      refine wp_value (v := .map (some w.heap.size)) (w' := { w with heap := w.heap.push (.map #[] 0) }) ?_ (hn _ _ _ (newK_run H) (.inr rfl) ⟨rfl, rfl, rfl⟩)
      simp [execOp, Instr.makeMap]
  | convert s d x =>
    simp only [vcEff] at H
    split at H
    case h_2 => exact pure_ H
    rename_i el h2
    split at H
    case h_2 => exact H.elim
    rename_i h3
    split at H
    case h_2 => exact H.elim
    rename_i ds h1
    split at H
    · rename_i b hx
      subst hw
      obtain ⟨c, hc, hr⟩ := run_stringToBytes (P := P) w el b
      refine wp_value (v := .slice (some ⟨w.heap.size, 0, none⟩) b.size c) (w' := { w with drawn := w.drawn + 1, heap := w.heap.push (.cells ((bytesV b).toArray ++ Array.replicate (c - b.size) (.int .u8 0)) el (c, c + 1)) }) ?_ (hn _ _ _ (H c _ _ hc ⟨rfl, rfl⟩) (.inr rfl) ⟨rfl, rfl, rfl⟩)
      simp [execOp, opv_eval hA hx, convert, run_und h1, run_und h2, run_und h3, hr]
    · rename_i ad l c hx
      split at H
      case h_2 => exact H.elim
      rename_i hsd
      obtain rfl := Nat.eq_of_beq_eq_true hsd
      obtain ⟨⟨cs, t, fr, hb⟩, hk⟩ := H
      subst hw
      refine wp_value (v := .slice (some ad) l c) (w' := { w with heap := w.heap.modify ad.block markO }) ?_ (hn _ _ _ (hk _ rfl) (.inr rfl) ⟨rfl, rfl, rfl⟩)
      have hm : (markStringish ad).run P w = .ok () { w with heap := w.heap.modify ad.block markO } := by
        unfold markStringish
        simp only [Sem.run_bind, run_shape, Result.andThen_ok]
        have hs : w.shape? ad.block = some (t, cs.size) := by simp [World.shape?, hb]
        rw [hs]
        simp only [run_freeze, World.freeze]
        congr 1
        simp only [Nat.add_one_ne_zero, if_false]
        congr 1
        apply Array.ext_getElem?
        intro i
        rw [Array.getElem?_modify, Array.getElem?_modify]
        by_cases hi : ad.block = i
        · subst hi; simp [hb, markO]
        · simp [hi]
      simp [execOp, opv_eval hA hx, convert, run_und h2, run_und h3, hm]
    · exact H.elim
  | lookup t x i ok =>
    simp only [vcEff] at H
    split at H
    case h_2 => exact H.elim
    rename_i m k hx hi
    exact semK_wp (by simp only [execOp, opv_eval hA hx, opv_eval hA hi]) hw hn H fun v h' hv => resK_out hv
  | mapUpdate t m k x =>
    simp only [vcEff] at H
    split at H
    case h_2 => exact H.elim
    rename_i hm hk hx
    exact semU_wp (by simp only [execOp, opv_eval hA hm, opv_eval hA hk, opv_eval hA hx]) hw hn H
  | insert t m k x =>
    simp only [vcEff] at H
    split at H
    case h_2 => exact H.elim
    rename_i hm hk hx
    exact semU_wp (by simp only [execOp, opv_eval hA hm, opv_eval hA hk, opv_eval hA hx]) hw hn H
  | mapEntry t m k =>
    simp only [vcEff] at H
    split at H
    case h_2 => exact H.elim
    rename_i hm hk
    split at H
    case h_2 => exact H.elim
    exact semK_wp (by simp only [execOp, opv_eval hA hm, opv_eval hA hk]) hw hn H fun v h' hv => by
      obtain ⟨u, n, rfl, hK⟩ := withSh_some hv
      exact hK
  | entryStore t m k x =>
    simp only [vcEff] at H
    split at H
    case h_2 => exact H.elim
    rename_i hm hk hx
    exact semU_wp (by simp only [execOp, opv_eval hA hm, opv_eval hA hk, opv_eval hA hx]) hw hn H
  | range t x =>
    simp only [vcEff] at H
    split at H
    case h_2 => exact H.elim
    rename_i hx
    exact semK_wp (by simp only [execOp, opv_eval hA hx]) hw hn H fun v h' hv => by
      obtain ⟨b, rfl, hK⟩ := hv
      exact hK
  | next it b =>
    simp only [vcEff] at H
    split at H
    case h_2 => exact H.elim
    rename_i hx
    exact semK_wp (by simp only [execOp, opv_eval hA hx]) hw hn H fun v h' hv => by
      rcases hv with ⟨rfl, hK⟩ | ⟨k, u, rfl, hK⟩
      · exact hK
      · exact hK
  | entry it =>
    simp only [vcEff] at H
    split at H
    case h_2 => exact H.elim
    rename_i hx _
    exact semK_wp (by simp only [execOp, opv_eval hA hx]) hw hn H fun v h' hv => by
      obtain ⟨k, hk⟩ := withSh_some hv
      obtain ⟨u, rfl, hK⟩ := withSh_some hk
      exact hK
  | sliceToArrayPointer t x =>
    simp only [vcEff] at H
    split at H
    case h_2 => exact H.elim
    rename_i p l c hx
    split at H
    case h_2 => exact H.elim
    rename_i n el ht
    obtain ⟨hle, hk⟩ := H
    refine wp_value (v := .pointer p) (w' := w) ?_ (hn _ _ _ (by rw [hw]; exact hk) (.inr rfl) (Kin.refl w))
    simp [execOp, opv_eval hA hx, Instr.arrayAt, run_und ht, Nat.not_lt.2 hle]
  | call c =>
    obtain ⟨callee, args, tys⟩ := c
    simp only [vcEff] at H
    split at H
    · split at H
      case h_2 => exact H.elim
      rename_i t u p l cp x ht hv
      obtain rfl : tys = #[t, u] := by apply Array.ext'; simpa using ht
      split at H
      case h_2 => exact H.elim
      rename_i el d h1 h2
      split at H
      case h_2 => exact H.elim
      rename_i de h3 h4
      split at H
      case h_2 => exact H.elim
      rename_i z hb hz
      have hb' : P.bytesOf el ≠ 0 := fun h0 => by rw [h0] at hb; cases hb
      obtain ⟨a', l', c', w', hr, hk, hK⟩ := run_append (P := P) (ty := ty) h1 h2 h4 h3 hb' hz hw H
      refine wp_value (v := .slice a' l' c') (w' := w') ?_ (hn _ _ _ hK (.inr rfl) hk)
      simp [execOp, resolve, invoke, builtin, opvs_arr hA hv, hr]
    · split at H
      case h_2 => exact H.elim
      rename_i t ts p l cp x ht hv
      obtain rfl : tys = (t :: ts).toArray := by apply Array.ext'; simpa using ht
      split at H
      case h_2 => exact H.elim
      rename_i el h1
      split at H
      case h_2 => exact H.elim
      rename_i de h3
      split at H
      case h_2 => exact H.elim
      rename_i hs1
      obtain ⟨n, w', hr, hk, hK⟩ := run_copy (P := P) (c := cp) (ts := ts) (ty := ty) h1 h3 (fun s hs => by subst hs; exact Nat.eq_of_beq_eq_true hs1) hw H
      refine wp_value (v := .int .i64 n) (w' := w') ?_ (hn _ _ _ hK (.inr rfl) hk)
      simp [execOp, resolve, invoke, builtin, opvs_arr hA hv, hr]
    · split at H
      case h_2 => exact H.elim
      rename_i vs hv
      exact semK_wp (by simp only [execOp, resolve, opvs_arr hA hv]; rfl) hw hn H fun v h' hv => hv
    · split at H
      case h_2 => exact H.elim
      rename_i vs hv
      exact semK_wp (by simp only [execOp, resolve, opvs_arr hA hv]; rfl) hw hn H fun v h' hv => hv
    · split at H
      case h_2 => exact H.elim
      rename_i t ts ht
      split at H
      · split at H
        case h_2 => exact H.elim
        rename_i vs hv
        exact semK_wp (by simp only [execOp, resolve, opvs_arr hA hv]; rfl) hw hn H fun v h' hv => resK_out hv
      · exact pure_ H
    · exact callK_wp rfl rfl hA hw hn H
    · exact pure_ H
  | _ => exact pure_ H
/-- what a panic finds -/
def PanO (A : Ann) (w : World) (a : Act) (Q : Exit → Act → World → Prop) : Prop := ∀ chain w', Raised chain → A.pan w'.heap → Kin w w' → Q (.panic chain) a w'
theorem vcEffP_sound {A : Ann} {o : Oper} {e : Env} {h : Heap} {K : Option Value → Heap → Prop} {a : Act} {w : World} {next : Act → World → Prop} {Q : Exit → Act → World → Prop}
    (hy : A.yld = false) (hA : Agree e a.tmps) (hw : w.heap = h) (hn : Nexts o a w K next) (hP : PanO A w a Q) (H : vcEffP P A o e h K) : o.wp P a w next Q := by
  unfold vcEffP at H
  rw [hy] at H
  simp only at H
  split at H
  · exact vcEff_sound hA hw hn H
  · split at H
    · rename_i x ho
      split at H
      · rename_i t v hx
        have hr : (execOp a.eval o).run P w = .halt (.panic (.iface t v)) w := by
          simp [execOp, ho, opv_eval hA hx, Instr.panic, goPanic]
        unfold Oper.wp
        rw [hr]
        exact hP _ _ ⟨t, v, rfl⟩ (by rw [hw]; exact H) (Kin.refl w)
      · exact H.elim
    · rename_i c ho
      split at H
      · rename_i f hc
        split at H
        · rename_i g first captured vs hf hv
          split at H
          · have e1 := opv_eval hA hf
            have e2 := opvs_arr hA hv
            have harr : (first.toList ++ vs ++ captured.toList).toArray = first ++ vs.toArray ++ captured := by apply Array.ext'; simp
            rw [harr] at H
            have hr : execOp a.eval o = callFunc g (first ++ vs.toArray ++ captured) := by
              simp only [execOp, ho, resolve, hc, e1, e2, Deferred.ofValue]
              rfl
            unfold Oper.wp
            rw [hr]
            obtain ⟨h1, hC⟩ := H w hw
            rw [h1]
            simp only [Oper.upon]
            refine hC.mono fun en w' he => ?_
            rcases he with ⟨v, rfl, hk, hR⟩ | ⟨chain, rfl, hc, hk, hR⟩
            · obtain ⟨u, rfl, hK⟩ := withSh_some hR
              exact hn _ _ _ hK (.inr rfl) hk
            · exact hP _ _ hc hR hk
          · exact vcEff_sound hA hw hn H
        · exact H.elim
      · exact vcEff_sound hA hw hn H
    · exact vcEff_sound hA hw hn H
end Go.Vc
