import Derived.Test.YtpnbbgcaaogpdaaDoorVcC

namespace Go.Vc
set_option linter.unusedSimpArgs false
variable {P : Program}

theorem vcEql_sound {t : TypeId} {h : Heap} {x y : Value} {ox oy : Operand} {K : Bool → Prop} (H : vcEqlAt P t h x y K) :
    ∃ b, K b ∧ ∀ (op : BinOp) w, Ext h w.heap → (eqGuard op t ox oy x y).run P w = .ok () w ∧ (binOp .eql t x y).run P w = .ok (.bool b) w ∧ (binOp .neq t x y).run P w = .ok (.bool (!b)) w := by
  unfold vcEqlAt at H
  split at H
  case h_2 => exact H.elim
  rename_i d hu
  split at H
  case h_2 => exact H.elim
  rename_i hd
  have go : ∀ b, (∀ n w, (Op.equalIn (n + 1) t x y).run P w = .ok b w) → (∀ op w, (eqGuard op t ox oy x y).run P w = .ok () w) → ((∀ w, (Op.equal t x y).run P w = .ok b w) → ∀ w, (binOp .eql t x y).run P w = .ok (.bool b) w ∧ (binOp .neq t x y).run P w = .ok (.bool (!b)) w) → K b → ∃ b, K b ∧ ∀ (op : BinOp) w, Ext h w.heap → (eqGuard op t ox oy x y).run P w = .ok () w ∧ (binOp .eql t x y).run P w = .ok (.bool b) w ∧ (binOp .neq t x y).run P w = .ok (.bool (!b)) w :=
    fun b h1 h2 h4 h3 => ⟨b, h3, fun op w _ => ⟨h2 op w, h4 (fun w => h1 9999 w) w⟩⟩
  unfold vcEql at H
  split at H
  · cases d <;> simp [fitsB] at hd
    exact go _ (fun n w => by simp [Op.equalIn, run_und hu]) (fun op w => by unfold eqGuard; cases op <;> simp) (fun h w => by constructor <;> simp [binOp, h w]) H
  · cases d <;> simp [fitsB] at hd
    rename_i p _
    exact go _ (fun n w => by cases p <;> simp [Op.equalIn, run_und hu]) (fun op w => by unfold eqGuard; cases op <;> simp) (fun h w => by constructor <;> simp [binOp, h w]) H
  · obtain ⟨b, hr, hg, hk⟩ := H
    exact ⟨b, hk, fun op w hw => ⟨by unfold eqGuard; cases op <;> simp [hg], by simp [binOp, hr w hw], by simp [binOp, hr w hw]⟩⟩
  · cases d <;> simp [fitsB] at hd
    rename_i p _ _ _ _ _
    exact go _ (fun n w => by cases p <;> simp [Op.equalIn, run_und hu]) (fun op w => by unfold eqGuard; cases op <;> simp) (fun h w => by constructor <;> simp [binOp, h w]) H
  · cases d <;> simp [fitsB] at hd
    rename_i p _ _
    exact go _ (fun n w => by cases p <;> simp [Op.equalIn, run_und hu]) (fun op w => by unfold eqGuard; cases op <;> simp) (fun h w => by constructor <;> simp [binOp, h w]) H
  · cases d <;> simp [fitsB] at hd
    exact go _ (fun n w => by simp [Op.equalIn, run_und hu]) (fun op w => by unfold eqGuard; cases op <;> simp) (fun h w => by constructor <;> simp [binOp, h w]) H
  · cases d <;> simp [fitsB] at hd
    exact go _ (fun n w => by simp [Op.equalIn, run_und hu]) (fun op w => by unfold eqGuard; cases op <;> simp) (fun h w => by constructor <;> simp [binOp, h w]) H
  · cases d <;> simp [fitsB] at hd
    exact go _ (fun n w => by simp [Op.equalIn, run_und hu]) (fun op w => by unfold eqGuard; cases op <;> simp) (fun h w => by constructor <;> simp [binOp, h w]) H
  · obtain ⟨b, hr, hg, hk⟩ := H
    exact ⟨b, hk, fun op w _ => ⟨by unfold eqGuard; cases op <;> simp [hg], by simp [binOp, hr w], by simp [binOp, hr w]⟩⟩
  · exact H.elim

theorem foldl_bytes (l : List UInt8) (d : Array UInt8) : l.foldl (fun s b => (⟨s.data.push b⟩ : ByteArray)) ⟨d⟩ = ⟨d ++ l.toArray⟩ := by
  induction l generalizing d with
  | nil => simp
  | cons b l ih => simp only [List.foldl_cons, ih]; congr 1; apply Array.ext'; simp

theorem run_bytesToString {w : World} {a : Option Addr} {l c : Nat} (bs : ByteArray) (hl : bs.size = l) (hc : ∀ ad, a = some ad → CellsAt w.heap ad (bytesV bs)) (hn : a = none → l = 0) :
    (Conv.bytesToString (.slice a l c)).run P w = .ok (.string bs) w := by
  cases a with
  | none =>
    have : bs = .empty := by
      have h := hn rfl
      rw [h] at hl
      cases bs with | mk d => simp [ByteArray.size] at hl; subst hl; rfl
    simp [Conv.bytesToString, this]
  | some ad =>
    have hr := run_cells (P := P) (hc ad rfl)
    have hlen : (bytesV bs).length = l := by simp [bytesV, ← hl]
    rw [hlen] at hr
    have h2 := foldl_bytes bs.data.toList #[]
    simp [Conv.bytesToString, hr, bytesV, ByteArray.push, ByteArray.empty, ByteArray.emptyWithCapacity]
    have h3 := Array.foldl_toList (f := fun (b : ByteArray) a => (⟨b.data.push a⟩ : ByteArray)) (init := ⟨#[]⟩) (xs := bs.data)
    rw [h2] at h3
    have h4 : (⟨#[] ++ bs.data.toList.toArray⟩ : ByteArray) = bs := by simp
    exact (h4.symm.trans h3).symm

theorem run_sliceBounds {w : World} {b : Bool} {n c : Nat} {lo hi : Option Value} (l u : Int) (hl : (lo = none ∧ l = 0) ∨ ∃ k, lo = some (.int k l)) (hu : (hi = none ∧ u = n) ∨ ∃ k, hi = some (.int k u)) (h0 : 0 ≤ l) (h1 : l ≤ u)
    (h2 : u ≤ c ∨ (hi = none ∧ u = n)) : (Instr.sliceBounds b n c lo hi none).run P w = .ok (l.toNat, u.toNat, c) w := by
  have hi' : ∀ k (y : Int) (z : Nat) code, 0 ≤ y → y ≤ z → (Instr.sliceBound (.int k y) z code).run P w = .ok y.toNat w := by
    intro k y z code g0 g1
    simp [Instr.sliceBound, asIntOf, g0, g1]
  unfold Instr.sliceBounds
  rcases hu with ⟨rfl, hu⟩ | ⟨ku, rfl⟩
  · subst hu
    rcases hl with ⟨rfl, rfl⟩ | ⟨kl, rfl⟩
    · simp
    · simp [hi' _ _ _ _ h0 h1]
  · have h2' : u ≤ c := by rcases h2 with h | ⟨h, _⟩; exact h; cases h
    have hu0 : 0 ≤ u := by omega
    rcases hl with ⟨rfl, rfl⟩ | ⟨kl, rfl⟩
    · simp [hi' _ _ _ _ hu0 h2']
    · have hlu : l ≤ (u.toNat : Int) := by omega
      simp [hi' _ _ _ _ hu0 h2', hi' _ _ _ _ h0 hlu]
theorem run_sliceBounds3 {w : World} {b : Bool} {n c : Nat} {lo : Option Value} {ku kv : IntKind} (l u v : Int) (hl : (lo = none ∧ l = 0) ∨ ∃ k, lo = some (.int k l)) (h0 : 0 ≤ l) (h1 : l ≤ u)
    (h2 : u ≤ v) (h3 : v ≤ c) : (Instr.sliceBounds b n c lo (some (.int ku u)) (some (.int kv v))).run P w = .ok (l.toNat, u.toNat, v.toNat) w := by
  have hi' : ∀ k (y : Int) (z : Nat) code, 0 ≤ y → y ≤ z → (Instr.sliceBound (.int k y) z code).run P w = .ok y.toNat w := by
    intro k y z code g0 g1
    simp [Instr.sliceBound, asIntOf, g0, g1]
  unfold Instr.sliceBounds
  have g1 : u ≤ (v.toNat : Int) := by omega
  have g2 : l ≤ (u.toNat : Int) := by omega
  rcases hl with ⟨rfl, rfl⟩ | ⟨kl, rfl⟩
  · simp [hi' _ _ _ _ (show 0 ≤ v by omega) h3, hi' _ _ _ _ (show 0 ≤ u by omega) g1]
  · simp [hi' _ _ _ _ (show 0 ≤ v by omega) h3, hi' _ _ _ _ (show 0 ≤ u by omega) g1, hi' _ _ _ _ h0 g2]
theorem sliceLo {e : Env} {a : Act} {lo : Option Operand} {k : IntKind} {l : Int} (hA : Agree e a.tmps) (h : (match lo with | none => some (Value.int .i64 0) | some p => opv e p) = some (.int k l)) :
    (lo.map a.eval = none ∧ l = 0) ∨ ∃ k, lo.map a.eval = some (.int k l) := by
  cases lo with
  | none => simp at h; exact .inl ⟨rfl, h.2.symm⟩
  | some p => exact .inr ⟨k, by simp [opv_eval hA h]⟩
theorem sliceHi {e : Env} {a : Act} {hi : Option Operand} {k : IntKind} {u : Int} {n : Nat} (hA : Agree e a.tmps) (h : (match hi with | none => some (Value.int .i64 n) | some p => opv e p) = some (.int k u)) :
    (hi.map a.eval = none ∧ u = n) ∨ ∃ k, hi.map a.eval = some (.int k u) := by
  cases hi with
  | none => simp at h; exact .inl ⟨rfl, h.2.symm⟩
  | some p => exact .inr ⟨k, by simp [opv_eval hA h]⟩

theorem vcPure_sound {A : Ann} {o : Oper} {e : Env} {h : Heap} {K : Option Value → Prop} {a : Act} (hA : Agree e a.tmps) (H : vcPure P A o e h K) :
    ∃ v, K (some v) ∧ ∀ w : World, Ext h w.heap → (execOp a.eval o).run P w = .ok (.value v) w := by
  obtain ⟨dst, op, ty, pos, after, guard⟩ := o
  cases op with
  | move x =>
    simp only [vcPure] at H
    split at H
    · rename_i v hv
      have hk : K (some v) := by
        split at H
        · exact fnV_out (K := fun u => K (some u)) H
        · exact H
      exact ⟨v, hk, fun w _ => by simp [execOp, opv_eval hA hv]⟩
    · exact H.elim
  | assign x =>
    simp only [vcPure] at H
    split at H
    · rename_i v hv
      have hk : K (some v) := by
        split at H
        · exact fnV_out (K := fun u => K (some u)) H
        · split at H
          · split at H
            · exact bindV_out H
            · exact H
          · exact H
      exact ⟨v, hk, fun w _ => by simp [execOp, opv_eval hA hv]⟩
    · exact H.elim
  | pick c x y =>
    simp only [vcPure] at H
    split at H
    · rename_i b hb
      have hc := opv_eval hA hb
      split at H
      · rename_i u v hu hv
        have h1 := opv_eval hA hu
        have h2 := opv_eval hA hv
        refine ⟨_, H, fun w _ => ?_⟩
        cases b <;> simp [execOp, hc, asBool, h1, h2, bsel]
      · rename_i u v _ hu hv
        have h1 := opv_eval hA hu
        have h2 := opv_eval hA hv
        cases b
        · exact ⟨v, H, fun w _ => by simp [execOp, hc, asBool, h2]⟩
        · exact ⟨u, H, fun w _ => by simp [execOp, hc, asBool, h1]⟩
      · rename_i u hu hv
        have h1 := opv_eval hA hu
        cases b
        · exact H.elim
        · exact ⟨u, H, fun w _ => by simp [execOp, hc, asBool, h1]⟩
      · rename_i v hu hv
        have h2 := opv_eval hA hv
        cases b
        · exact ⟨v, H, fun w _ => by simp [execOp, hc, asBool, h2]⟩
        · exact H.elim
      · exact H.elim
    · exact H.elim
  | load t x =>
    simp only [vcPure] at H
    split at H
    · rename_i ad hv
      obtain ⟨v, hk, hr⟩ := run_ld H
      exact ⟨v, hk, fun w hw => by simp [execOp, opv_eval hA hv, Instr.loadAt, Instr.sureAddr, Sem.run_bind, hr w hw]⟩
    · exact H.elim
  | nilCheck x =>
    simp only [vcPure] at H
    split at H
    · rename_i p hv
      obtain ⟨ad, rfl, hk⟩ := H
      exact ⟨_, hk, fun w _ => by simp [execOp, opv_eval hA hv]⟩
    · rename_i f u v hv
      exact ⟨_, H, fun w _ => by simp [execOp, opv_eval hA hv]⟩
    · exact H.elim
  | binOp op t x y yt =>
    simp only [vcPure] at H
    split at H
    · rename_i k p k' q hx hy
      obtain ⟨v, hk, hr⟩ := run_int (P := P) (t := t) H
      refine ⟨v, hk, fun w _ => ?_⟩
      simp [execOp, opv_eval hA hx, opv_eval hA hy, eqGuard, Sem.run_bind, hr w]
    · rename_i p q hx hy
      obtain ⟨v, hk, hr⟩ := run_str (P := P) (t := t) H
      refine ⟨v, hk, fun w _ => ?_⟩
      simp [execOp, opv_eval hA hx, opv_eval hA hy, eqGuard, Sem.run_bind, hr w]
    · rename_i u v hnn hss hx hy
      cases op <;> simp only at H
      case eql =>
        obtain ⟨b, hk, hr⟩ := vcEql_sound (ox := x) (oy := y) H
        exact ⟨_, hk, fun w hw => by simp [execOp, opv_eval hA hx, opv_eval hA hy, (hr .eql w hw).1, (hr .eql w hw).2.1]⟩
      case neq =>
        obtain ⟨b, hk, hr⟩ := vcEql_sound (ox := x) (oy := y) H
        exact ⟨_, hk, fun w hw => by simp [execOp, opv_eval hA hx, opv_eval hA hy, (hr .neq w hw).1, (hr .neq w hw).2.2]⟩
      all_goals exact H.elim
    · exact H.elim
  | unOp op t x =>
    simp only [vcPure] at H
    split at H
    · rename_i k n hx; exact ⟨_, H, fun w _ => by simp [execOp, opv_eval hA hx, Op.unary, Op.intArith]⟩
    · rename_i k n hx; exact ⟨_, H, fun w _ => by simp [execOp, opv_eval hA hx, Op.unary, Op.intBits, notI, xorI]⟩
    · rename_i b hx; exact ⟨_, H, fun w _ => by simp [execOp, opv_eval hA hx, Op.unary]⟩
    · exact H.elim
  | convert s d x =>
    simp only [vcPure] at H
    split at H
    · rename_i k n hx
      split at H
      · rename_i d1 k1 h1 h2
        exact ⟨_, H, fun w _ => by simp [execOp, opv_eval hA hx, convert, run_und h1, run_und h2, Conv.intToInt]⟩
      · exact H.elim
    · rename_i b hx
      split at H
      · rename_i h1 h2
        exact ⟨_, H, fun w _ => by simp [execOp, opv_eval hA hx, convert, run_und h1, run_und h2]⟩
      · exact H.elim
    · rename_i p l c hx
      split at H
      · rename_i el h1 h2
        split at H
        · rename_i h3
          obtain ⟨bs, hl, hc, hn, hk⟩ := H
          refine ⟨_, hk, fun w hw => ?_⟩
          have := run_bytesToString (P := P) (w := w) (a := p) (l := l) (c := c) bs hl (fun ad h => (hc ad h).ext hw) hn
          simp [execOp, opv_eval hA hx, convert, run_und h1, run_und h2, run_und h3, this]
        · exact H.elim
      · exact H.elim
    · exact H.elim
  | slice t x lo hi mx =>
    simp only [vcPure] at H
    split at H
    · rename_i q
      split at H
      case h_2 => exact H.elim
      rename_i p n m kv v hx hq
      split at H
      case h_2 => exact H.elim
      rename_i el ht
      split at H
      · exact H.elim
      rename_i d hd
      split at H
      case h_2 => exact H.elim
      rename_i kl l y hl
      split at H
      case h_2 => exact H.elim
      rename_i ku u hu
      obtain ⟨h0, h1, h2, h3, hk⟩ := H
      refine ⟨_, hk, fun w _ => ?_⟩
      have := run_sliceBounds3 (P := P) (b := true) (w := w) (n := n) (c := m) (lo := lo.map a.eval) (ku := ku) (kv := kv) l u v (sliceLo hA hl) h0 h1 h2 h3
      simp [execOp, opv_eval hA hx, opv_eval hA hq, opv_eval hA hu, Instr.sliceAt, run_und ht, Instr.slice, this, run_size hd, cutAt]
    split at H
    · rename_i s hx
      split at H
      · rename_i ht
        split at H
        · rename_i kl l ku u hl hu
          obtain ⟨h0, h1, h2, hk⟩ := H
          refine ⟨_, hk, fun w _ => ?_⟩
          have := run_sliceBounds (P := P) (b := false) (w := w) (n := s.size) (c := s.size) (lo := lo.map a.eval) (hi := hi.map a.eval) l u (sliceLo hA hl) (sliceHi hA hu) h0 h1 (.inl h2)
          simp [execOp, opv_eval hA hx, Instr.sliceAt, run_und ht, Instr.slice, this]
        · exact H.elim
      · exact H.elim
    · rename_i p n m hx
      split at H
      · rename_i el ht
        split at H
        · exact H.elim
        rename_i d hd
        split at H
        · rename_i kl l hl
          obtain ⟨h0, h1, hk⟩ := H
          refine ⟨_, hk, fun w _ => ?_⟩
          have := run_sliceBounds (P := P) (b := true) (w := w) (n := n) (c := m) (lo := lo.map a.eval) (hi := none) l n (sliceLo hA hl) (.inl ⟨rfl, rfl⟩) h0 h1 (.inr ⟨rfl, rfl⟩)
          simp [execOp, opv_eval hA hx, Instr.sliceAt, run_und ht, Instr.slice, this, run_size hd, cutAt]
        · rename_i kl l q hl
          split at H
          · rename_i ku u hq
            obtain ⟨h0, h1, h2, hk⟩ := H
            refine ⟨_, hk, fun w _ => ?_⟩
            have := run_sliceBounds (P := P) (b := true) (w := w) (n := n) (c := m) (lo := lo.map a.eval) (hi := some (a.eval q)) l u (sliceLo hA hl) (.inr ⟨ku, by rw [opv_eval hA hq]⟩) h0 h1 (.inl h2)
            simp [execOp, opv_eval hA hx, Instr.sliceAt, run_und ht, Instr.slice, this, run_size hd, cutAt]
          · exact H.elim
        · exact H.elim
      · exact H.elim
    · rename_i ad hx
      split at H
      · rename_i n el ht
        split at H
        · exact H.elim
        rename_i d hd
        split at H
        · rename_i kl l ku u hl hu
          obtain ⟨h0, h1, h2, hk⟩ := H
          refine ⟨_, hk, fun w _ => ?_⟩
          have := run_sliceBounds (P := P) (b := false) (w := w) (n := n) (c := n) (lo := lo.map a.eval) (hi := hi.map a.eval) l u (sliceLo hA hl) (sliceHi hA hu) h0 h1 (.inl h2)
          have hc : (some (if n = l.toNat then ad else ad.add (l.toNat * P.cellsOf el))) = cutAt n l.toNat (P.cellsOf el) (some ad) := by unfold cutAt; split <;> rfl
          simp only [execOp, opv_eval hA hx, Instr.sliceAt, Instr.sureAddr, Sem.run_bind, run_und ht, Result.andThen_ok, Sem.run_pure, Option.map_none, this, run_size hd]
          rw [← hc]
        · exact H.elim
      · exact H.elim
    · exact H.elim
  | fieldAddr t x f =>
    simp only [vcPure] at H
    split at H
    · rename_i ad hx
      split at H
      · rename_i fs ht
        split at H
        · rename_i fl hf
          split at H
          · exact H.elim
          · rename_i n hn
            refine ⟨_, H, fun w _ => ?_⟩
            have hs : (sizeOf fl.type).run P w = .ok (n + 1) w := by
              have : ∃ i, P.info? fl.type = some i ∧ i.size = n + 1 := by
                unfold Program.cellsOf at hn
                cases hi : P.info? fl.type with
                | none => simp [hi] at hn
                | some i => exact ⟨i, rfl, by simpa [hi] using hn⟩
              obtain ⟨i, hi, hn'⟩ := this
              unfold sizeOf typeInfo; simp [Sem.run_bind, hi, hn']
            simp [execOp, opv_eval hA hx, Instr.fieldAt, Instr.sureAddr, run_und ht, hf, fieldPlace, hs]
        · exact H.elim
      · exact H.elim
    · exact H.elim
  | field t x f =>
    simp only [vcPure] at H
    split at H
    case h_2 => exact H.elim
    rename_i cs hx
    split at H
    case h_2 => exact H.elim
    rename_i fs ht
    split at H
    case h_2 => exact H.elim
    rename_i fl hf
    split at H
    · rename_i d hd
      exact ⟨_, H, fun w _ => by simp [execOp, opv_eval hA hx, Instr.field, run_und ht, hf, asAgg, run_part hd rfl]⟩
    · rename_i d hd
      exact ⟨_, H, fun w _ => by simp [execOp, opv_eval hA hx, Instr.field, run_und ht, hf, asAgg, run_part hd rfl]⟩
    · rename_i d h1 h2 hd
      have hp : plainD d = true := by cases d <;> simp_all [plainD]
      split at H
      · split at H
        · obtain ⟨v, hv, hk⟩ := withSh_some H
          exact ⟨v, hk, fun w _ => by simp [execOp, opv_eval hA hx, Instr.field, run_und ht, hf, asAgg, run_part_plain hd hp hv]⟩
        · split at H
          · rename_i v hv
            have hv' : cs[fl.offset]? = some v := by simpa using hv
            exact ⟨v, H, fun w _ => by simp [execOp, opv_eval hA hx, Instr.field, run_und ht, hf, asAgg, run_part_plain hd hp hv']⟩
          · exact H.elim
      · exact H.elim
    · exact H.elim
  | index t x i =>
    simp only [vcPure] at H
    split at H
    case h_2 => exact H.elim
    rename_i k n hi
    split at H
    · rename_i s hx
      split at H
      case h_2 => exact H.elim
      rename_i ht
      obtain ⟨h0, h1, hk⟩ := H
      have hb : s[n.toNat]? = some (s.data.getD n.toNat 0) := by
        have hl : n.toNat < s.size := by omega
        have hl2 : n.toNat < s.data.size := hl
        rw [show s[n.toNat]? = s.data[n.toNat]? from by simp [getElem?, decidableGetElem?, hl2, hl]; rfl]
        rw [Array.getD_eq_getD_getElem?, Array.getElem?_eq_getElem hl2]; rfl
      refine ⟨_, hk, fun w _ => ?_⟩
      simp [execOp, opv_eval hA hi, opv_eval hA hx, Instr.index, asIntOf, run_und ht, h0, hb, bt]
    · rename_i cs hx
      split at H
      case h_2 => exact H.elim
      rename_i len el ht
      split at H
      · rename_i d hd
        obtain ⟨h0, h1, hk⟩ := H
        exact ⟨_, hk, fun w _ => by simp [execOp, opv_eval hA hi, opv_eval hA hx, Instr.index, asIntOf, run_und ht, h0, h1, run_size hd, run_part hd rfl]⟩
      · rename_i d hd
        obtain ⟨h0, h1, hk⟩ := H
        exact ⟨_, hk, fun w _ => by simp [execOp, opv_eval hA hi, opv_eval hA hx, Instr.index, asIntOf, run_und ht, h0, h1, run_size hd, run_part hd rfl]⟩
      · rename_i d g1 g2 hd
        obtain ⟨h0, h1, H⟩ := H
        have hp : plainD d = true := by cases d <;> simp_all [plainD]
        obtain ⟨v, hv, hk⟩ := withSh_some H
        exact ⟨v, hk, fun w _ => by simp [execOp, opv_eval hA hi, opv_eval hA hx, Instr.index, asIntOf, run_und ht, h0, h1, run_size hd, run_part_plain hd hp hv]⟩
      · exact H.elim
    · exact H.elim
  | indexAddr t x i =>
    simp only [vcPure] at H
    split at H
    case h_2 => exact H.elim
    rename_i k n hi
    split at H
    · rename_i p l c hx
      split at H
      case h_2 => exact H.elim
      rename_i el ht
      split at H
      · exact H.elim
      rename_i d hd
      obtain ⟨ad, rfl, h0, h1, hk⟩ := H
      exact ⟨_, hk, fun w _ => by simp [execOp, opv_eval hA hi, opv_eval hA hx, Instr.indexAt, asIntOf, run_und ht, h0, h1, run_size hd]⟩
    · rename_i ad hx
      split at H
      case h_2 => exact H.elim
      rename_i len el ht
      split at H
      · exact H.elim
      rename_i d hd
      obtain ⟨h0, h1, hk⟩ := H
      exact ⟨_, hk, fun w _ => by simp [execOp, opv_eval hA hi, opv_eval hA hx, Instr.indexAt, Instr.sureAddr, asIntOf, run_und ht, h0, h1, run_size hd]⟩
    · exact H.elim
  | extract x ix =>
    simp only [vcPure] at H
    split at H
    case h_2 => exact H.elim
    rename_i vs hx
    split at H
    case h_2 => exact H.elim
    rename_i v hv
    have hv' : vs[ix]? = some v := by simpa using hv
    exact ⟨v, H, fun w _ => by simp [execOp, opv_eval hA hx, Instr.extract, hv']⟩
  | makeInterface t x =>
    simp only [vcPure] at H
    split at H
    case h_2 => exact H.elim
    rename_i v hx
    split at H
    · exact H.elim
    · rename_i d hn hd
      refine ⟨_, H, fun w _ => ?_⟩
      have : ∀ ms, d ≠ .interface ms := fun ms h => hn ms (by rw [← h])
      simp only [execOp, opv_eval hA hx, Instr.makeInterface, Sem.run_bind, run_und hd, Result.andThen_ok]
      cases d <;> simp_all
    · exact H.elim
  | sliceToArrayPointer t x =>
    simp only [vcPure] at H
    split at H
    case h_2 => exact H.elim
    rename_i p l c hx
    split at H
    case h_2 => exact H.elim
    rename_i n el ht
    obtain ⟨hle, ad, rfl, hk⟩ := H
    exact ⟨_, hk, fun w _ => by simp [execOp, opv_eval hA hx, Instr.arrayAt, run_und ht, Nat.not_lt.2 hle]⟩
  | makeFunc fn u v =>
    simp only [vcPure] at H
    split at H
    case h_2 => exact H.elim
    rename_i us vs hu hv
    refine ⟨_, H, fun w _ => ?_⟩
    have e1 : u.map a.eval = us.toArray := by apply Array.ext'; simpa using opvs_eval hA hu
    have e2 : v.map a.eval = vs.toArray := by apply Array.ext'; simpa using opvs_eval hA hv
    simp [execOp, Instr.makeFunc, e1, e2]
  | call c =>
    obtain ⟨callee, args, tys⟩ := c
    simp only [vcPure] at H
    split at H
    · split at H
      case h_2 => exact H.elim
      rename_i t ts v vs ht hv
      have e1 := opvs_eval hA hv
      obtain ⟨x, args', rfl⟩ : ∃ x l, args = (x :: l).toArray := by
        cases h : args.toList with
        | nil => rw [h] at e1; simp at e1
        | cons x l => exact ⟨x, l, by apply Array.ext'; simpa using h⟩
      obtain rfl : tys = (t :: ts).toArray := by apply Array.ext'; simpa using ht
      simp only [List.toList_toArray, List.map_cons, List.cons.injEq] at e1
      obtain ⟨e1, e2⟩ := e1
      split at H
      · rename_i hu; exact ⟨_, H, fun w _ => by simp [execOp, resolve, invoke, builtin, Builtin.len_, e1, run_und hu, goInt]⟩
      · rename_i hu; exact ⟨_, H, fun w _ => by simp [execOp, resolve, invoke, builtin, Builtin.len_, e1, run_und hu, goInt]⟩
      · rename_i hu; exact ⟨_, H, fun w _ => by simp [execOp, resolve, invoke, builtin, Builtin.len_, e1, run_und hu, goInt]⟩
      · exact H.elim
    · split at H
      case h_2 => exact H.elim
      rename_i t ts v vs ht hv
      have e1 := opvs_eval hA hv
      obtain ⟨x, args', rfl⟩ : ∃ x l, args = (x :: l).toArray := by
        cases h : args.toList with
        | nil => rw [h] at e1; simp at e1
        | cons x l => exact ⟨x, l, by apply Array.ext'; simpa using h⟩
      obtain rfl : tys = (t :: ts).toArray := by apply Array.ext'; simpa using ht
      simp only [List.toList_toArray, List.map_cons, List.cons.injEq] at e1
      obtain ⟨e1, e2⟩ := e1
      split at H
      · rename_i hu; exact ⟨_, H, fun w _ => by simp [execOp, resolve, invoke, builtin, Builtin.cap_, e1, run_und hu, goInt]⟩
      · exact H.elim
    · split at H
      · rename_i hv
        have e1 := opvs_eval hA hv
        exact ⟨_, H, fun w _ => by simp [execOp, resolve, invoke, builtin, Builtin.min_, Array.toList_map, e1, Builtin.min2, minI]⟩
      · rename_i hv
        have e1 := opvs_eval hA hv
        exact ⟨_, H, fun w _ => by simp [execOp, resolve, invoke, builtin, Builtin.min_, Array.toList_map, e1, Builtin.min2, minI]; rfl⟩
      · exact H.elim
    · split at H
      · rename_i hv
        have e1 := opvs_eval hA hv
        exact ⟨_, H, fun w _ => by simp [execOp, resolve, invoke, builtin, Builtin.max_, Array.toList_map, e1, Builtin.max2, maxI]⟩
      · rename_i hv
        have e1 := opvs_eval hA hv
        exact ⟨_, H, fun w _ => by simp [execOp, resolve, invoke, builtin, Builtin.max_, Array.toList_map, e1, Builtin.max2, maxI]⟩
      · exact H.elim
    · exact H.elim
  | _ => exact H.elim
end Go.Vc
