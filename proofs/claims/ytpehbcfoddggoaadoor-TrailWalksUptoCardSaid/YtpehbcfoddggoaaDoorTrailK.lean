import Derived.Test.YtpehbcfoddggoaaDoorTrailJ

namespace Go.Proofs.YtpehbcfoddggoaaDoor
open Go.Vc Go.Sha Go.Trail Go.RowKit
set_option linter.unusedVariables false

/-- what is true, and keeps what there was -/
def yes (h : Heap) : Value → Heap → Prop := fun v h' => v = .bool true ∧ Ext h h'
theorem works_yes {h h1 : Heap} (x : Ext h h1) (hm : MaxAt h) : HCalls Tryd.prog 15 #[] h1 fun r h2 => ∃ b, r = .bool b ∧ yes h (.bool b) h2 := by
  refine HEnt.use (works_ok _ (hm.ext x)) ?_
  rintro _ h5 ⟨rfl, x5⟩
  exact ⟨true, rfl, rfl, x.trans x5⟩
theorem str_small {l : List Nat} (h : l.length ≤ 200) : (str l).size < 2 ^ 25 := by rw [str_size]; omega

theorem near_ok (s t u : ByteArray) (hs : s.size < 2 ^ 30) (ht : t.size < 2 ^ 30) (hu : u.size < 2 ^ 30) (h : Heap) (hm : MaxAt h) : HEnt Tryd.prog 5 #[.string s, .string t, .string u] h (yes h) := by
  refine F5_ent _ _ _ _ _ ?_
  unfold F5
  refine HEnt.use (clean_ok s hs h hm) ?_
  rintro _ h1 ⟨rfl, x1⟩
  refine ⟨_, _, rfl, HEnt.use (clean_ok t ht h1 (hm.ext x1)) ?_⟩
  rintro _ h2 ⟨rfl, x2⟩
  have x12 := x1.trans x2
  refine ⟨_, _, rfl, HEnt.use (clean_ok u hu h2 (hm.ext x12)) ?_⟩
  rintro _ h3 ⟨rfl, x3⟩
  have x13 := x12.trans x3
  refine ⟨_, _, rfl, fun h' => Ext h h', ?_, ?_⟩
  · have k2 : ∀ b, F5_k2 (fun h' => Ext h h') (str (clean (lst s)).1) (str (clean (lst t)).1) (str (clean (lst u)).1) b h3 (yes h) := fun b => by
      unfold F5_k2
      exact br_of (fun _ => works_yes x13 hm) (fun _ => x13)
    exact br_of (fun _ => k2 _) (fun _ => br_of (fun _ => k2 _) (fun _ => k2 _))
  · intro h4 x4
    have lp := clean_lt (lst s)
    have lq := clean_lt (lst t)
    have lr := clean_lt (lst u)
    have np := str_small (clean_len (lst s))
    have nq := str_small (clean_len (lst t))
    have nr := str_small (clean_len (lst u))
    generalize (clean (lst s)).1 = p at *
    generalize (clean (lst t)).1 = q at *
    generalize (clean (lst u)).1 = r at *
    have ep : lst (str p) = p := lst_str p lp
    have eq : lst (str q) = q := lst_str q lq
    have er : lst (str r) = r := lst_str r lr
    unfold F5_k3
    refine ⟨fun h' => Ext h h', ?_, ?_⟩
    · have k5 : F5_k5 (fun h' => Ext h h') (str p) (str r) false h4 (yes h) := by
        unfold F5_k5
        exact br_of (fun hb => by cases hb) (fun _ => x4)
      refine HEnt.use (in_ok _ _ (by omega) h4) ?_
      rintro _ _ ⟨rfl, rfl⟩
      refine ⟨_, rfl, br_of (fun h1' => ?_) (fun _ => k5)⟩
      refine HEnt.use (less_ok _ _ (by omega) _) ?_
      rintro _ _ ⟨rfl, rfl⟩
      refine ⟨_, rfl, br_of (fun h2' => ?_) (fun _ => k5)⟩
      refine HEnt.use (less_ok _ _ (by omega) _) ?_
      rintro _ _ ⟨rfl, rfl⟩
      refine ⟨_, rfl, br_of (fun h3' => ?_) (fun _ => k5)⟩
      refine HEnt.use (in_ok _ _ (by omega) _) ?_
      rintro _ _ ⟨rfl, rfl⟩
      refine ⟨_, rfl, ?_⟩
      rw [ep, er] at h1'
      rw [ep, eq] at h2'
      rw [eq, er] at h3'
      rw [ep, eq, between h1' (by simpa using h2') h3']
      exact k5
    · intro h5 x5
      unfold F5_k6
      refine HEnt.use (in_ok _ _ (by omega) h5) ?_
      rintro _ _ ⟨rfl, rfl⟩
      refine ⟨_, rfl, br_of (fun _ => works_yes x5 hm) (fun h1' => br_of (fun _ => works_yes x5 hm) (fun h2' => ?_))⟩
      refine HEnt.use (less_ok _ _ (by omega) _) ?_
      rw [ep, er] at h1' ⊢
      rw [seq_str2 p r lp lr] at h2'
      rw [below_less (by simpa using h1') (of_decide_eq_false h2')]
      rintro _ _ ⟨rfl, rfl⟩
      exact ⟨_, rfl, br_of (fun _ => works_yes x5 hm) (fun hb => by cases hb)⟩

theorem parts_joinT {m : List (List Nat)} (h : ∀ p ∈ m, partP p) (h8 : m.length ≤ 8) : partsL (joinT m) = m := by
  by_cases h0 : m = []
  · subst h0; rfl
  · rw [parts_good (good_of_parts h h8) (joinT_ne h0 h), pieces_join m h0 h]
theorem joinT_length_up {m : List (List Nat)} {x : List Nat} : (joinT m).length ≤ (joinT (m ++ [x])).length := by
  rw [joinT_snoc]
  split
  · rename_i h; subst h; simp [joinT]
  · simp
theorem ups_ok (s : ByteArray) (hs : s.size < 2 ^ 30) (h : Heap) (hm : MaxAt h) : HEnt Tryd.prog 10 #[.string s] h (yes h) := by
  refine F10_ent _ _ _ ?_
  unfold F10
  refine HEnt.use (clean_ok s hs h hm) ?_
  rintro _ h1 ⟨rfl, x1⟩
  refine ⟨_, _, rfl, fun h' => Ext h h' ∧ (clean (lst s)).2 = 0 ∧ (clean (lst s)).1 ≠ [], ?_, ?_⟩
  · have k2 : ∀ b, (b = false → (clean (lst s)).2 = 0 ∧ (clean (lst s)).1 ≠ []) → F10_k2 (fun h' => Ext h h' ∧ (clean (lst s)).2 = 0 ∧ (clean (lst s)).1 ≠ []) (str (clean (lst s)).1) b h1 (yes h) := fun b hb => by
      unfold F10_k2
      refine br_of (fun _ => ?_) (fun e => ⟨x1, hb e⟩)
      refine HEnt.use (up_ok _ (by decide) h1 (hm.ext x1)) ?_
      rintro _ h2 ⟨rfl, x2⟩
      refine ⟨_, _, rfl, ?_⟩
      rw [show upL (lst (⟨#[]⟩ : ByteArray)) = ([], false) from rfl]
      exact br_of (fun _ => br_of (fun _ => works_yes (x1.trans x2) hm) (fun hb => by cases hb)) (fun hb => by rw [str_nil, seq_self] at hb; cases hb)
    refine br_of (fun _ => k2 true (fun e => by cases e)) (fun h0 => k2 _ fun e => ?_)
    rw [seq_str_nil _ (clean_lt _)] at e
    have : (((clean (lst s)).2 : Nat) : Int) = 0 := by simpa using h0
    exact ⟨by omega, of_decide_eq_false e⟩
  · rintro h2 ⟨x2, he, hne⟩
    have hg := clean_out he
    have lp := clean_lt (lst s)
    have np := clean_len (lst s)
    generalize (clean (lst s)).1 = p at *
    obtain ⟨hpp, h8⟩ := good_pieces hg hne
    have ejp := join_pieces p
    obtain ⟨m, x, hmx⟩ := snoc_of (show pieces p ≠ [] by obtain ⟨a, b, e⟩ := pieces_ne p; rw [e]; simp)
    have hup : upL p = (joinT m, true) := by
      unfold upL; rw [if_neg (fun e => e.elim hne fun e => e hg), hmx, List.dropLast_concat]
    have hpl : partsL p = m ++ [x] := by rw [parts_good hg hne, hmx]
    rw [hmx] at hpp h8 ejp
    have hmP : ∀ q ∈ m, partP q := fun q hq => hpp q (List.mem_append_left _ hq)
    have hxP : partP x := hpp x (by simp)
    have h8m : m.length ≤ 7 := by rw [List.length_append] at h8; simp at h8; omega
    have hul : (joinT m).length ≤ 200 := by
      have := joinT_length_up (m := m) (x := x)
      rw [ejp] at this; omega
    have lu := joinT_lt hmP
    have lx := part_lt hxP
    have ep : lst (str p) = p := lst_str p lp
    have eu : lst (str (joinT m)) = joinT m := lst_str _ lu
    have ex : lst (str x) = x := lst_str _ lx
    unfold F10_k3
    refine HEnt.use (up_ok _ (by have := str_small np; omega) h2 (hm.ext x2)) ?_
    rw [ep, hup]
    rintro _ h3 ⟨rfl, x3⟩
    have x23 := x2.trans x3
    refine ⟨_, _, rfl, HEnt.use (parts_ok _ (by have := str_small np; omega) h3 (hm.ext x23)) ?_⟩
    rw [ep, hpl]
    rintro _ h4 ⟨a, l, c, rfl, o⟩
    have hl := o.len
    rw [vals_len, List.length_append, List.length_singleton] at hl
    subst hl
    have x24 := x23.trans o.ext
    have ew : IntKind.i64.wrap (((m.length + 1 : Nat) : Int) - 1) = ((m.length : Nat) : Int) := by rw [i64_lt _ (by omega) (by omega)]; omega
    refine ⟨a, _, c, rfl, fun h' => Ext h4 h', ?_, ?_⟩
    · refine br_of (fun hb => by cases hb) (fun _ => br_of (fun hb => ?_) (fun _ => ?_))
      · have : ((m.length + 1 : Nat) : Int) = 0 := by simpa using hb
        omega
      · refine HEnt.use (parts_ok (str (joinT m)) (by have := str_small hul; omega) h4 (hm.ext x24)) ?_
        rw [eu, parts_joinT hmP (by omega)]
        rintro _ h5 ⟨a', l', c', rfl, o'⟩
        have hl' := o'.len
        rw [vals_len] at hl'
        subst hl'
        refine ⟨a', _, c', rfl, ?_⟩
        rw [ew]
        unfold F10_k5
        exact br_of (fun hb => by simp at hb) (fun _ => o'.ext)
    · intro h5 x5
      have o5 := o.grow x5
      have x25 := x24.trans x5
      obtain ⟨b, rfl, _, hc⟩ := o5.cell (show (vals (m ++ [x]))[m.length]? = some (.string (str x)) by simp [vals])
      unfold F10_k6
      rw [ew]
      refine ⟨_, rfl, by omega, by omega, _, by rw [Int.toNat_natCast, Nat.mul_one, add_mk, Nat.zero_add]; exact hc, ?_⟩
      refine HEnt.use (joinF_ok _ _ (str_small hul) (by rw [str_size]; have := hxP.2.1; omega) h5 (hm.ext x25)) ?_
      rw [eu, ex, clean_down hpp h8, ejp]
      rintro _ h6 ⟨rfl, x6⟩
      have x26 := x25.trans x6
      refine ⟨_, _, rfl, HEnt.use (joinF_ok _ _ (str_small np) (by decide) h6 (hm.ext x26)) ?_⟩
      rw [ep, lst_dots]
      conv in clean (p ++ _) => rw [← ejp, clean_up hpp h8]
      rintro _ h7 ⟨rfl, x7⟩
      have x27 := x26.trans x7
      refine ⟨_, _, rfl, HEnt.use (in_ok (str (joinT m)) _ (by have := str_small hul; omega) h7) ?_⟩
      have below : joinT m = [] ∨ p = joinT m ++ 47 :: x := by
        by_cases h0 : m = []
        · subst h0; exact .inl rfl
        · exact .inr (by rw [← ejp, joinT_up h0])
      have i1 : inP (joinT m) p = true := by
        rcases below with e | e
        · rw [e]; unfold inP; simp
        · rw [e]; exact inP_below _ _
      have i2 : inP p (joinT m) = false := by
        rw [← Bool.not_eq_true]
        intro hin
        rcases inP_cases hin with e | e | ⟨t, e⟩
        · exact hne e
        · rcases below with e2 | e2
          · exact hne (e.symm.trans e2)
          · have := congrArg List.length e2
            rw [e] at this; simp at this
        · rcases below with e2 | e2
          · rw [e2] at e; simp at e
          · have h1 := congrArg List.length e
            have h2 := congrArg List.length e2
            simp at h1 h2; omega
      have i3 : lexK (joinT m) p = true := below_less i1 (fun e => by rw [e] at i1 i2; rw [i1] at i2; cases i2)
      rw [eu, ep, i1]
      rintro _ _ ⟨rfl, rfl⟩
      refine ⟨_, rfl, br_of (fun _ => ?_) (fun hb => by cases hb)⟩
      refine HEnt.use (in_ok (str p) _ (by have := str_small np; omega) _) ?_
      rw [eu, ep, i2]
      rintro _ _ ⟨rfl, rfl⟩
      refine ⟨_, rfl, br_of (fun _ => ?_) (fun hb => by cases hb)⟩
      refine HEnt.use (less_ok (str (joinT m)) _ (by have := str_small hul; omega) _) ?_
      rw [eu, ep, i3]
      rintro _ _ ⟨rfl, rfl⟩
      refine ⟨_, rfl, br_of (fun _ => ?_) (fun hb => by cases hb)⟩
      refine br_of (fun _ => br_of (fun _ => br_of (fun _ => br_of (fun _ => works_yes x27 hm) (fun hb => by cases hb)) (fun hb => ?_)) (fun hb => by cases hb)) (fun hb => ?_)
      · rw [seq_self] at hb; cases hb
      · rw [seq_self] at hb; cases hb

theorem once_ok (s : ByteArray) (hs : s.size < 2 ^ 30) (h : Heap) (hm : MaxAt h) : HEnt Tryd.prog 7 #[.string s] h (yes h) := by
  refine F7_ent _ _ _ ?_
  unfold F7
  refine HEnt.use (clean_ok s hs h hm) ?_
  rintro _ h1 ⟨rfl, x1⟩
  refine ⟨_, _, rfl, br_of (fun h0 => ?_) (fun h0 => ?_)⟩
  · have h0' : (clean (lst s)).2 ≠ 0 := by
      intro e
      rw [e] at h0; cases h0
    obtain ⟨e1, e2⟩ := clean_bad h0'
    rw [e1, str_nil, seq_self]
    refine br_of (fun _ => br_of (fun _ => works_yes x1 hm) (fun hb => br_of (fun _ => works_yes x1 hm) (fun hb2 => ?_))) (fun hb => by cases hb)
    rcases e2 with e | e <;> rw [e] at hb hb2 <;> simp at hb hb2
  · have he : (clean (lst s)).2 = 0 := by
      have : (((clean (lst s)).2 : Nat) : Int) = 0 := by simpa using h0
      omega
    have hg := clean_out he
    have lp := clean_lt (lst s)
    have np := clean_len (lst s)
    generalize (clean (lst s)).1 = p at *
    have ep : lst (str p) = p := lst_str p lp
    have hsz : (str p).size ≤ 200 := by rw [str_size]; exact np
    unfold F7_k1
    refine HEnt.use (clean_ok _ (by omega) h1 (hm.ext x1)) ?_
    rw [ep, clean_good hg]
    rintro _ h2 ⟨rfl, x2⟩
    have x12 := x1.trans x2
    refine ⟨_, _, rfl, by show 1 + _ ≤ _; omega, by rw [ByteArray.size_append]; show 1 + _ + 1 ≤ _; omega, ?_⟩
    refine HEnt.use (clean_ok _ ?_ h2 (hm.ext x12)) ?_
    · rw [ByteArray.size_append, ByteArray.size_append]; show 1 + _ + 1 < _; omega
    rw [lst_append, lst_append, ep]
    rw [show lst (⟨#[47]⟩ : ByteArray) ++ p ++ lst (⟨#[47]⟩ : ByteArray) = 47 :: p ++ [47] from rfl, clean_slashes hg]
    rintro _ h3 ⟨rfl, x3⟩
    have x13 := x12.trans x3
    refine ⟨_, _, rfl, HEnt.use (parts_ok _ (by omega) h3 (hm.ext x13)) ?_⟩
    rw [ep]
    rintro _ h4 ⟨a, l, c, rfl, o⟩
    have hl := o.len
    rw [vals_len] at hl
    subst hl
    have x14 := x13.trans o.ext
    obtain ⟨hpp, h8⟩ := parts_all p
    have hjp : joinT (partsL p) = p := by
      by_cases h0 : p = []
      · subst h0; rfl
      · rw [parts_good hg h0, join_pieces]
    generalize partsL p = ps at *
    refine ⟨a, _, c, rfl, ?_⟩
    refine ⟨fun s x h' => ∃ k : Nat, x = k ∧ k ≤ ps.length ∧ s = str (joinT (ps.take k)) ∧ h' = h4, fun _ x _ => (ps.length - x).toNat, ⟨0, rfl, by omega, rfl, rfl⟩, ?_⟩
    rintro h5 _ _ ⟨k, rfl, hk, rfl, rfl⟩
    unfold F7_b2
    refine br_of (fun ht => ?_) (fun hf => ?_)
    · have hk' : k < ps.length := by
        have : (k : Int) < (ps.length : Int) := by simpa using ht
        omega
      have hlen := joinT_len (ps.take k) fun p hpm => (hpp p (List.mem_of_mem_take hpm)).2.1
      rw [List.length_take] at hlen
      obtain ⟨b, rfl, _, hc⟩ := o.cell (vals_get hk')
      have hx := hpp _ (getD_mem hk')
      have e1 : IntKind.i64.wrap ((k : Int) + 1) = ((k + 1 : Nat) : Int) := by rw [i64_lt _ (by omega) (by omega)]; omega
      have step : ∀ (t : List Nat) (s5 : ByteArray) (x6 : Int) (s7 : ByteArray) (x8 : Int), t ++ ps.getD k [] = joinT (ps.take (k + 1)) → t.length ≤ 2 ^ 50 → F7_k4 (fun s x h' => ∃ k : Nat, x = k ∧ k ≤ ps.length ∧ s = str (joinT (ps.take k)) ∧ h' = h5) (fun _ x _ => (ps.length - x).toNat) (((ps.length : Int) - (k : Int)).toNat) (str p) s5 x6 s7 x8 (str t) (some ⟨b, 0, none⟩) ps.length c (k : Int) (ps.length : Int) (k : Int) h5 (yes h) := by
        intro t s5 x6 s7 x8 he htl
        unfold F7_k4
        refine ⟨_, rfl, by omega, by omega, _, by rw [Int.toNat_natCast, Nat.mul_one, add_mk, Nat.zero_add]; exact hc, ?_, ?_⟩
        · rw [str_size, str_size]; have := hx.2.1; omega
        · unfold F7_k5
          rw [e1, str_app, he]
          exact ⟨⟨k + 1, rfl, by omega, rfl, rfl⟩, by show ((ps.length : Int) - ((k + 1 : Nat) : Int)).toNat < ((ps.length : Int) - (k : Int)).toNat; omega⟩
      unfold F7_k3
      refine br_of (fun hpos => ?_) (fun hz => ?_)
      · have hpos' : 0 < k := by
          have : (k : Int) > 0 := by simpa using hpos
          omega
        refine ⟨?_, ?_⟩
        · rw [str_size]; show _ + 1 ≤ _; omega
        · rw [show (⟨#[47]⟩ : ByteArray) = str [47] from rfl, str_app]
          refine step _ _ _ _ _ ?_ (by rw [List.length_append]; simp; omega)
          rw [takeP_succ ps k hk', joinT_snoc, if_neg (fun e => ?_)]
          · simp
          · have := congrArg List.length e
            rw [List.length_take, List.length_nil] at this; omega
      · have hz' : k = 0 := by
          have : ¬ (k : Int) > 0 := by simpa using hz
          omega
        subst hz'
        refine step _ _ _ _ _ ?_ (by simp [joinT])
        rw [takeP_succ ps 0 hk', joinT_snoc]; simp [joinT]
    · have hk' : k = ps.length := by
        have : ¬ (k : Int) < (ps.length : Int) := by simpa using hf
        omega
      rw [List.take_of_length_le (by omega), hjp]
      unfold F7_k6
      rw [seq_self]
      refine br_of (fun _ => br_of (fun _ => br_of (fun _ => br_of (fun _ => br_of (fun _ => br_of (fun _ => works_yes x14 hm) (fun hb => ?_)) (fun hb => by cases hb)) (fun hb => by cases hb)) (fun hb => by cases hb)) (fun hb => by cases hb)) (fun hb => by cases hb)
      have : ¬ (ps.length : Int) ≤ 8 := by simpa using hb
      omega
end Go.Proofs.YtpehbcfoddggoaaDoor
