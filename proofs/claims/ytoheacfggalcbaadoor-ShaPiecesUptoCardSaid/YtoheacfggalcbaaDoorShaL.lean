/- Chapter 3: the law ShaSums: contract. -/
import Derived.Test.YtoheacfggalcbaaDoorShaK
namespace Go.Proofs.YtoheacfggalcbaaDoor
open Go.Vc Go.Sha
set_option linter.unusedVariables false

theorem sums_ok (a : Option Addr) (l c : Nat) (bs : List Nat) (h : Heap) (hK : KAt h) (ib : In h a l c bs) (hlen : bs.length < 2 ^ 40) :
    HEnt Tryd.prog 3 #[.slice a l c] h fun v h' => v = .bool true ∧ Ext h h' := by
  refine F3_ent _ _ _ _ _ ?_
  have hl := ib.len
  have sL := sum_len bs
  unfold F3
  refine ⟨by decide, newK_intro fun h1 n1 x1 s1 => ?_⟩
  have o1 : Own 5 h1 h.size (some ⟨h.size, 0, none⟩) 0 0 [] := Own.new (cs := #[]) n1 (Nat.le_refl _)
  refine appK_own cells5 zero5 o1 (by omega) (ib.src x1) (by simp [hl]) (by simp [u8, one]) (by rw [bytes5]; omega) fun a2 c2 h2 o2 k12 => ⟨by decide, newK_intro fun h3 n3 x3 s3 => ?_⟩
  have sz12 := k12.size
  refine appK_own (m := 1) (news := [u8 90]) cells5 zero5 (o2.ext x3) (by omega) (srcK_slice rfl (fun ad e => by cases e; exact cells_blk0 n3) (by rintro ⟨⟩)) rfl (by simp [u8, one]) (by rw [bytes5]; omega) fun a4 c4 h4 o4 k34 => ?_
  have k04 : Keep (h.size ≤ ·) h h4 := (x1.keep _).trans (k12.trans ((x3.keep _).trans k34))
  have x04 : Ext h h4 := k04.ext fun i hi e => by omega
  have hcap := o4.cap
  obtain ⟨mb, -, hmb, -⟩ : ∃ b, True ∧ a4 = some ⟨b, 0, none⟩ ∧ True := by
    obtain ⟨_, _, b, cs, e, _⟩ := o4
    exact ⟨b, trivial, e, trivial⟩
  subst hmb
  obtain ⟨mlt, cI⟩ : mb < h4.size ∧ CellsAt h4 ⟨mb, 0, none⟩ (bs.map u8 ++ [u8 90]) := by
    obtain ⟨b, e1, _, e3, e2⟩ := o4.cells _ rfl
    cases e1; exact ⟨e3, by simpa using e2⟩
  have cB : CellsAt h4 ⟨mb, 0, none⟩ (bs.map u8) := fun i v hv => cI i v (by rw [List.getElem?_append_left (List.getElem?_eq_some_iff.1 hv).1]; exact hv)
  refine ⟨by omega, by omega, by omega, ?_⟩
  rw [cutAt_some _ _ _ _ (by omega), add_mk, Nat.zero_mul, Nat.add_zero, Int.toNat_natCast, Nat.sub_zero, Nat.sub_zero]
  refine HEnt.use (sum_ok (some ⟨mb, 0, none⟩) l c4 bs h4 (hK.ext x04) (fun p hp => ⟨hl, by omega, ib.lt, fun ad e _ => ?_, by rintro ⟨⟩⟩) (by omega)) ?_
  · cases e; exact ⟨mb, 0, rfl, by omega, cB⟩
  rintro _ h5 ⟨rfl, x5⟩
  refine ⟨_, by simp [sL], rfl, HEnt.use (refSum_ok a l c bs h h5 ib (x04.trans x5) hlen) ?_⟩
  rintro _ h6 ⟨rfl, x6⟩
  refine ⟨_, by simp [sL], rfl, true, fun w => by rw [eq_dig _ _ sL sL]; simp, guard24, br_of (fun _ => ?_) (fun hb => by simp at hb)⟩
  have x06 := (x04.trans x5).trans x6
  have hlt : ∀ x ∈ bs ++ [90], x < 256 := by
    intro x hx
    rcases List.mem_append.1 hx with h | h
    · exact ib.lt x h
    · simp at h; omega
  refine ⟨str (bs ++ [90]), by rw [str_size]; simp; omega, fun ad e => ?_, (by rintro ⟨⟩), str bs, by rw [str_size]; omega, fun ad e => ?_, fun e => by have := ib.nil e; rw [this] at hl; exact hl.symm, by rw [str_size]; show bs.length + 1 ≤ _; omega, ?_⟩
  · cases e
    rw [bytesV_str' _ hlt, List.map_append]
    exact cI.ext (x5.trans x6)
  · rw [bytesV_str' _ ib.lt]
    by_cases hne : bs = []
    · subst hne; intro j v hv; simp at hv
    obtain ⟨b, o, rfl, e2, e3⟩ := ib.at_ ad e hne
    exact e3.ext x06
  · have e90 : (⟨#[90]⟩ : ByteArray) = str [90] := rfl
    rw [e90, str_append, seq_self]
    refine br_of (fun _ => ?_) (fun hb => by cases hb)
    refine HEnt.use (works_ok h6 (hK.ext x06)) ?_
    rintro _ h7 ⟨rfl, x7⟩
    exact ⟨true, rfl, rfl, x06.trans x7⟩
end Go.Proofs.YtoheacfggalcbaaDoor
