import Derived.Test.YtpehbcfoddggoaaDoorTrailR

namespace Go.Proofs.YtpehbcfoddggoaaDoor
open Go.Vc
theorem bulk_one {H : Type} (d : DataW H) : 1 ≤ Rows.uptoBulk d := by
  unfold Rows.uptoBulk; split <;> omega
theorem bulk_at {H : Type} : ∀ {l : List (DataW H)} (i : Nat) {d : DataW H}, l[i]? = some d → Rows.uptoBulk d ≤ Rows.uptoBulkAll l
  | [], i, d, h => by simp at h
  | x :: r, 0, d, h => by
    simp at h; subst h
    unfold Rows.uptoBulkAll; omega
  | x :: r, i + 1, d, h => by
    have := bulk_at (l := r) i (by simpa using h)
    unfold Rows.uptoBulkAll; omega
theorem bulk_len {H : Type} : ∀ l : List (DataW H), l.length ≤ Rows.uptoBulkAll l
  | [] => Nat.zero_le _
  | x :: r => by
    have := bulk_len r
    have := bulk_one x
    unfold Rows.uptoBulkAll
    simp only [List.length_cons]; omega
theorem bulk_bound {H : Type} {l : List (DataW H)} (hk : Rows.uptoSmall H (l ++ []) = true) : Rows.uptoBulkAll l ≤ 1048576 := by
  rw [List.append_nil] at hk
  exact of_decide_eq_true hk
theorem bulk_bytes {H : Type} {h : Heap} {a : Option Addr} {l c : Nat} {bs : List Nat} {d : DataW H} (i : InB h a l c bs) (e : (d = .nil ∧ bs = []) ∨ ∃ els sp, d = .slice els sp ∧ els.length = l ∧ els.length + sp.length = c) : bs.length ≤ Rows.uptoBulk d := by
  rcases e with ⟨_, rfl⟩ | ⟨els, sp, rfl, h1, h2⟩
  · exact Nat.zero_le _
  · have := bulk_len els
    have := i.len
    unfold Rows.uptoBulk; omega
theorem bulk_string {H : Type} (s : ByteArray) : s.size ≤ Rows.uptoBulk (DataW.lit (H := H) (.string s.data.toList)) := by
  unfold Rows.uptoBulk
  show s.data.size ≤ _
  simp
end Go.Proofs.YtpehbcfoddggoaaDoor
