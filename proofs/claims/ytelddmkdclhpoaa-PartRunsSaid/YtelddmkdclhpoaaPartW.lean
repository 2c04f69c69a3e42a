/- Chapter 16: what a round of PartRuns keeps. -/
import Derived.Test.YtelddmkdclhpoaaPartP
namespace Go.Packs
open Go.Vc
theorem play_tick (p : PartV) : playV p (tickV p) = p := by
  unfold tickV
  split
  · rfl
  · split
    · rfl
    · split <;> rfl
/-- what a taken message may do -/
theorem take_does (p : PartV) (m : MsgV) (hg : goodP p) : ∃ q, playV p (takeV p m) = q ∧ goodP q ∧ q.root = p.root ∧
    ((q = p) ∨ (m.kind = 1 ∧ p.staged = 0 ∧ q.staged = m.txn ∧ q.done = p.done) ∨ (m.kind = 3 ∧ p.staged = m.txn ∧ q.staged = 0 ∧ q.done = p.done ++ [m.txn]) ∨ (q.staged = 0 ∧ q.done = p.done)) := by
  refine ⟨_, rfl, (again p m hg).1, ?_⟩
  by_cases hc : msgC m ≠ 0 ∨ m.to ≠ p.root
  · have : takeV p m = [] := by unfold takeV; rw [if_pos (.inr hc)]
    rw [this]; exact ⟨rfl, .inl rfl⟩
  have hm : msgC m = 0 := Classical.not_not.1 fun h => hc (.inl h)
  have ht : m.to = p.root := Classical.not_not.1 fun h => hc (.inr h)
  rw [takeV_good hg hm ht]
  by_cases k1 : m.kind = 1
  · rw [if_pos k1]; unfold prepV
    split
    · exact ⟨rfl, .inl rfl⟩
    · split
      · exact ⟨rfl, .inl rfl⟩
      · split
        · exact ⟨rfl, .inl rfl⟩
        · rename_i g3
          have g3 : p.staged = 0 := Classical.not_not.1 g3
          split
          · exact ⟨rfl, .inr (.inl ⟨k1, g3, rfl, rfl⟩)⟩
          · exact ⟨rfl, .inr (.inl ⟨k1, g3, rfl, rfl⟩)⟩
  rw [if_neg k1]
  by_cases k3 : m.kind = 3
  · rw [if_pos k3]; unfold commitV
    split
    · rename_i g1
      exact ⟨rfl, .inr (.inr (.inl ⟨k3, g1, rfl, rfl⟩))⟩
    · split
      · exact ⟨rfl, .inl rfl⟩
      · split
        · exact ⟨rfl, .inl rfl⟩
        · exact ⟨rfl, .inl rfl⟩
  rw [if_neg k3]
  split
  · split
    · exact ⟨rfl, .inr (.inr (.inr ⟨rfl, rfl⟩))⟩
    · exact ⟨rfl, .inl rfl⟩
  · exact ⟨rfl, .inl rfl⟩
end Go.Packs
