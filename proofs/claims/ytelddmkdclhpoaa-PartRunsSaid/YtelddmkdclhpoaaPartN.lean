/- Chapter 16: the law PartAgain. -/
import Derived.Test.YtelddmkdclhpoaaPartM
namespace Go.Packs
open Go.Vc
def zeroD : DeedV := ⟨5, 0, [], 0, 0, 0, 0, false⟩
def sendOf (l : List DeedV) : DeedV := l.foldl (fun a x => if x.kind = 5 then x else a) zeroD
def msgOf (x : DeedV) : MsgV := ⟨x.mq, x.mf, x.mt, x.mx, x.my, []⟩
def Again (p : PartV) (m : MsgV) : Prop :=
  goodP (playV p (takeV p m)) ∧ playV (playV p (takeV p m)) (takeV (playV p (takeV p m)) m) = playV p (takeV p m) ∧
    (sendOf (takeV p m)).mq = (sendOf (takeV (playV p (takeV p m)) m)).mq ∧ (sendOf (takeV p m)).my = (sendOf (takeV (playV p (takeV p m)) m)).my ∧ (sendOf (takeV p m)).mx = (sendOf (takeV (playV p (takeV p m)) m)).mx
theorem again_same {p : PartV} {m : MsgV} (hg : goodP p) (h : playV p (takeV p m) = p) : Again p m := by
  unfold Again; rw [h]; exact ⟨hg, h, rfl, rfl, rfl⟩
theorem takeV_good {p : PartV} {m : MsgV} (h1 : goodP p) (h2 : msgC m = 0) (h3 : m.to = p.root) : takeV p m = if m.kind = 1 then prepV p m else if m.kind = 3 then commitV p m.txn else if m.kind = 4 then (if p.staged = m.txn then [doV 4 m.txn []] else []) else [] := by
  unfold takeV
  rw [if_neg (fun h => h.elim (fun h => h h1) fun h => h.elim (fun h => h h2) fun h => h h3)]
theorem again (p : PartV) (m : MsgV) (hg : goodP p) : Again p m := by
  by_cases hc : msgC m ≠ 0 ∨ m.to ≠ p.root
  · have : takeV p m = [] := by unfold takeV; rw [if_pos (.inr hc)]
    exact again_same hg (by rw [this]; rfl)
  have hm : msgC m = 0 := Classical.not_not.1 fun h => hc (.inl h)
  have ht : m.to = p.root := Classical.not_not.1 fun h => hc (.inr h)
  have htx : 1 ≤ m.txn ∧ m.txn ≤ 1099511627776 := by
    unfold msgC at hm
    split at hm
    · cases hm
    · split at hm
      · cases hm
      · rename_i h2
        exact ⟨by have := fun h => h2 (.inr (.inl h)); omega, by have := fun h => h2 (.inr (.inr h)); omega⟩
  have hT := takeV_good hg hm ht
  by_cases k1 : m.kind = 1
  · rw [if_pos k1] at hT
    by_cases g1 : m.txn ∈ p.done
    · have : prepV p m = [] := by unfold prepV; rw [if_pos g1]
      exact again_same hg (by rw [hT, this]; rfl)
    by_cases g2 : p.staged = m.txn
    · have : prepV p m = [sendV p.root 2 m.txn true] := by unfold prepV; rw [if_neg g1, if_pos g2]
      exact again_same hg (by rw [hT, this]; rfl)
    by_cases g3 : p.staged ≠ 0
    · have : prepV p m = [sendV p.root 2 m.txn false] := by unfold prepV; rw [if_neg g1, if_neg g2, if_pos g3]
      exact again_same hg (by rw [hT, this]; rfl)
    · have hF : takeV p m = (if lastN p.done ≠ 0 then [doV 1 (lastN p.done) []] else []) ++ [doV 2 m.txn m.packs, sendV p.root 2 m.txn true] := by
        rw [hT]; unfold prepV; rw [if_neg g1, if_neg g2, if_neg g3]
      have hq : playV p (takeV p m) = { p with staged := m.txn } := by
        rw [hF]; split <;> rfl
      have hgq : goodP { p with staged := m.txn } := ⟨hg.1, by show 0 ≤ m.txn; omega, htx.2, hg.2.2.2.1, fun x hx => ⟨(hg.2.2.2.2 x hx).1, (hg.2.2.2.2 x hx).2.1, fun e => g1 (by rw [← show x = m.txn from e]; exact hx)⟩⟩
      have hS : takeV { p with staged := m.txn } m = [sendV p.root 2 m.txn true] := by
        rw [takeV_good hgq hm ht, if_pos k1]
        unfold prepV
        rw [if_neg g1, if_pos rfl]
      unfold Again
      rw [hq, hS]
      have hs : sendOf (takeV p m) = sendV p.root 2 m.txn true := by rw [hF]; split <;> rfl
      exact ⟨hgq, rfl, by rw [hs]; rfl, by rw [hs]; rfl, by rw [hs]; rfl⟩
  rw [if_neg k1] at hT
  by_cases k3 : m.kind = 3
  · rw [if_pos k3] at hT
    by_cases g1 : p.staged = m.txn
    · have hF : takeV p m = [doV 3 m.txn [], doV 1 m.txn [], sendV p.root 5 m.txn false] := by rw [hT]; unfold commitV; rw [if_pos g1]
      have hq : playV p (takeV p m) = { p with staged := 0, done := p.done ++ [m.txn] } := by rw [hF]; rfl
      have hgq : goodP { p with staged := 0, done := p.done ++ [m.txn] } := by
        refine ⟨hg.1, by show (0 : Int) ≤ 0; omega, by show (0 : Int) ≤ 1099511627776; omega, ?_⟩
        show goodD 0 (p.done ++ [m.txn])
        rw [goodD_succ]
        refine ⟨⟨hg.2.2.2.1, fun x hx => ⟨(hg.2.2.2.2 x hx).1, (hg.2.2.2.2 x hx).2.1, by have := (hg.2.2.2.2 x hx).1; omega⟩⟩, htx.1, htx.2, by omega, fun hx => (hg.2.2.2.2 _ hx).2.2 g1.symm⟩
      have hl : lastN (p.done ++ [m.txn]) = m.txn := by unfold lastN; simp
      have hS : takeV { p with staged := 0, done := p.done ++ [m.txn] } m = [doV 1 m.txn [], sendV p.root 5 m.txn false] := by
        rw [takeV_good hgq hm ht, if_neg k1, if_pos k3]
        unfold commitV
        rw [if_neg (show ¬ ((0 : Int) = m.txn) by omega), if_pos hl]
      unfold Again
      rw [hq, hS, hF]
      exact ⟨hgq, rfl, rfl, rfl, rfl⟩
    · have : playV p (takeV p m) = p := by
        rw [hT]; unfold commitV; rw [if_neg g1]
        split
        · rfl
        · split <;> rfl
      exact again_same hg this
  rw [if_neg k3] at hT
  by_cases k4 : m.kind = 4
  · rw [if_pos k4] at hT
    by_cases g1 : p.staged = m.txn
    · have hF : takeV p m = [doV 4 m.txn []] := by rw [hT, if_pos g1]
      have hq : playV p (takeV p m) = { p with staged := 0 } := by rw [hF]; rfl
      have hgq : goodP { p with staged := 0 } := ⟨hg.1, by show (0 : Int) ≤ 0; omega, by show (0 : Int) ≤ 1099511627776; omega, hg.2.2.2.1, fun x hx => ⟨(hg.2.2.2.2 x hx).1, (hg.2.2.2.2 x hx).2.1, by have := (hg.2.2.2.2 x hx).1; show x ≠ 0; omega⟩⟩
      have hS : takeV { p with staged := 0 } m = [] := by
        rw [takeV_good hgq hm ht, if_neg k1, if_neg k3, if_pos k4, if_neg (show ¬ ((0 : Int) = m.txn) by omega)]
      unfold Again
      rw [hq, hS, hF]
      exact ⟨hgq, rfl, rfl, rfl, rfl⟩
    · exact again_same hg (by rw [hT, if_neg g1]; rfl)
  · exact again_same hg (by rw [hT, if_neg k4]; rfl)
theorem takeV_len (p : PartV) (m : MsgV) : (takeV p m).length ≤ 3 := by
  unfold takeV
  split
  · simp
  · split
    · unfold prepV
      split
      · simp
      · split
        · simp
        · split
          · simp
          · split <;> simp
    · split
      · unfold commitV
        split
        · simp
        · split
          · simp
          · split <;> simp
      · split
        · split <;> simp
        · simp
theorem takeV_packs (p : PartV) (m : MsgV) : ∀ x ∈ takeV p m, x.packs = [] ∨ x.packs = m.packs := by
  unfold takeV
  split
  · simp
  · split
    · unfold prepV
      split
      · simp
      · split
        · simp [sendV]
        · split
          · simp [sendV]
          · split <;> simp [sendV, doV]
    · split
      · unfold commitV
        split
        · simp [sendV, doV]
        · split
          · simp [sendV, doV]
          · split <;> simp [sendV]
      · split
        · split <;> simp [doV]
        · simp
theorem sendOf_snoc (l : List DeedV) (x : DeedV) : sendOf (l ++ [x]) = if x.kind = 5 then x else sendOf l := by unfold sendOf; rw [List.foldl_append]; rfl
end Go.Packs
