/- Chapter 16: deeds: send, settle, list, commit, prepare, Take, Tick of the program. -/
import Derived.Test.YtelddmkdclhpoaaPartG
namespace Go.Packs
open Go.Vc
structure DeedV where
  kind : Int
  txn : Int
  packs : List PackV
  mq : Int
  mf : Int
  mt : Int
  mx : Int
  my : Bool
def deedCells (x : DeedV) (d : Hdr) : List Value := [.int .i64 x.kind, .int .i64 x.txn, .slice d.a d.l d.c, .int .i64 x.mq, .int .i64 x.mf, .int .i64 x.mt, .int .i64 x.mx, .bool x.my, .slice none 0 0]
def nilH : Hdr := ⟨none, 0, 0⟩
def sendV (root kind txn : Int) (yes : Bool) : DeedV := ⟨5, 0, [], kind, root, 0, txn, yes⟩
def doV (kind txn : Int) (ps : List PackV) : DeedV := ⟨kind, txn, ps, 0, 0, 0, 0, false⟩
/-- deeds one behind the other, made by the call -/
structure DeedsAt (Pk : Hdr → List PackV → Prop) (h0 h : Heap) (v : Hdr) (ds : List DeedV) (hs : List Hdr) : Prop where
  len : hs.length = ds.length
  rows : OwnR 37 9 h0 h v.a v.l v.c (List.zipWith deedCells ds hs)
  packs : ∀ (i : Nat) (x : DeedV) (d : Hdr), ds[i]? = some x → hs[i]? = some d → Pk d x.packs
def commitV (p : PartV) (t : Int) : List DeedV :=
  if p.staged = t then [doV 3 t [], doV 1 t [], sendV p.root 5 t false] else if lastN p.done = t then [doV 1 t [], sendV p.root 5 t false] else if t ∈ p.done then [sendV p.root 5 t false] else []
def prepV (p : PartV) (m : MsgV) : List DeedV :=
  if m.txn ∈ p.done then [] else if p.staged = m.txn then [sendV p.root 2 m.txn true] else if p.staged ≠ 0 then [sendV p.root 2 m.txn false]
  else (if lastN p.done ≠ 0 then [doV 1 (lastN p.done) []] else []) ++ [doV 2 m.txn m.packs, sendV p.root 2 m.txn true]
def takeV (p : PartV) (m : MsgV) : List DeedV :=
  if ¬ goodP p ∨ msgC m ≠ 0 ∨ m.to ≠ p.root then [] else if m.kind = 1 then prepV p m else if m.kind = 3 then commitV p m.txn else if m.kind = 4 then (if p.staged = m.txn then [doV 4 m.txn []] else []) else []
def tickV (p : PartV) : List DeedV := if ¬ goodP p then [] else if p.staged ≠ 0 then [sendV p.root 6 p.staged false] else if lastN p.done ≠ 0 then [doV 1 (lastN p.done) []] else []
end Go.Packs
namespace Go.Proofs.Ytelddmkdclhpoaa
open Go.Vc Go.Sha Go.Trail Go.Packs
set_option linter.unusedVariables false

theorem zeroC37 : (zeroC Try.prog 37).size = 9 := by kernel_rfl
theorem deed_one (p : DeedV) (d : Hdr) : ∀ u ∈ deedCells p d, one u = true := by
  intro u hu
  simp only [deedCells, List.mem_cons, List.not_mem_nil, or_false] at hu
  rcases hu with rfl | rfl | rfl | rfl | rfl | rfl | rfl | rfl | rfl <;> rfl
theorem send_ok (p : PartV) (d : Hdr) (k t : Int) (y : Bool) (h : Heap) :
    HEnt Try.prog 35 #[.agg (partCells p d).toArray, .int .i64 k, .int .i64 t, .bool y] h fun v h' => v = .agg (deedCells (sendV p.root k t y) nilH).toArray ∧ Ext h h' := by
  refine F35_ent _ _ _ _ _ _ _ _ _ _ ?_
  unfold F35
  refine (St.start h).new fun b4 h1 s1 _ _ => s1.new fun b8 h2 s2 _ _ => ?_
  refine ⟨p.root, s2.cell 1 rfl rfl, rfl, ?_⟩
  refine s2.storeAll 0 rfl rfl zeroC37 (deed_one (sendV p.root k t y) nilH) fun h3 s3 _ => ?_
  exact ⟨5, 0, none, 0, 0, k, p.root, 0, t, y, none, 0, 0, s3.cell 0 rfl rfl, s3.cell 0 rfl rfl, s3.cell 0 rfl rfl, s3.cell 0 rfl rfl, s3.cell 0 rfl rfl, s3.cell 0 rfl rfl, s3.cell 0 rfl rfl, s3.cell 0 rfl rfl, s3.cell 0 rfl rfl, rfl, rfl, s3.ext⟩
theorem refSend_ok (p : PartV) (d : Hdr) (k t : Int) (y : Bool) (h : Heap) :
    HEnt Try.prog 30 #[.agg (partCells p d).toArray, .int .i64 k, .int .i64 t, .bool y] h fun v h' => v = .agg (deedCells (sendV p.root k t y) nilH).toArray ∧ Ext h h' := by
  refine F30_ent _ _ _ _ _ _ _ _ _ _ ?_
  unfold F30
  refine (St.start h).new fun b4 h1 s1 _ _ => s1.new fun b8 h2 s2 _ _ => ?_
  refine ⟨p.root, s2.cell 1 rfl rfl, rfl, ?_⟩
  refine s2.storeAll 0 rfl rfl zeroC37 (deed_one (sendV p.root k t y) nilH) fun h3 s3 _ => ?_
  exact ⟨5, 0, none, 0, 0, k, p.root, 0, t, y, none, 0, 0, s3.cell 0 rfl rfl, s3.cell 0 rfl rfl, s3.cell 0 rfl rfl, s3.cell 0 rfl rfl, s3.cell 0 rfl rfl, s3.cell 0 rfl rfl, s3.cell 0 rfl rfl, s3.cell 0 rfl rfl, s3.cell 0 rfl rfl, rfl, rfl, s3.ext⟩
theorem settle_ok (t : Int) (h : Heap) : HEnt Try.prog 29 #[.int .i64 t] h fun v h' => v = .agg (deedCells (doV 1 t []) nilH).toArray ∧ Ext h h' := by
  refine F29_ent _ _ _ ?_
  unfold F29
  refine (St.start h).new fun b8 h2 s2 _ _ => ?_
  refine s2.storeAll 0 rfl rfl zeroC37 (deed_one (doV 1 t []) nilH) fun h3 s3 _ => ?_
  exact ⟨1, t, none, 0, 0, 0, 0, 0, 0, false, none, 0, 0, s3.cell 0 rfl rfl, s3.cell 0 rfl rfl, s3.cell 0 rfl rfl, s3.cell 0 rfl rfl, s3.cell 0 rfl rfl, s3.cell 0 rfl rfl, s3.cell 0 rfl rfl, s3.cell 0 rfl rfl, s3.cell 0 rfl rfl, rfl, rfl, s3.ext⟩
theorem list_ok (a : Option Addr) (l c : Nat) (h : Heap) : HEnt Try.prog 26 #[.slice a l c] h fun v h' => v = .slice a l c ∧ h' = h := by
  refine F26_ent _ _ _ _ _ ?_
  unfold F26
  exact ⟨rfl, rfl⟩

/-- what a list of deeds may be -/
def Deeds (h0 : Heap) (v : Value) (h : Heap) (ds : List DeedV) : Prop := ∃ (x : Hdr) (hs : List Hdr), v = .slice x.a x.l x.c ∧ DeedsAt (fun e ps => ∃ es, TwinAt h0 h e ps es) h0 h x ds hs
theorem Deeds.nil_ {h0 h : Heap} (x : Ext h0 h) : Deeds h0 (.slice none 0 0) h [] := ⟨nilH, [], rfl, rfl, OwnR.nil _ _ x, by simp⟩
theorem nilTwin {h0 h : Heap} (x : Ext h0 h) : TwinAt h0 h nilH [] [] := ⟨rfl, OwnR.nil _ _ x, by simp⟩
theorem deeds_plain {h0 h : Heap} {b l : Nat} {ds : List DeedV} (hb : h[b]? = some (.cells (List.zipWith deedCells ds (ds.map fun _ => nilH)).flatten.toArray 37 (0, 0))) (x : Ext h0 h) (hB : h0.size ≤ b) (hl : ds.length = l) (hp : ∀ d ∈ ds, d.packs = []) : Deeds h0 (.slice (some (at0 b)) l l) h ds := by
  refine ⟨⟨some (at0 b), l, l⟩, ds.map fun _ => nilH, rfl, by simp, OwnR.new_ hb x hB (fun r hr => ?_) (by simp [hl]), fun i d e hd he => ?_⟩
  · obtain ⟨i, hi⟩ := List.getElem?_of_mem hr
    rw [List.getElem?_zipWith] at hi
    split at hi
    · rw [← Option.some.inj hi]; rfl
    · cases hi
  · rw [List.getElem?_map, hd] at he
    obtain rfl := Option.some.inj he
    rw [hp d (List.mem_of_getElem? hd)]
    exact ⟨[], nilTwin x⟩

theorem commit_ok (p : PartV) (d : Hdr) (t : Int) (h : Heap) (hn : NumsAt h d.a d.l d.c p.done) (hl : d.l ≤ 1099511627776) :
    HEnt Try.prog 25 #[.agg (partCells p d).toArray, .int .i64 t] h fun v h' => Deeds h v h' (commitV p t) ∧ Ext h h' := by
  refine F25_ent _ _ _ _ _ _ _ _ ?_
  unfold F25
  refine (St.start h).new fun b2 h1 s1 _ _ => ?_
  refine ⟨p.root, p.staged, d.a, d.l, d.c, s1.cell 0 rfl rfl, s1.cell 0 rfl rfl, s1.cell 0 rfl rfl, rfl, HEnt.use (send_ok p d 5 t false h1) ?_⟩
  rintro _ h2 ⟨rfl, x2⟩
  refine ⟨5, 0, none, 0, 0, 5, p.root, 0, t, false, none, 0, 0, rfl, (s1.grow x2).new fun b5 h3 s3 _ _ => s3.new fun b6 h4 s4 _ _ => ?_⟩
  refine s4.storeAll 1 rfl rfl zeroC37 (deed_one (doV 1 t []) nilH) fun h5 s5 _ => s5.storeAll 0 rfl rfl zeroC37 (deed_one (sendV p.root 5 t false) nilH) fun h6 s6 _ => ?_
  simp only [List.set_cons_zero, List.set_cons_succ] at s6
  have n6 := NumsAt.grow hn s6.ext
  refine ⟨p.staged, s6.cell 2 rfl rfl, br_of (fun e => ?_) (fun e => ?_)⟩
  · have e : p.staged = t := by simpa using e
    refine ⟨1, t, none, 0, 0, 0, 0, 0, 0, false, none, 0, 0, s6.cell 1 rfl rfl, s6.cell 1 rfl rfl, s6.cell 1 rfl rfl, s6.cell 1 rfl rfl, s6.cell 1 rfl rfl, s6.cell 1 rfl rfl, s6.cell 1 rfl rfl, s6.cell 1 rfl rfl, s6.cell 1 rfl rfl, rfl,
      5, 0, none, 0, 0, 5, p.root, 0, t, false, none, 0, 0, s6.cell 0 rfl rfl, s6.cell 0 rfl rfl, s6.cell 0 rfl rfl, s6.cell 0 rfl rfl, s6.cell 0 rfl rfl, s6.cell 0 rfl rfl, s6.cell 0 rfl rfl, s6.cell 0 rfl rfl, s6.cell 0 rfl rfl, rfl, rfl, rfl, rfl, by omega, newK_intro fun h7 n7 x7 _ => ?_⟩
    refine HEnt.use (list_ok _ _ _ h7) ?_
    rintro _ _ ⟨rfl, rfl⟩
    refine ⟨_, _, _, rfl, ?_, s6.ext.trans x7⟩
    unfold commitV
    rw [if_pos e]
    exact deeds_plain n7 (s6.ext.trans x7) s6.ext.size rfl (by simp [doV, sendV])
  · have e : ¬ p.staged = t := by simpa using e
    refine ⟨p.root, p.staged, d.a, d.l, d.c, s6.cell 2 rfl rfl, s6.cell 2 rfl rfl, s6.cell 2 rfl rfl, rfl, HEnt.use (last_ok p d h6 n6 hl) ?_⟩
    rintro _ h7 ⟨rfl, x7⟩
    have s7 := s6.grow x7
    refine ⟨lastN p.done, rfl, br_of (fun e2 => ?_) (fun e2 => ?_)⟩
    · have e2 : lastN p.done = t := by simpa using e2
      refine ⟨1, t, none, 0, 0, 0, 0, 0, 0, false, none, 0, 0, s7.cell 1 rfl rfl, s7.cell 1 rfl rfl, s7.cell 1 rfl rfl, s7.cell 1 rfl rfl, s7.cell 1 rfl rfl, s7.cell 1 rfl rfl, s7.cell 1 rfl rfl, s7.cell 1 rfl rfl, s7.cell 1 rfl rfl, rfl,
        5, 0, none, 0, 0, 5, p.root, 0, t, false, none, 0, 0, s7.cell 0 rfl rfl, s7.cell 0 rfl rfl, s7.cell 0 rfl rfl, s7.cell 0 rfl rfl, s7.cell 0 rfl rfl, s7.cell 0 rfl rfl, s7.cell 0 rfl rfl, s7.cell 0 rfl rfl, s7.cell 0 rfl rfl, rfl, rfl, rfl, by omega, newK_intro fun h8 n8 x8 _ => ?_⟩
      refine HEnt.use (list_ok _ _ _ h8) ?_
      rintro _ _ ⟨rfl, rfl⟩
      refine ⟨_, _, _, rfl, ?_, s7.ext.trans x8⟩
      unfold commitV
      rw [if_neg e, if_pos e2]
      exact deeds_plain n8 (s7.ext.trans x8) s7.ext.size rfl (by simp [doV, sendV])
    · have e2 : ¬ lastN p.done = t := by simpa using e2
      refine ⟨d.a, d.l, d.c, s7.cell 2 rfl rfl, HEnt.use (contains_ok d.a d.l d.c t p.done h7 (NumsAt.grow hn s7.ext) (by omega)) ?_⟩
      rintro _ _ ⟨rfl, rfl⟩
      refine ⟨_, rfl, br_of (fun e3 => ?_) (fun e3 => ?_)⟩
      · have e3 : t ∈ p.done := by simpa using e3
        refine ⟨5, 0, none, 0, 0, 5, p.root, 0, t, false, none, 0, 0, s7.cell 0 rfl rfl, s7.cell 0 rfl rfl, s7.cell 0 rfl rfl, s7.cell 0 rfl rfl, s7.cell 0 rfl rfl, s7.cell 0 rfl rfl, s7.cell 0 rfl rfl, s7.cell 0 rfl rfl, s7.cell 0 rfl rfl, rfl, rfl, by omega, newK_intro fun h8 n8 x8 _ => ?_⟩
        refine HEnt.use (list_ok _ _ _ h8) ?_
        rintro _ _ ⟨rfl, rfl⟩
        refine ⟨_, _, _, rfl, ?_, s7.ext.trans x8⟩
        unfold commitV
        rw [if_neg e, if_neg e2, if_pos e3]
        exact deeds_plain n8 (s7.ext.trans x8) s7.ext.size rfl (by simp [sendV])
      · have e3 : ¬ t ∈ p.done := by simpa using e3
        unfold F25_k1 commitV
        rw [if_neg e, if_neg e2, if_neg e3]
        exact ⟨Deeds.nil_ s7.ext, s7.ext⟩

theorem tick_ok (p : PartV) (d : Hdr) (h : Heap) (hn : NumsAt h d.a d.l d.c p.done) (hl : d.l ≤ 1099511627776) :
    HEnt Try.prog 18 #[.agg (partCells p d).toArray] h fun v h' => Deeds h v h' (tickV p) ∧ Ext h h' := by
  refine F18_ent _ _ _ _ _ _ _ ?_
  unfold F18
  refine (St.start h).new fun b1 h1 s1 _ _ => ?_
  refine ⟨p.root, p.staged, d.a, d.l, d.c, s1.cell 0 rfl rfl, s1.cell 0 rfl rfl, s1.cell 0 rfl rfl, rfl, HEnt.use (last_ok p d h1 (NumsAt.grow hn s1.ext) hl) ?_⟩
  rintro _ h2 ⟨rfl, x2⟩
  have s2 := s1.grow x2
  refine ⟨lastN p.done, rfl, p.root, p.staged, d.a, d.l, d.c, s2.cell 0 rfl rfl, s2.cell 0 rfl rfl, s2.cell 0 rfl rfl, rfl, HEnt.use (good_ok p d h2 (NumsAt.grow hn s2.ext) hl) ?_⟩
  rintro _ h3 ⟨rfl, x3⟩
  have s3 := s2.grow x3
  refine ⟨_, rfl, br_of (fun e => ?_) (fun e => ⟨p.staged, s3.cell 0 rfl rfl, br_of (fun e2 => ?_) (fun e2 => br_of (fun e3 => ?_) (fun e3 => ?_))⟩)⟩
  · have e : ¬ goodP p := by simpa using e
    unfold tickV
    rw [if_pos e]
    exact ⟨Deeds.nil_ s3.ext, s3.ext⟩
  · have e : goodP p := by simpa using e
    have e2 : p.staged ≠ 0 := by simpa using e2
    refine ⟨p.root, p.staged, d.a, d.l, d.c, s3.cell 0 rfl rfl, s3.cell 0 rfl rfl, s3.cell 0 rfl rfl, rfl, p.staged, s3.cell 0 rfl rfl, HEnt.use (send_ok p d 6 p.staged false h3) ?_⟩
    rintro _ h4 ⟨rfl, x4⟩
    have s4 := s3.grow x4
    refine ⟨5, 0, none, 0, 0, 6, p.root, 0, p.staged, false, none, 0, 0, rfl, rfl, by omega, newK_intro fun h8 n8 x8 _ => ?_⟩
    refine HEnt.use (list_ok _ _ _ h8) ?_
    rintro _ _ ⟨rfl, rfl⟩
    refine ⟨_, _, _, rfl, ?_, s4.ext.trans x8⟩
    unfold tickV
    rw [if_neg (fun g => g e), if_pos e2]
    exact deeds_plain n8 (s4.ext.trans x8) s4.ext.size rfl (by simp [sendV])
  · have e : goodP p := by simpa using e
    have e2 : ¬ p.staged ≠ 0 := by simpa using e2
    have e3 : lastN p.done ≠ 0 := by simpa using e3
    refine ⟨rfl, by omega, newK_intro fun h8 n8 x8 _ => ?_⟩
    refine HEnt.use (list_ok _ _ _ h8) ?_
    rintro _ _ ⟨rfl, rfl⟩
    refine ⟨_, _, _, rfl, ?_, s3.ext.trans x8⟩
    unfold tickV
    rw [if_neg (fun g => g e), if_neg e2, if_pos e3]
    exact deeds_plain n8 (s3.ext.trans x8) s3.ext.size rfl (by simp [doV])
  · have e : goodP p := by simpa using e
    have e2 : ¬ p.staged ≠ 0 := by simpa using e2
    have e3 : ¬ lastN p.done ≠ 0 := by simpa using e3
    unfold F18_k1 tickV
    rw [if_neg (fun g => g e), if_neg e2, if_neg e3]
    exact ⟨Deeds.nil_ s3.ext, s3.ext⟩
end Go.Proofs.Ytelddmkdclhpoaa
