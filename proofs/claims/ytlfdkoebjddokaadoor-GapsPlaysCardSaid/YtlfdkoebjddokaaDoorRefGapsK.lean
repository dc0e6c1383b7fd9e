import Derived.Test.YtlfdkoebjddokaaDoorRefGapsJ
/-! The reference's Gaps: Due. -/
namespace Go.Proofs.YtlfdkoebjddokaaDoor
open Go.RowKit
set_option linter.unusedVariables false
set_option linter.unusedSimpArgs false
/-- it was asked for not long ago -/
def lkWait (again now : Int) (x : Lk) : Bool := decide (0 < x.tm) && decide (now - x.at_ < again)
def lkStep (again tries now : Int) (x : Lk) : Option Lk := if lkWait again now x = true then some x else if x.tm = tries then none else some ⟨x.num, x.tm + 1, now⟩
def lkGive (again tries now : Int) (x : Lk) : Bool := !lkWait again now x && decide (x.tm = tries)
def lkAsk (again tries now : Int) (x : Lk) : Bool := !lkWait again now x && !decide (x.tm = tries)
def dK (again tries now : Int) (l : List Lk) : List Lk := l.filterMap (lkStep again tries now)
def dG (again tries now : Int) (l : List Lk) : List Int := (l.filter (lkGive again tries now)).map Lk.num
def dA (again tries now : Int) (l : List Lk) : List Int := (l.filter (lkAsk again tries now)).map Lk.num
theorem dK_len (again tries now : Int) (l : List Lk) : (dK again tries now l).length ≤ l.length := List.length_filterMap_le _ _
theorem dG_len (again tries now : Int) (l : List Lk) : (dG again tries now l).length ≤ l.length := by unfold dG; rw [List.length_map]; exact List.length_filter_le _ _
theorem dA_len (again tries now : Int) (l : List Lk) : (dA again tries now l).length ≤ l.length := by unfold dA; rw [List.length_map]; exact List.length_filter_le _ _
section
variable {again tries now : Int} {l : List Lk} {x : Lk}
theorem d_wait (h : lkWait again now x = true) : dK again tries now (l ++ [x]) = dK again tries now l ++ [x] ∧ dG again tries now (l ++ [x]) = dG again tries now l ∧ dA again tries now (l ++ [x]) = dA again tries now l := by
  simp [dK, dG, dA, List.filterMap_append, List.filter_append, lkStep, lkGive, lkAsk, h]
theorem d_give (h : lkWait again now x = false) (e : x.tm = tries) : dK again tries now (l ++ [x]) = dK again tries now l ∧ dG again tries now (l ++ [x]) = dG again tries now l ++ [x.num] ∧ dA again tries now (l ++ [x]) = dA again tries now l := by
  simp [dK, dG, dA, List.filterMap_append, List.filter_append, lkStep, lkGive, lkAsk, h, e]
theorem d_ask (h : lkWait again now x = false) (e : x.tm ≠ tries) : dK again tries now (l ++ [x]) = dK again tries now l ++ [⟨x.num, x.tm + 1, now⟩] ∧ dG again tries now (l ++ [x]) = dG again tries now l ∧ dA again tries now (l ++ [x]) = dA again tries now l ++ [x.num] := by
  simp [dK, dG, dA, List.filterMap_append, List.filter_append, lkStep, lkGive, lkAsk, h, e]
end
/-- the loop's memory -/
structure RDue (M : Nat) (w z : World) (b : Nat) (now again tries top : Int) (v gv : Value) (L : List Lk) (gv' : Value) (G : List Int) (vK : Value) (A : List Lk) (vO : Value) (O : List Int) : Prop where
  gp : RGp M z b now again tries top v L gv' G
  rA : lackK.Own z w.heap.size vK A
  rO : z.ownsRow w.heap.size 3 1 vO O.length (O.map encI)
  ap : ApartV vO gv'
  vl : ∀ g, v.ownBlock = some g → g < w.heap.size
  g1 : ∀ k, gv'.ownBlock = some k → gv.ownBlock = some k ∨ w.heap.size ≤ k
  bl : b < w.heap.size
  kb : RGFP b v gv w z
namespace RDue
variable {M : Nat} {w z z' : World} {b : Nat} {now again tries top : Int} {v gv : Value} {L : List Lk} {gv' : Value} {G : List Int} {vK : Value} {A : List Lk} {vO : Value} {O : List Int}
theorem below (h : RDue M w z b now again tries top v gv L gv' G vK A vO O) (k : Below z.heap.size z z') : RDue M w z' b now again tries top v gv L gv' G vK A vO O :=
  ⟨h.gp.below k, h.rA.below k, intRow_below h.rO k, h.ap, h.vl, h.g1, h.bl, Keeps.trans h.kb (Below.toKeeps k (Nat.le_refl _))⟩
theorem drewN (h : RDue M w z b now again tries top v gv L gv' G vK A vO O) (k : Nat) : RDue M w (z.drewN k) b now again tries top v gv L gv' G vK A vO O :=
  ⟨h.gp.drewN k, by exact h.rA, by exact h.rO, h.ap, h.vl, h.g1, h.bl, Keeps.drewN h.kb _⟩
/-- two rows of other makes -/
theorem int_lack {w : World} {M M' n : Nat} {v u : Value} {L : List Lk} {xs : List Value} (hr : lackK.Own w M v L) (hg : w.ownsRow M' 3 1 u n xs) : u.ownBlock = none ∨ u.ownBlock ≠ v.ownBlock := by
  cases hu : u.ownBlock with
  | none => exact .inl rfl
  | some k =>
    refine .inr (fun e => ?_)
    rcases hr.2 with ⟨rfl, _⟩ | ⟨g, cap, cur, rfl, _, e1, _⟩
    · cases e
    · rcases hg.2 with ⟨rfl, _⟩ | ⟨g', cap', cur', rfl, _, e2, _⟩
      · cases hu
      · simp [Value.ownBlock] at hu e
        subst hu e
        rw [e1] at e2; simp [lackK] at e2
/-- a record is kept -/
theorem keep {vN : Value} {A' : List Lk} (h : RDue M w z b now again tries top v gv L gv' G vK A vO O) (q : z.grownBy z' vK.ownBlock) (ho : lackK.Own z' w.heap.size vN A') : RDue M w z' b now again tries top v gv L gv' G vN A' vO O := by
  have hge : ∀ k, vK.ownBlock = some k → w.heap.size ≤ k := fun k hk => (h.rA.lt k hk).1
  refine ⟨⟨?_, h.gp.row.keep (fun g hg _ hl => q.block g hl (fun e => by have := hge g e.symm; have := h.vl g hg; omega)), World.ownsRow.kept h.gp.gave q (int_lack h.rA h.gp.gave), h.gp.low⟩, ho, World.ownsRow.kept h.rO q (int_lack h.rA h.rO), h.ap, h.vl, h.g1, h.bl, ⟨q.os.trans h.kb.os, q.tape.trans h.kb.tape, q.output.trans h.kb.output, Nat.le_trans h.kb.size q.size, fun k hk hn => (q.block k (Nat.lt_of_lt_of_le hk h.kb.size) (fun e => by have := hge k e.symm; omega)).trans (h.kb.block k hk hn)⟩⟩
  have e := q.block b (lt_of_block h.gp.at_) (fun e => by have := hge b e.symm; have := h.bl; omega)
  have a := h.gp.at_
  unfold RGapsAt at *
  rw [e]; exact a
/-- a number is asked for -/
theorem ask {vN : Value} {x : Int} (h : RDue M w z b now again tries top v gv L gv' G vK A vO O) (q : z.grownBy z' vO.ownBlock) (ho : z'.ownsRow w.heap.size 3 1 vN (O.length + 1) (O.map encI ++ [.int .i64 x])) (hb : ∀ k, vN.ownBlock = some k → vO.ownBlock = some k ∨ z.heap.size ≤ k) : RDue M w z' b now again tries top v gv L gv' G vK A vN (O ++ [x]) := by
  have hge : ∀ k, vO.ownBlock = some k → w.heap.size ≤ k := fun k hk => (h.rO.lt k hk).1
  refine ⟨⟨?_, h.gp.row.keep (fun g hg _ hl => q.block g hl (fun e => by have := hge g e.symm; have := h.vl g hg; omega)), World.ownsRow.kept h.gp.gave q h.ap.ne, h.gp.low⟩, h.rA.keep (fun g hg _ hl => q.block g hl (fun e => by
    rcases int_lack h.rA h.rO with e' | e'
    · rw [e'] at e; cases e
    · exact e' (by rw [hg, ← e]))), by simpa using ho, ApartV.more h.ap h.gp.gave hb, h.vl, h.g1, h.bl, ⟨q.os.trans h.kb.os, q.tape.trans h.kb.tape, q.output.trans h.kb.output, Nat.le_trans h.kb.size q.size, fun k hk hn => (q.block k (Nat.lt_of_lt_of_le hk h.kb.size) (fun e => by have := hge k e.symm; omega)).trans (h.kb.block k hk hn)⟩⟩
  have e := q.block b (lt_of_block h.gp.at_) (fun e => by have := hge b e.symm; have := h.bl; omega)
  have a := h.gp.at_
  unfold RGapsAt at *
  rw [e]; exact a
/-- a number is given up -/
theorem give {vN : Value} {x : Int} (h : RDue M w z b now again tries top v gv L gv' G vK A vO O) (q : z.grownBy z' gv'.ownBlock) (ho : z'.ownsRow M 3 1 vN (G.length + 1) (G.map encI ++ [.int .i64 x])) (hb : ∀ k, vN.ownBlock = some k → gv'.ownBlock = some k ∨ z.heap.size ≤ k) :
    RGapsAt z' b now again tries top v gv' ∧ RDue M w (z'.setCell ⟨b, 5, none⟩ vN) b now again tries top v gv L vN (G ++ [x]) vK A vO O := by
  have e := q.block b (lt_of_block h.gp.at_) (fun e => grow_ne h.gp.gave h.gp.at_ e.symm)
  have hz : RGapsAt z' b now again tries top v gv' := by
    have a := h.gp.at_
    unfold RGapsAt at *
    rw [e]; exact a
  have hk : ∀ (k : Nat) (o : Array Value), z'.heap[k]? = some (Obj.cells o 3 (0, 0)) → (z'.setCell ⟨b, 5, none⟩ vN).heap[k]? = z'.heap[k]? := fun k o hk => Below.heap_setCell _ _ _ _ (by
    rintro rfl
    unfold RGapsAt at hz; rw [hz] at hk; simp at hk)
  have hrl : ∀ {M' : Nat} {u : Value} {B : List Lk}, lackK.Own z M' u B → lackK.Own (z'.setCell ⟨b, 5, none⟩ vN) M' u B := fun {M' u B} hu => by
    have h1 : lackK.Own z' M' u B := hu.keep (fun g hg _ hl => q.block g hl (fun e' => by
      rcases int_lack hu h.gp.gave with e2 | e2
      · rw [e2] at e'; cases e'
      · exact e2 (by rw [hg, ← e'])))
    exact h1.keep (fun g hg _ _ => Below.heap_setCell _ _ _ _ (fun e' => lrow_ne hu h.gp.at_ (hg.trans (by rw [e']))))
  refine ⟨hz, ⟨⟨by have a := hz; unfold RGapsAt at *; rw [obj_set a]; rfl, hrl h.gp.row, by simpa using intRow_keep ho (fun k o q _ => hk k o q), h.gp.low⟩, hrl h.rA, intRow_keep (h.rO.kept q h.ap.symm.ne) (fun k o q _ => hk k o q), (ApartV.more h.ap.symm h.rO hb).symm, h.vl, (fun k hk => by rcases hb k hk with e | e; exact h.g1 k e; have := h.kb.size; exact .inr (by omega)), h.bl, ?_⟩⟩
  exact Keeps.setCell ⟨q.os.trans h.kb.os, q.tape.trans h.kb.tape, q.output.trans h.kb.output, Nat.le_trans h.kb.size q.size, fun k hk hn => (q.block k (Nat.lt_of_lt_of_le hk h.kb.size) (fun e => by rcases h.g1 k e.symm with q1 | q1; exact hn (.inr (.inr q1)); omega)).trans (h.kb.block k hk hn)⟩ (.inl (.inl rfl)) _
end RDue
set_option maxRecDepth 100000 in
/-- a time that may not be -/
theorem rDue_bad (b : Nat) (cur again tries top : Int) (v gv : Value) (now : Int) (hf : Pl.gTime cur now ≠ 0) (w : World) (h : RGapsAt w b cur again tries top v gv) :
    Calls Tryd.prog 18 #[.pointer (some ⟨b, 0, none⟩), .int .i64 now] w fun e w' => e = .returned (.tuple #[.slice none 0 0, .int .i64 (Pl.gTime cur now)]) ∧ w = w' := by
  have T := Lib.hid (rGapsTime_any b cur again tries top v gv now w h)
  clear h
  have d0 : (Pl.gTime cur now != 0) = true := by simpa using hf
  generalize Pl.gTime cur now = f at *
  clear hf
  go_enter Tryd.func18, Tryd.ntmps18
  go_wp2_with (go_at_call 38; (with_reducible refine T.out.mono ?_); rintro e w' ⟨rfl, rfl⟩)
  go_ret2
  exact ⟨rfl, rfl⟩
/-- what is looked at -/
def LackAt (w : World) (N : Nat) (x : Lk) : Prop := w.heap[N]? = some (.cells #[.int .i64 x.num, .int .i64 x.tm, .int .i64 x.at_] 97 (0, 0))
end Go.Proofs.YtlfdkoebjddokaaDoor
