import Derived.Test.YtlfdkoebjddokaaDoorRecs
import Derived.Test.YtlfdkoebjddokaaDoorRSorted
import Derived.Test.YtlfdkoebjddokaaDoorClock
import Derived.Deep.QuietTactic
import Derived.BigQuiet
import Derived.Deep.DeepCutAuto
import Derived.Deep.Onto
/-! The reference's Gaps: its object, time, Lacks. -/
namespace Go.Proofs.YtlfdkoebjddokaaDoor
open Go.RowKit
set_option linter.unusedVariables false
set_option linter.unusedSimpArgs false
/-- what is lacking: how often it was asked for, and when -/
structure Lk where
  num : Int
  tm : Int
  at_ : Int
def Lk.cells (x : Lk) : List Value := [.int .i64 x.num, .int .i64 x.tm, .int .i64 x.at_]
theorem infoLk : (Tryd.prog.info? 97).map (fun i => (i.zero, i.size, i.bytes)) = some (some (.agg #[.int .i64 0, .int .i64 0, .int .i64 0]), 3, 24) := by kernel_rfl
def lackK : RecK Lk := ⟨57, 97, 3, 24, Lk.cells⟩
theorem lackK_ok : lackK.Ok where
  und := Tryd.underlying57
  info := by
    obtain ⟨i0, hi, hz0, hz1, hz2⟩ := info_parts infoLk
    exact ⟨i0, _, hi, hz0, hz1, hz2, rfl⟩
  pos := by decide
  len := fun _ => rfl
  one := fun x u hu => by simp [lackK, Lk.cells] at hu; rcases hu with rfl | rfl | rfl <;> rfl
  small := by decide
def RGapsAt (w : World) (b : Nat) (now again tries top : Int) (v gv : Value) : Prop := w.heap[b]? = some (.cells #[.int .i64 again, .int .i64 tries, .int .i64 now, .int .i64 top, v, gv] 59 (0, 0))
structure RGp (M : Nat) (w : World) (b : Nat) (now again tries top : Int) (v : Value) (L : List Lk) (gv : Value) (G : List Int) : Prop where
  at_ : RGapsAt w b now again tries top v gv
  row : lackK.Own w M v L
  gave : w.ownsRow M 3 1 gv G.length (G.map encI)
  low : M ≤ b
/-- its own blocks alone are written -/
abbrev RGFP (b : Nat) (v gv : Value) (w w' : World) : Prop := Keeps (fun k => k = b ∨ v.ownBlock = some k ∨ gv.ownBlock = some k) w w'
theorem lrow_ne {M : Nat} {w : World} {b : Nat} {now again tries top : Int} {v u gu : Value} {L : List Lk} (hr : lackK.Own w M v L) (a : RGapsAt w b now again tries top u gu) : v.ownBlock ≠ some b := fun e => by
  unfold RGapsAt at a
  rcases hr.2 with ⟨rfl, _⟩ | ⟨g, cap, cur, rfl, hb, hg, _⟩
  · cases e
  · simp [Value.ownBlock] at e
    rw [e, a] at hg
    simp [lackK] at hg
theorem grow_ne {M n : Nat} {w : World} {b : Nat} {now again tries top : Int} {gv u gu : Value} {xs : List Value} (hr : w.ownsRow M 3 1 gv n xs) (a : RGapsAt w b now again tries top u gu) : gv.ownBlock ≠ some b := fun e => by
  unfold RGapsAt at a
  rcases hr.2 with ⟨rfl, _⟩ | ⟨g, cap, cur, rfl, hb, hg, _⟩
  · cases e
  · simp [Value.ownBlock] at e
    rw [e, a] at hg
    simp at hg
/-- the two rows do not share a block -/
theorem rows_ne {M n : Nat} {w : World} {v gv : Value} {L : List Lk} {xs : List Value} (hr : lackK.Own w M v L) (hg : w.ownsRow M 3 1 gv n xs) (k : Nat) (h1 : v.ownBlock = some k) (h2 : gv.ownBlock = some k) : False := by
  rcases hr.2 with ⟨rfl, _⟩ | ⟨g, cap, cur, rfl, _, e1, _⟩
  · cases h1
  · rcases hg.2 with ⟨rfl, _⟩ | ⟨g', cap', cur', rfl, _, e2, _⟩
    · cases h2
    · simp [Value.ownBlock] at h1 h2
      subst h1 h2
      rw [e1] at e2; simp [lackK] at e2
namespace RGp
variable {M : Nat} {w w' : World} {b : Nat} {now again tries top : Int} {v gv : Value} {L : List Lk} {G : List Int}
theorem below (h : RGp M w b now again tries top v L gv G) (k : Below w.heap.size w w') : RGp M w' b now again tries top v L gv G :=
  ⟨Below.heapAt k h.at_ (lt_of_block h.at_), h.row.below k, intRow_below h.gave k, h.low⟩
theorem drewN (h : RGp M w b now again tries top v L gv G) (k : Nat) : RGp M (w.drewN k) b now again tries top v L gv G := ⟨by exact h.at_, by exact h.row, by exact h.gave, h.low⟩
/-- a store into the object's numbers -/
theorem set {now' again' tries' top' : Int} {j : Nat} {u : Value} (h : RGp M w b now again tries top v L gv G) (hg : RGapsAt (w.setCell ⟨b, j, none⟩ u) b now' again' tries' top' v gv) : RGp M (w.setCell ⟨b, j, none⟩ u) b now' again' tries' top' v L gv G :=
  ⟨hg, h.row.keep (fun g hg' _ _ => Below.heap_setCell _ _ _ _ (fun e => lrow_ne h.row h.at_ (hg'.trans (by rw [e])))), intRow_keep h.gave (fun g o hg' _ => Below.heap_setCell _ _ _ _ (by
    rintro rfl
    have := h.at_; unfold RGapsAt at this; rw [this] at hg'; simp at hg')), h.low⟩
end RGp
theorem r1Time_g (n : Int) (w : World) : Calls Tryd.prog 43 #[.int .i64 n] w fun e w' => e = .returned (.bool (decide (0 ≤ n) && decide (n ≤ 1000000))) ∧ w = w' := by
  go_enter Tryd.func43, Tryd.ntmps43
  go_wp2
  all_goals
    go_ret
    exact ⟨ret_bool (by simp <;> omega), rfl⟩
/-- the fault of a time -/
def Pl.gTime (cur now : Int) : Int := if 0 ≤ now ∧ now ≤ 1000000 then (if now < cur then 6 else 0) else 1
theorem rGapsTime_any (b : Nat) (cur again tries top : Int) (v gv : Value) (now : Int) (w : World) (h : RGapsAt w b cur again tries top v gv) :
    Calls Tryd.prog 38 #[.pointer (some ⟨b, 0, none⟩), .int .i64 now] w fun e w' => e = .returned (.int .i64 (Pl.gTime cur now)) ∧ w = w' := by
  have T := Lib.hid (fun y => r1Time_g now y)
  have c2 : w.cell? ⟨b, 2, none⟩ = some (.int .i64 cur) := obj_cell h rfl
  have HG := Lib.hid (show ∀ r, r = Pl.gTime cur now → Ending.returned (.int .i64 r) = Ending.returned (.int .i64 (Pl.gTime cur now)) from fun r e => by rw [e])
  clear h
  by_cases h0 : 0 ≤ now ∧ now ≤ 1000000
  · have e2 : (decide (0 ≤ now) && decide (now ≤ 1000000)) = true := by simp [h0.1, h0.2]
    by_cases h1 : now < cur
    · have E := Lib.hid (show (6 : Int) = Pl.gTime cur now from by unfold Pl.gTime; rw [if_pos h0, if_pos h1])
      clear h0
      go_enter Tryd.func38, Tryd.ntmps38
      go_wp2_with (go_at_call 43; refine (T.out _).mono ?_; rw [e2]; rintro e w' ⟨rfl, rfl⟩)
      go_ret
      exact ⟨HG.out _ E.out, rfl⟩
    · have E := Lib.hid (show (0 : Int) = Pl.gTime cur now from by unfold Pl.gTime; rw [if_pos h0, if_neg h1])
      clear h0
      go_enter Tryd.func38, Tryd.ntmps38
      go_wp2_with (go_at_call 43; refine (T.out _).mono ?_; rw [e2]; rintro e w' ⟨rfl, rfl⟩)
      go_ret
      exact ⟨HG.out _ E.out, rfl⟩
  · have e2 : (decide (0 ≤ now) && decide (now ≤ 1000000)) = false := by simp; omega
    have E := Lib.hid (show (1 : Int) = Pl.gTime cur now from by unfold Pl.gTime; rw [if_neg h0])
    clear h0
    go_enter Tryd.func38, Tryd.ntmps38
    go_wp2_with (go_at_call 43; refine (T.out _).mono ?_; rw [e2]; rintro e w' ⟨rfl, rfl⟩)
    go_ret
    exact ⟨HG.out _ E.out, rfl⟩
set_option maxRecDepth 100000 in
set_option maxHeartbeats 2000000 in
theorem rGapsLacks_any (M b : Nat) (now again tries top : Int) (v : Value) (L : List Lk) (gv : Value) (G : List Int) (hL : L.length ≤ 100000) (w : World) (h : RGp M w b now again tries top v L gv G) :
    Calls Tryd.prog 24 #[.pointer (some ⟨b, 0, none⟩)] w fun e w' => ∃ v', e = .returned v' ∧ w'.ownsRow w.heap.size 3 1 v' (L.map Lk.num).length ((L.map Lk.num).map encI) ∧ Below w.heap.size w w' := by
  obtain ⟨o1, c1, rfl, -⟩ := h.row.read lackK_ok
  have H := Lib.hid h
  clear h
  go_enter Tryd.func24, Tryd.ntmps24
  go_wp2_with fail
  go_loopw [3, 4] (fun s3 s4 wr => ∃ (k : Nat) (A : List Int), k ≤ L.length ∧ A.length = k ∧ s4 = .int .i64 k ∧ Hid (A = (L.take k).map Lk.num) ∧ Hid (wr.ownsRow w.heap.size 3 1 s3 A.length (A.map encI)) ∧ Hid (Below w.heap.size w wr)) (fun _ s4 _ => L.length - (RowKit.intOf s4).toNat)
  case atStart => exact ⟨0, [], by omega, by simp, rfl, Lib.hid (by simp), Lib.hid (World.ownsRow_nil _ _ _ _), Lib.hid (Below.refl _ _)⟩
  case round =>
    obtain ⟨k, A, hk, hA, rfl, HA, ro, kb⟩ := hrel
    have hW := H.out.below kb.out
    have k4 : wr.cell? ⟨b, 4, none⟩ = some (.slice o1 L.length c1) := obj_cell hW.at_ rfl
    by_cases hlt : k < L.length
    · obtain ⟨o1', c1', e', hrd⟩ := hW.row.read lackK_ok
      cases e'
      obtain ⟨g, rfl, _, hgl, q⟩ := hrd k L[k] (by simp [hlt])
      have q0 : wr.cell? ⟨g, k * 3, none⟩ = some (.int .i64 (L[k]).num) := q 0 _ rfl
      have HT := Lib.hid (take_next L k hlt)
      have HA2 := Lib.hid (show A ++ [(L[k]).num] = (L.take (k + 1)).map Lk.num from by rw [HT.out, List.map_append, ← HA.out]; rfl)
      clear hrd hW q
      generalize (L[k]).num = a0 at *
      have hA' := Lib.hid hA
      have hAl : A.length ≤ 100000 := by omega
      clear hA
      have roA : Hid ((wr.alloc (.cells #[.int .i64 a0] 3)).ownsRow w.heap.size 3 1 u3 A.length (A.map encI)) := Lib.hid (ro.out.alloc _)
      have kA : Hid (Below w.heap.size w (wr.alloc (.cells #[.int .i64 a0] 3))) := Lib.hid (kb.out.alloc kb.out.size _)
      have RUN := Lib.hid (run_moreInt2 _ w.heap.size u3 a0 A.length (A.map encI) roA.out wr.heap.size (obj_new _ _) (by omega) (by have := kb.out.size; simp; omega))
      have hgb : Hid (∀ g, u3.ownBlock = some g → w.heap.size ≤ g) := Lib.hid (fun g e => (ro.out.lt g e).1)
      clear ro kb
      go_upto_region 4 with (at_builtin; obtain ⟨vN, wN, hr, ho, hgr, hbk⟩ := RUN.out; obtain ⟨gN, capN, rfl⟩ := Joins.ownsRow_form ho (by omega); refine Lib.wpList_append_run _ rfl (.tmp 14) (.tmp 23) 35 35 rfl _ _ rfl rfl _ _ hr ?_)
      have RO : Hid (wN.ownsRow w.heap.size 3 1 (.slice (some ⟨gN, 0, none⟩) (A.length + 1) capN) (A ++ [a0]).length ((A ++ [a0]).map encI)) := Lib.hid (by rw [List.map_append, List.length_append]; exact ho)
      have KN : Hid (Below w.heap.size w wN) := Lib.hid ⟨hgr.os.trans kA.out.os, hgr.tape.trans kA.out.tape, hgr.output.trans kA.out.output, Nat.le_trans kA.out.size hgr.size, fun j hj => (hgr.block j (Nat.lt_of_lt_of_le hj kA.out.size) (fun e => by have := hgb.out j e.symm; omega)).trans (kA.out.block j hj)⟩
      clear hr ho hgr hbk RUN roA kA hgb k4 q0
      go_wp2_with fail
      go_roundw
      case measure => simp [RowKit.intOf]; omega
      case rel => exact ⟨k + 1, A ++ [a0], by omega, by have := hA'.out; simp; omega, rfl, HA2, RO, KN⟩
    · obtain rfl : k = L.length := by omega
      rw [List.take_length] at HA
      clear hW
      go_wp2_with fail
      go_ret
      exact ⟨_, rfl, by rw [← HA.out]; exact ro.out, kb.out⟩
end Go.Proofs.YtlfdkoebjddokaaDoor
