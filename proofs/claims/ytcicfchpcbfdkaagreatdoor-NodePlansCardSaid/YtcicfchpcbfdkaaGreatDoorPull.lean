import Derived.Test.YtcicfchpcbfdkaaGreatDoorMapR
import Derived.Test.YtcicfchpcbfdkaaGreatDoorMapCnt
import Derived.Test.YtcicfchpcbfdkaaGreatDoorClock
import Derived.Test.YtcicfchpcbfdkaaGreatDoorSerial
import Derived.Deep.QuietTactic
import Derived.BigQuiet
import Derived.Deep.DeepCutAuto
import Derived.StillTailTactics
/-! Contracts of package pull: New, Track, right, Want. -/
namespace Go.Proofs.YtcicfchpcbfdkaaGreatDoor
open Go.RowKit Go.Maps Go.Proofs
set_option linter.unusedVariables false
set_option linter.unusedSimpArgs false
/-- the cells of a pull -/
def pullCells (now th : Int) (mv : Nat → Value) (told asked : Nat → Int) : Array Value :=
  #[.int .i64 now, .int .i64 th, mv 0, mv 1, mv 2, mv 3, mv 4, mv 5, mv 6, mv 7, mv 8,
    .int .i64 (told 0), .int .i64 (told 1), .int .i64 (told 2), .int .i64 (told 3), .int .i64 (told 4), .int .i64 (told 5), .int .i64 (told 6), .int .i64 (told 7), .int .i64 (told 8),
    .int .i64 (asked 0), .int .i64 (asked 1), .int .i64 (asked 2), .int .i64 (asked 3), .int .i64 (asked 4), .int .i64 (asked 5), .int .i64 (asked 6), .int .i64 (asked 7), .int .i64 (asked 8)]
def PullAt (w : World) (b : Nat) (now th : Int) (mv : Nat → Value) (told asked : Nat → Int) : Prop := w.heap[b]? = some (.cells (pullCells now th mv told asked) 115 (0, 0))
namespace PullAt
variable {w : World} {b : Nat} {now th : Int} {mv : Nat → Value} {told asked : Nat → Int}
theorem now_ (h : PullAt w b now th mv told asked) : w.cell? ⟨b, 0, none⟩ = some (.int .i64 now) := obj_cell h rfl
theorem th_ (h : PullAt w b now th mv told asked) : w.cell? ⟨b, 1, none⟩ = some (.int .i64 th) := obj_cell h rfl
theorem map_ (h : PullAt w b now th mv told asked) (k : Nat) (hk : k < 9) : w.cell? ⟨b, 2 + k, none⟩ = some (mv k) := by
  have : k = 0 ∨ k = 1 ∨ k = 2 ∨ k = 3 ∨ k = 4 ∨ k = 5 ∨ k = 6 ∨ k = 7 ∨ k = 8 := by omega
  rcases this with rfl | rfl | rfl | rfl | rfl | rfl | rfl | rfl | rfl <;> exact obj_cell h rfl
theorem told_ (h : PullAt w b now th mv told asked) (k : Nat) (hk : k < 9) : w.cell? ⟨b, 11 + k, none⟩ = some (.int .i64 (told k)) := by
  have : k = 0 ∨ k = 1 ∨ k = 2 ∨ k = 3 ∨ k = 4 ∨ k = 5 ∨ k = 6 ∨ k = 7 ∨ k = 8 := by omega
  rcases this with rfl | rfl | rfl | rfl | rfl | rfl | rfl | rfl | rfl <;> exact obj_cell h rfl
theorem asked_ (h : PullAt w b now th mv told asked) (k : Nat) (hk : k < 9) : w.cell? ⟨b, 20 + k, none⟩ = some (.int .i64 (asked k)) := by
  have : k = 0 ∨ k = 1 ∨ k = 2 ∨ k = 3 ∨ k = 4 ∨ k = 5 ∨ k = 6 ∨ k = 7 ∨ k = 8 := by omega
  rcases this with rfl | rfl | rfl | rfl | rfl | rfl | rfl | rfl | rfl <;> exact obj_cell h rfl
theorem setNow (h : PullAt w b now th mv told asked) (x : Int) : PullAt (w.setCell ⟨b, 0, none⟩ (.int .i64 x)) b x th mv told asked := by
  unfold PullAt at *; rw [obj_set h]; rfl
theorem setMap (h : PullAt w b now th mv told asked) (k : Nat) (hk : k < 9) (v : Value) : PullAt (w.setCell ⟨b, 2 + k, none⟩ v) b now th (fun j => if j = k then v else mv j) told asked := by
  unfold PullAt at *; rw [obj_set h]
  have : k = 0 ∨ k = 1 ∨ k = 2 ∨ k = 3 ∨ k = 4 ∨ k = 5 ∨ k = 6 ∨ k = 7 ∨ k = 8 := by omega
  rcases this with rfl | rfl | rfl | rfl | rfl | rfl | rfl | rfl | rfl <;> rfl
theorem setTold (h : PullAt w b now th mv told asked) (k : Nat) (hk : k < 9) (x : Int) : PullAt (w.setCell ⟨b, 11 + k, none⟩ (.int .i64 x)) b now th mv (fun j => if j = k then x else told j) asked := by
  unfold PullAt at *; rw [obj_set h]
  have : k = 0 ∨ k = 1 ∨ k = 2 ∨ k = 3 ∨ k = 4 ∨ k = 5 ∨ k = 6 ∨ k = 7 ∨ k = 8 := by omega
  rcases this with rfl | rfl | rfl | rfl | rfl | rfl | rfl | rfl | rfl <;> rfl
theorem setAsked (h : PullAt w b now th mv told asked) (k : Nat) (hk : k < 9) (x : Int) : PullAt (w.setCell ⟨b, 20 + k, none⟩ (.int .i64 x)) b now th mv told (fun j => if j = k then x else asked j) := by
  unfold PullAt at *; rw [obj_set h]
  have : k = 0 ∨ k = 1 ∨ k = 2 ∨ k = 3 ∨ k = 4 ∨ k = 5 ∨ k = 6 ∨ k = 7 ∨ k = 8 := by omega
  rcases this with rfl | rfl | rfl | rfl | rfl | rfl | rfl | rfl | rfl <;> rfl
end PullAt
/-- what lies in a track's map -/
def WF (g : Int → Option Int) : Int → Option Value := fun i => (g i).map (Value.int .i64)
theorem WF.isSome (g : Int → Option Int) (i : Int) : (WF g i).isSome = (g i).isSome := by cases h : g i <;> simp [WF, h]
theorem WF.put (g : Int → Option Int) (k x : Int) : (fun j => if j = k then Option.some (Value.int .i64 x) else WF g j) = WF (fun j => if j = k then Option.some x else g j) := by
  funext j; by_cases e : j = k <;> simp [WF, e]
theorem WF.del (g : Int → Option Int) (k : Int) : (fun j => if j = k then Option.none else WF g j) = WF (fun j => if j = k then Option.none else g j) := by
  funext j; by_cases e : j = k <;> simp [WF, e]
theorem plaw : Keyed Tryz.prog 3 := Maps.int_keyed Tryz.underlying3
/-- a pull with its maps; M: no block of theirs is below it -/
structure Pul (M : Nat) (w : World) (b : Nat) (now th : Int) (mp : Nat → Nat) (told asked : Nat → Int) (C : Nat → Nat) (F : Nat → Int → Option Int) : Prop where
  at_ : PullAt w b now th (fun k => .map (some (mp k))) told asked
  map : ∀ k, k < 9 → MapAt Tryz.prog 3 w (mp k) (C k) (WF (F k))
  ne : ∀ k, k < 9 → mp k ≠ b
  inj : ∀ j k, j < 9 → k < 9 → mp j = mp k → j = k
  low : M ≤ b ∧ ∀ k, k < 9 → M ≤ mp k
/-- a pull's own blocks alone are written -/
abbrev FP (b : Nat) (mp : Nat → Nat) (w w' : World) : Prop := Keeps (fun k => k = b ∨ ∃ j, j < 9 ∧ k = mp j) w w'
namespace Pul
variable {M : Nat} {w w' : World} {b : Nat} {now th : Int} {mp : Nat → Nat} {told asked : Nat → Int} {C : Nat → Nat} {F : Nat → Int → Option Int}
theorem below (h : Pul M w b now th mp told asked C F) (k : Below w.heap.size w w') : Pul M w' b now th mp told asked C F :=
  ⟨Below.heapAt k h.at_ (lt_of_block h.at_), fun j hj => (h.map j hj).below k (h.map j hj).lt, h.ne, h.inj, h.low⟩
theorem drewN (h : Pul M w b now th mp told asked C F) (k : Nat) : Pul M (w.drewN k) b now th mp told asked C F := ⟨by exact h.at_, fun j hj => by exact h.map j hj, h.ne, h.inj, h.low⟩
theorem mono {M' : Nat} (h : Pul M w b now th mp told asked C F) (k : M' ≤ M) : Pul M' w b now th mp told asked C F := ⟨h.at_, h.map, h.ne, h.inj, ⟨Nat.le_trans k h.low.1, fun j hj => Nat.le_trans k (h.low.2 j hj)⟩⟩
/-- another's blocks are written -/
theorem keep {S : Nat → Prop} (h : Pul M w b now th mp told asked C F) (k : Keeps S w w') (hS : ∀ j, S j → j < M) : Pul M w' b now th mp told asked C F :=
  ⟨Keeps.heap k h.at_ (fun e => by have := hS _ e; have := h.low.1; omega), fun j hj => (h.map j hj).block (k.block (mp j) (h.map j hj).lt (fun e => by have := hS _ e; have := h.low.2 j hj; omega)), h.ne, h.inj, h.low⟩
/-- a store into the object -/
theorem set {now' th' : Int} {told' asked' : Nat → Int} {j : Nat} {v : Value} (h : Pul M w b now th mp told asked C F) (hg : PullAt (w.setCell ⟨b, j, none⟩ v) b now' th' (fun k => .map (some (mp k))) told' asked') : Pul M (w.setCell ⟨b, j, none⟩ v) b now' th' mp told' asked' C F :=
  ⟨hg, fun j hj => (h.map j hj).block (Below.heap_setCell _ _ _ _ (h.ne j hj)), h.ne, h.inj, h.low⟩
/-- a map has turned -/
theorem mapped {c' : Nat} {g' : Int → Option Int} (t : Nat) (ht : t < 9) (h : Pul M w b now th mp told asked C F) (m : MapAt Tryz.prog 3 w' (mp t) c' (WF g')) (q : ∀ k, k < w.heap.size → k ≠ mp t → w'.heap[k]? = w.heap[k]?) : Pul M w' b now th mp told asked (fun j => if j = t then c' else C j) (fun j => if j = t then g' else F j) := by
  refine ⟨?_, fun j hj => ?_, h.ne, h.inj, h.low⟩
  · have e := q b (lt_of_block h.at_) (h.ne t ht).symm
    have a := h.at_
    unfold PullAt at *
    rw [e]; exact a
  · by_cases e : j = t
    · subst e; simpa using m
    · rw [if_neg e, if_neg e]
      exact (h.map j hj).block (q _ (h.map j hj).lt (fun x => e (h.inj j t hj ht x)))
end Pul
theorem FP.below {M : Nat} {w w' : World} {b : Nat} {mp : Nat → Nat} {now th : Int} {told asked : Nat → Int} {C : Nat → Nat} {F : Nat → Int → Option Int} (k : FP b mp w w') (h : Pul M w b now th mp told asked C F) (hM : M ≤ w.heap.size) : Below M w w' :=
  Keeps.below k hM (fun j hj e => by
    rcases e with rfl | ⟨i, hi, rfl⟩
    · have := h.low.1; omega
    · have := h.low.2 i hi; omega)
theorem pullTrack_any (n : Int) (w : World) : Calls Tryz.prog 37 #[.int .i64 n] w fun e w' => e = .returned (.bool (decide (1 ≤ n) && decide (n ≤ 8))) ∧ w = w' := by
  go_enter Tryz.func37, Tryz.ntmps37
  go_wp2
  all_goals
    go_ret
    exact ⟨ret_bool (by simp <;> omega), rfl⟩
theorem pullRight_any (who n : Int) (w : World) : Calls Tryz.prog 98 #[.int .i64 who, .int .i64 n] w fun e w' => e = .returned (.bool (decide (0 ≤ who) && decide (who ≤ 200) && decide (1 ≤ n) && decide (n ≤ 8))) ∧ w = w' := by
  have T := Lib.hid (fun y => pullTrack_any n y)
  go_enter Tryz.func98, Tryz.ntmps98
  go_wp2_with (go_at_call 37; refine (T.out _).mono ?_; rintro e w' ⟨rfl, rfl⟩)
  all_goals go_ret
  all_goals exact ⟨ret_bool (by first | (simp [*]; done) | (simp; omega)), rfl⟩
set_option maxHeartbeats 2000000 in
theorem pullNew_ok (th : Int) (h1 : 1 ≤ th) (h2 : th ≤ 1000000) (w : World) :
    Calls Tryz.prog 26 #[.int .i64 th] w fun e w' => ∃ b mp, e = .returned (.tuple #[.pointer (some ⟨b, 0, none⟩), .nilIface]) ∧ Pul w.heap.size w' b 0 th mp (fun _ => 0) (fun _ => 0) (fun _ => 0) (fun _ _ => none) ∧ Below w.heap.size w w' := by
  have hmm := @run_makeMap Tryz.prog
  go_enter Tryz.func26, Tryz.ntmps26
  go_upto_region 5 with fail
  refine abs_at (fun y => PullAt y w.heap.size 0 th (fun j => .map (if j < 0 then some (w.heap.size + 1 + j) else none)) (fun _ => 0) (fun _ => 0) ∧ Hid (Below w.heap.size w y) ∧ y.heap.size = w.heap.size + 1 + 0) ⟨obj_new _ _, Lib.hid ((Below.refl _ _).alloc (Nat.le_refl _) _), by simp⟩ ?_
  generalize hN : w.heap.size = N
  have HN := Lib.hid hN
  clear hN
  rintro y ⟨p, kb, hs⟩
  go_loopw [16] (fun s16 wr => ∃ k : Nat, k ≤ 9 ∧ s16 = .int .i64 k ∧ PullAt wr N 0 th (fun j => .map (if j < k then some (N + 1 + j) else none)) (fun _ => 0) (fun _ => 0) ∧ Hid (∀ j, j < k → MapAt Tryz.prog 3 wr (N + 1 + j) 0 (WF (fun _ => none))) ∧ Hid (Below N w wr) ∧ wr.heap.size = N + 1 + k) (fun s16 _ => 9 - (intOf s16).toNat)
  case atStart => exact ⟨0, by omega, rfl, p, Lib.hid (fun j hj => by omega), kb, hs⟩
  case round =>
    clear p kb hs
    obtain ⟨k, hk, rfl, p, hm, kb, hs⟩ := hrel
    by_cases hlt : k < 9
    · have pa : PullAt (wr.alloc (.map #[] 0)) N 0 th (fun j => .map (if j < k then some (N + 1 + j) else none)) (fun _ => 0) (fun _ => 0) := obj_old p _
      have ma := Lib.hid ((MapAt.made Tryz.prog 3 wr).block (Below.heap_setCell (wr.alloc (.map #[] 0)) ⟨N, 2 + k, none⟩ (.map (some (N + 1 + k))) _ (by simp; omega)))
      have pk := Lib.hid (pa.setMap k hlt (.map (some (N + 1 + k))))
      have c2 := pa.map_ k hlt
      have f2 := obj_free pa (2 + k)
      go_wp2
      go_roundw
      case measure => simp [intOf]; omega
      case rel =>
        refine ⟨k + 1, by omega, rfl, ?_, Lib.hid (fun j hj => ?_), Lib.hid ?_, by simp; omega⟩
        · have := pk.out
          unfold PullAt pullCells at *
          rw [this]
          have : k = 0 ∨ k = 1 ∨ k = 2 ∨ k = 3 ∨ k = 4 ∨ k = 5 ∨ k = 6 ∨ k = 7 ∨ k = 8 := by omega
          rcases this with rfl | rfl | rfl | rfl | rfl | rfl | rfl | rfl | rfl <;> rfl
        · by_cases e : j = k
          · subst e; rw [hs] at ma; exact ma.out
          · exact (hm.out j (by omega)).below (M := wr.heap.size) (((Below.refl _ _).alloc (Nat.le_refl _) _)) (hm.out j (by omega)).lt |>.block (Below.heap_setCell _ _ _ _ (by simp; omega))
        · exact Below.setCell (kb.out.alloc (by omega) _) (Nat.le_refl _) _
    · have : k = 9 := by omega
      subst this
      rw [show ((9 : Nat) : Int) = 9 from rfl]
      go_wp2
      go_ret2
      refine ⟨N, rfl, ⟨fun j => N + 1 + j, ?_, hm.out, fun j _ => by omega, fun i j _ _ e => by omega, by rw [HN.out]; exact ⟨Nat.le_refl _, fun j _ => by omega⟩⟩, by have := kb.out; rw [← HN.out] at this; exact this⟩
      exact p
theorem pullNew_bad (th : Int) (h : ¬ (1 ≤ th ∧ th ≤ 1000000)) (w : World) :
    Calls Tryz.prog 26 #[.int .i64 th] w fun e w' => e = .returned (.tuple #[.pointer none, .iface 62 (.int .i64 1)]) ∧ w = w' := by
  have G := Lib.hid h
  clear h
  go_enter Tryz.func26, Tryz.ntmps26
  go_wp2
  all_goals first
    | (exfalso; have := G.out; omega)
    | (go_ret2; exact ⟨rfl, rfl⟩)
end Go.Proofs.YtcicfchpcbfdkaaGreatDoor
