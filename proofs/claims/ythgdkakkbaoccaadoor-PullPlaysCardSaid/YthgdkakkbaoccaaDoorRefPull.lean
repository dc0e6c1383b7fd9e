import Derived.Test.YthgdkakkbaoccaaDoorPullWho
import Derived.Test.YthgdkakkbaoccaaDoorPNeeds
import Derived.Test.YthgdkakkbaoccaaDoorRSorted
import Derived.Test.YthgdkakkbaoccaaDoorSameWt
/-! The reference's Pull: its object, track, at, Need. -/
namespace Go.Proofs.YthgdkakkbaoccaaDoor
open Go.RowKit
set_option linter.unusedVariables false
set_option linter.unusedSimpArgs false
/-- slices of wants -/
def wantK : RecK Wt := ⟨85, 91, 3, 24, Wt.cells⟩
theorem wantK_ok : wantK.Ok where
  und := Tryd.underlying85
  info := by
    obtain ⟨i0, hi, hz0, hz1, hz2⟩ := info_parts infoWant
    exact ⟨i0, _, hi, hz0, hz1, hz2, rfl⟩
  pos := by decide
  len := fun _ => rfl
  one := fun x u hu => by simp [wantK, Wt.cells] at hu; rcases hu with rfl | rfl | rfl <;> rfl
  small := by decide
theorem wantK_row {w : World} {M : Nat} {v : Value} {L : List Wt} : wantK.Own w M v L ↔ WRow w M v L := Iff.rfl
/-- the cells of the reference's pull -/
def rPullCells (now th : Int) (v : Value) (told asked : Nat → Int) : Array Value :=
  #[.int .i64 th, .int .i64 now, v,
    .int .i64 (told 0), .int .i64 (told 1), .int .i64 (told 2), .int .i64 (told 3), .int .i64 (told 4), .int .i64 (told 5), .int .i64 (told 6), .int .i64 (told 7), .int .i64 (told 8),
    .int .i64 (asked 0), .int .i64 (asked 1), .int .i64 (asked 2), .int .i64 (asked 3), .int .i64 (asked 4), .int .i64 (asked 5), .int .i64 (asked 6), .int .i64 (asked 7), .int .i64 (asked 8)]
def RPullAt (w : World) (b : Nat) (now th : Int) (v : Value) (told asked : Nat → Int) : Prop := w.heap[b]? = some (.cells (rPullCells now th v told asked) 98 (0, 0))
namespace RPullAt
variable {w : World} {b : Nat} {now th : Int} {v : Value} {told asked : Nat → Int}
theorem th_ (h : RPullAt w b now th v told asked) : w.cell? ⟨b, 0, none⟩ = some (.int .i64 th) := obj_cell h rfl
theorem now_ (h : RPullAt w b now th v told asked) : w.cell? ⟨b, 1, none⟩ = some (.int .i64 now) := obj_cell h rfl
theorem row_ (h : RPullAt w b now th v told asked) : w.cell? ⟨b, 2, none⟩ = some v := obj_cell h rfl
theorem told_ (h : RPullAt w b now th v told asked) (k : Nat) (hk : k < 9) : w.cell? ⟨b, 3 + k, none⟩ = some (.int .i64 (told k)) := by
  have : k = 0 ∨ k = 1 ∨ k = 2 ∨ k = 3 ∨ k = 4 ∨ k = 5 ∨ k = 6 ∨ k = 7 ∨ k = 8 := by omega
  rcases this with rfl | rfl | rfl | rfl | rfl | rfl | rfl | rfl | rfl <;> exact obj_cell h rfl
theorem asked_ (h : RPullAt w b now th v told asked) (k : Nat) (hk : k < 9) : w.cell? ⟨b, 12 + k, none⟩ = some (.int .i64 (asked k)) := by
  have : k = 0 ∨ k = 1 ∨ k = 2 ∨ k = 3 ∨ k = 4 ∨ k = 5 ∨ k = 6 ∨ k = 7 ∨ k = 8 := by omega
  rcases this with rfl | rfl | rfl | rfl | rfl | rfl | rfl | rfl | rfl <;> exact obj_cell h rfl
theorem setNow (h : RPullAt w b now th v told asked) (x : Int) : RPullAt (w.setCell ⟨b, 1, none⟩ (.int .i64 x)) b x th v told asked := by
  unfold RPullAt at *; rw [obj_set h]; rfl
theorem setRow (h : RPullAt w b now th v told asked) (v' : Value) : RPullAt (w.setCell ⟨b, 2, none⟩ v') b now th v' told asked := by
  unfold RPullAt at *; rw [obj_set h]; rfl
theorem setTold (h : RPullAt w b now th v told asked) (k : Nat) (hk : k < 9) (x : Int) : RPullAt (w.setCell ⟨b, 3 + k, none⟩ (.int .i64 x)) b now th v (fun j => if j = k then x else told j) asked := by
  unfold RPullAt at *; rw [obj_set h]
  have : k = 0 ∨ k = 1 ∨ k = 2 ∨ k = 3 ∨ k = 4 ∨ k = 5 ∨ k = 6 ∨ k = 7 ∨ k = 8 := by omega
  rcases this with rfl | rfl | rfl | rfl | rfl | rfl | rfl | rfl | rfl <;> rfl
theorem setAsked (h : RPullAt w b now th v told asked) (k : Nat) (hk : k < 9) (x : Int) : RPullAt (w.setCell ⟨b, 12 + k, none⟩ (.int .i64 x)) b now th v told (fun j => if j = k then x else asked j) := by
  unfold RPullAt at *; rw [obj_set h]
  have : k = 0 ∨ k = 1 ∨ k = 2 ∨ k = 3 ∨ k = 4 ∨ k = 5 ∨ k = 6 ∨ k = 7 ∨ k = 8 := by omega
  rcases this with rfl | rfl | rfl | rfl | rfl | rfl | rfl | rfl | rfl <;> rfl
end RPullAt
/-- the reference's pull with its list -/
structure RPul (M : Nat) (w : World) (b : Nat) (now th : Int) (v : Value) (L : List Wt) (told asked : Nat → Int) : Prop where
  at_ : RPullAt w b now th v told asked
  row : WRow w M v L
  low : M ≤ b
theorem wrow_ne {M : Nat} {w : World} {b : Nat} {now th : Int} {v u : Value} {L : List Wt} {told asked : Nat → Int} (hr : WRow w M v L) (a : RPullAt w b now th u told asked) : v.ownBlock ≠ some b := fun e => by
  unfold RPullAt at a
  rcases hr.2 with ⟨rfl, _⟩ | ⟨g, cap, cur, rfl, hb, hg, _⟩
  · cases e
  · simp [Value.ownBlock] at e
    rw [e, a] at hg
    simp at hg
/-- its own blocks alone are written -/
abbrev RFP (b : Nat) (v : Value) (w w' : World) : Prop := Keeps (fun k => k = b ∨ v.ownBlock = some k) w w'
namespace RPul
variable {M : Nat} {w w' : World} {b : Nat} {now th : Int} {v : Value} {L : List Wt} {told asked : Nat → Int}
theorem row_ne (h : RPul M w b now th v L told asked) : v.ownBlock ≠ some b := wrow_ne h.row h.at_
theorem below (h : RPul M w b now th v L told asked) (k : Below w.heap.size w w') : RPul M w' b now th v L told asked :=
  ⟨Below.heapAt k h.at_ (lt_of_block h.at_), wantRow_below h.row k, h.low⟩
theorem keep {S : Nat → Prop} (h : RPul M w b now th v L told asked) (k : Keeps S w w') (hS : ∀ j, S j → j < M ∨ (∀ c, w.heap[j]? ≠ some (.cells c 98 (0, 0))) ∧ (∀ c, w.heap[j]? ≠ some (.cells c 91 (0, 0)))) : RPul M w' b now th v L told asked := by
  refine ⟨Keeps.heap k h.at_ (fun e => ?_), wantRow_keep h.row (fun g hg hM hl => k.block g hl (fun e => ?_)), h.low⟩
  · rcases hS _ e with h1 | ⟨h1, _⟩
    · have := h.low; omega
    · exact h1 _ h.at_
  · rcases hS _ e with h1 | ⟨_, h1⟩
    · omega
    · rcases h.row.2 with ⟨rfl, _⟩ | ⟨g', cap, cur, rfl, hb, hg', _⟩
      · cases hg
      · simp [Value.ownBlock] at hg
        subst hg
        exact h1 _ hg'
theorem mono {M' : Nat} (h : RPul M w b now th v L told asked) (k : M' ≤ M) : RPul M' w b now th v L told asked := ⟨h.at_, World.ownsRow.mono h.row k, Nat.le_trans k h.low⟩
/-- a store into the object -/
theorem set {now' th' : Int} {told' asked' : Nat → Int} {j : Nat} {u : Value} (h : RPul M w b now th v L told asked) (hg : RPullAt (w.setCell ⟨b, j, none⟩ u) b now' th' v told' asked') : RPul M (w.setCell ⟨b, j, none⟩ u) b now' th' v L told' asked' :=
  ⟨hg, wantRow_keep h.row (fun g hg' _ _ => Below.heap_setCell _ _ _ _ (fun e => h.row_ne (hg'.trans (by rw [e])))), h.low⟩
end RPul
/-- behind an append to its row: the object is as it was -/
theorem RPul.grown {M : Nat} {w w' : World} {b : Nat} {now th : Int} {v : Value} {L : List Wt} {told asked : Nat → Int} (h : RPul M w b now th v L told asked) (k : w.grownBy w' v.ownBlock) : RPullAt w' b now th v told asked := by
  have e := k.block b (lt_of_block h.at_) (fun e => h.row_ne e.symm)
  have a := h.at_
  unfold RPullAt at *
  rw [e]; exact a
/-- another row is stored -/
theorem RPul.put {M : Nat} {w : World} {b : Nat} {now th : Int} {v v' : Value} {L' : List Wt} {told asked : Nat → Int} (a : RPullAt w b now th v told asked) (hM : M ≤ b) (hr : WRow w M v' L') : RPul M (w.setCell ⟨b, 2, none⟩ v') b now th v' L' told asked :=
  ⟨a.setRow v', wantRow_keep hr (fun g hg _ _ => Below.heap_setCell _ _ _ _ (fun e => wrow_ne hr a (hg.trans (by rw [e])))), hM⟩
theorem RFP.below {M : Nat} {w w' : World} {b : Nat} {v : Value} {now th : Int} {L : List Wt} {told asked : Nat → Int} (k : RFP b v w w') (h : RPul M w b now th v L told asked) (hM : M ≤ w.heap.size) : Below M w w' :=
  Keeps.below k hM (fun j hj e => by
    rcases e with rfl | e
    · have := h.low; omega
    · have := (h.row.lt j e).1; omega)
theorem rTrack_any (n : Int) (w : World) : Calls Tryd.prog 76 #[.int .i64 n] w fun e w' => e = .returned (.bool (decide (1 ≤ n) && decide (n ≤ 8))) ∧ w = w' := by
  go_enter Tryd.func76, Tryd.ntmps76
  go_wp2
  all_goals
    go_ret
    exact ⟨ret_bool (by simp <;> omega), rfl⟩
/-- where somebody's want of a track lies -/
def isWt (who t : Int) (x : Wt) : Bool := decide (x.who = who) && decide (x.track = t)
def AtL (L : List Wt) (who t k : Int) : Prop := (k = -1 ∧ ∀ x ∈ L, isWt who t x = false) ∨ ∃ j : Nat, k = j ∧ ∃ h : j < L.length, isWt who t L[j] = true
set_option maxRecDepth 100000 in
set_option maxHeartbeats 2000000 in
theorem rPullAt_any (M b : Nat) (now th : Int) (v : Value) (L : List Wt) (told asked : Nat → Int) (who t : Int) (hL : L.length ≤ 1000000) (w : World) (h : RPul M w b now th v L told asked) :
    Calls Tryd.prog 77 #[.pointer (some ⟨b, 0, none⟩), .int .i64 who, .int .i64 t] w fun e w' => ∃ k, e = .returned (.int .i64 k) ∧ AtL L who t k ∧ w = w' := by
  obtain ⟨o1, c1, rfl, g1⟩ := wantRow_read h.row
  have G1 := Lib.hid g1
  have k2 := h.at_.row_
  clear g1 h
  go_enter Tryd.func77, Tryd.ntmps77
  go_wp2_with fail
  go_loop [7] (fun s7 => ∃ k : Nat, k ≤ L.length ∧ s7 = .int .i64 k ∧ Hid (∀ x ∈ L.take k, isWt who t x = false)) (fun s7 => L.length - (RowKit.intOf s7).toNat)
  case atStart => exact ⟨0, by omega, rfl, Lib.hid (fun x hx => by simp at hx)⟩
  case round =>
    obtain ⟨k, hk, rfl, HN⟩ := hrel
    by_cases hlt : k < L.length
    · obtain ⟨g, rfl, _, _, q0, q1, q2⟩ := G1.out k L[k] (by simp [hlt])
      have HT := Lib.hid (take_one L k hlt)
      have HE := Lib.hid (show ∀ k' : Int, k' = (k : Int) → isWt who t L[k] = true → AtL L who t k' from fun k' e h => .inr ⟨k, e, hlt, h⟩)
      generalize L[k] = x at *
      obtain ⟨a0, a1, a2⟩ := x
      dsimp only at q0 q1 q2
      by_cases e0 : a0 = who
      · by_cases e1 : a1 = t
        · subst e0 e1
          go_wp2_with fail
          go_ret
          exact ⟨_, rfl, HE.out _ rfl (by simp [isWt]), rfl⟩
        · have d0 : (a0 == who) = true := by simpa using e0
          have d1 : (a1 == t) = false := by simpa using e1
          have HN2 := Lib.hid (show ∀ x ∈ L.take (k + 1), isWt who t x = false from fun x hx => by
            rw [HT.out] at hx
            rcases List.mem_append.1 hx with h | h
            · exact HN.out x h
            · simp at h; subst h; simp [isWt, e1])
          clear e0 e1
          go_wp2_with fail
          go_round
          case measure => simp [RowKit.intOf]; omega
          case rel => exact ⟨k + 1, by omega, rfl, HN2⟩
      · have d0 : (a0 == who) = false := by simpa using e0
        have HN2 := Lib.hid (show ∀ x ∈ L.take (k + 1), isWt who t x = false from fun x hx => by
          rw [HT.out] at hx
          rcases List.mem_append.1 hx with h | h
          · exact HN.out x h
          · simp at h; subst h; simp [isWt, e0])
        clear e0
        go_wp2_with fail
        go_round
        case measure => simp [RowKit.intOf]; omega
        case rel => exact ⟨k + 1, by omega, rfl, HN2⟩
    · obtain rfl : k = L.length := by omega
      rw [List.take_length] at HN
      go_wp2_with fail
      go_ret
      exact ⟨-1, rfl, .inl ⟨rfl, HN.out⟩, rfl⟩
end Go.Proofs.YthgdkakkbaoccaaDoor
