import Derived.Test.YtlfdkoebjddokaaDoorItm
import Derived.Test.YtlfdkoebjddokaaDoorRSorted
import Derived.Test.YtlfdkoebjddokaaDoorRefPk
import Derived.Test.YtlfdkoebjddokaaDoorRefSerial
import Derived.Test.YtlfdkoebjddokaaDoorStepApp
import Derived.Test.YtlfdkoebjddokaaDoorOrderPush
import Derived.Deep.QuietTactic
import Derived.BigQuiet
import Derived.Deep.DeepCutAuto
import Derived.Deep.Onto
/-! The reference's Order: its object, time, at. -/
namespace Go.Proofs.YtlfdkoebjddokaaDoor
open Go.RowKit
set_option linter.unusedVariables false
set_option linter.unusedSimpArgs false
/-- what is kept, as its cells say -/
structure KI where
  num : Int
  gone : Bool
  s : Int
  t : Int
  l : Int
  lv : Int
  st : Bool
  oa : Option Addr
  bn : Nat
  bc : Nat
  at_ : Int
def KI.cells (x : KI) : List Value := [.int .i64 x.num, .bool x.gone, .int .i64 x.s, .int .i64 x.t, .int .i64 x.l, .int .i64 x.lv, .bool x.st, .slice x.oa x.bn x.bc, .int .i64 x.at_]
def KI.it (x : KI) : Itm := ⟨x.num, x.gone, x.s, x.t, x.l, x.lv, x.st, x.oa, x.bn, x.bc⟩
theorem infoKI : (Tryd.prog.info? 83).map (fun i => (i.zero, i.size, i.bytes)) = some (some (.agg #[.int .i64 0, .bool false, .int .i64 0, .int .i64 0, .int .i64 0, .int .i64 0, .bool false, .slice none 0 0, .int .i64 0]), 9, 88) := by kernel_rfl
def keptK : RecK KI := ⟨31, 83, 9, 88, KI.cells⟩
theorem keptK_ok : keptK.Ok where
  und := Tryd.underlying31
  info := by
    obtain ⟨i0, hi, hz0, hz1, hz2⟩ := info_parts infoKI
    exact ⟨i0, _, hi, hz0, hz1, hz2, rfl⟩
  pos := by decide
  len := fun _ => rfl
  one := fun x u hu => by simp [keptK, KI.cells] at hu; rcases hu with rfl | rfl | rfl | rfl | rfl | rfl | rfl | rfl | rfl <;> rfl
  small := by decide
def ROrdAt (w : World) (b : Nat) (wait now next : Int) (v : Value) : Prop := w.heap[b]? = some (.cells #[.int .i64 wait, .int .i64 now, .int .i64 next, v] 33 (0, 0))
structure ROrd (M : Nat) (w : World) (b : Nat) (wait now next : Int) (v : Value) (L : List KI) : Prop where
  at_ : ROrdAt w b wait now next v
  row : keptK.Own w M v L
  low : M ≤ b
/-- its own blocks alone are written -/
abbrev ROFP (b : Nat) (v : Value) (w w' : World) : Prop := Keeps (fun k => k = b ∨ v.ownBlock = some k) w w'
theorem krow_ne {M : Nat} {w : World} {b : Nat} {wait now next : Int} {v u : Value} {L : List KI} (hr : keptK.Own w M v L) (a : ROrdAt w b wait now next u) : v.ownBlock ≠ some b := fun e => by
  unfold ROrdAt at a
  rcases hr.2 with ⟨rfl, _⟩ | ⟨g, cap, cur, rfl, hb, hg, _⟩
  · cases e
  · simp [Value.ownBlock] at e
    rw [e, a] at hg
    simp [keptK] at hg
theorem krow_kind {M : Nat} {w : World} {u : Value} {L : List KI} (h : keptK.Own w M u L) {j : Nat} (e : u.ownBlock = some j) : ∃ cs, w.heap[j]? = some (.cells cs 83 (0, 0)) := by
  rcases h.2 with ⟨rfl, _⟩ | ⟨g', cap, cur, rfl, hb, hg', _⟩
  · cases e
  · simp [Value.ownBlock] at e; subst e; exact ⟨_, hg'⟩
namespace ROrd
variable {M : Nat} {w w' : World} {b : Nat} {wait now next : Int} {v : Value} {L : List KI}
theorem row_ne (h : ROrd M w b wait now next v L) : v.ownBlock ≠ some b := krow_ne h.row h.at_
theorem below (h : ROrd M w b wait now next v L) (k : Below w.heap.size w w') : ROrd M w' b wait now next v L :=
  ⟨Below.heapAt k h.at_ (lt_of_block h.at_), h.row.below k, h.low⟩
theorem drewN (h : ROrd M w b wait now next v L) (n : Nat) : ROrd M (w.drewN n) b wait now next v L := ⟨by exact h.at_, by exact h.row, h.low⟩
/-- a store into the object's numbers -/
theorem set {wait' now' next' : Int} {j : Nat} {u : Value} (h : ROrd M w b wait now next v L) (hg : ROrdAt (w.setCell ⟨b, j, none⟩ u) b wait' now' next' v) : ROrd M (w.setCell ⟨b, j, none⟩ u) b wait' now' next' v L :=
  ⟨hg, h.row.keep (fun g hg' _ _ => Below.heap_setCell _ _ _ _ (fun e => h.row_ne (hg'.trans (by rw [e])))), h.low⟩
theorem put {v' : Value} {L' : List KI} (a : ROrdAt w b wait now next v) (hM : M ≤ b) (hr : keptK.Own w M v' L') : ROrd M (w.setCell ⟨b, 3, none⟩ v') b wait now next v' L' :=
  ⟨by unfold ROrdAt at *; rw [obj_set a]; rfl, hr.keep (fun g hg _ _ => Below.heap_setCell _ _ _ _ (fun e => krow_ne hr a (hg.trans (by rw [e])))), hM⟩
theorem grown (h : ROrd M w b wait now next v L) (k : w.grownBy w' v.ownBlock) : ROrdAt w' b wait now next v := by
  have e := k.block b (lt_of_block h.at_) (fun e => h.row_ne e.symm)
  have a := h.at_
  unfold ROrdAt at *
  rw [e]; exact a
end ROrd
theorem ROFP.below {M : Nat} {w w' : World} {b : Nat} {v : Value} {wait now next : Int} {L : List KI} (k : ROFP b v w w') (h : ROrd M w b wait now next v L) (hM : M ≤ w.heap.size) : Below M w w' :=
  Keeps.below k hM (fun j hj e => by
    rcases e with rfl | e
    · have := h.low; omega
    · have := (h.row.lt j e).1; omega)
theorem r1Time_o (n : Int) (w : World) : Calls Tryd.prog 43 #[.int .i64 n] w fun e w' => e = .returned (.bool (decide (0 ≤ n) && decide (n ≤ 1000000))) ∧ w = w' := by
  go_enter Tryd.func43, Tryd.ntmps43
  go_wp2
  all_goals
    go_ret
    exact ⟨ret_bool (by simp <;> omega), rfl⟩
/-- the fault of a time -/
def Pl.oTime (cur now : Int) : Int := if 0 ≤ now ∧ now ≤ 1000000 then (if now < cur then 6 else 0) else 1
theorem rOrdTime_any (b : Nat) (wait cur next : Int) (v : Value) (now : Int) (w : World) (h : ROrdAt w b wait cur next v) :
    Calls Tryd.prog 26 #[.pointer (some ⟨b, 0, none⟩), .int .i64 now] w fun e w' => e = .returned (.int .i64 (Pl.oTime cur now)) ∧ w = w' := by
  have T := Lib.hid (fun y => r1Time_o now y)
  have c2 : w.cell? ⟨b, 1, none⟩ = some (.int .i64 cur) := obj_cell h rfl
  have HG := Lib.hid (show ∀ r, r = Pl.oTime cur now → Ending.returned (.int .i64 r) = Ending.returned (.int .i64 (Pl.oTime cur now)) from fun r e => by rw [e])
  clear h
  by_cases h0 : 0 ≤ now ∧ now ≤ 1000000
  · have e2 : (decide (0 ≤ now) && decide (now ≤ 1000000)) = true := by simp [h0.1, h0.2]
    by_cases h1 : now < cur
    · have E := Lib.hid (show (6 : Int) = Pl.oTime cur now from by unfold Pl.oTime; rw [if_pos h0, if_pos h1])
      clear h0
      go_enter Tryd.func26, Tryd.ntmps26
      go_wp2_with (go_at_call 43; refine (T.out _).mono ?_; rw [e2]; rintro e w' ⟨rfl, rfl⟩)
      go_ret
      exact ⟨HG.out _ E.out, rfl⟩
    · have E := Lib.hid (show (0 : Int) = Pl.oTime cur now from by unfold Pl.oTime; rw [if_pos h0, if_neg h1])
      clear h0
      go_enter Tryd.func26, Tryd.ntmps26
      go_wp2_with (go_at_call 43; refine (T.out _).mono ?_; rw [e2]; rintro e w' ⟨rfl, rfl⟩)
      go_ret
      exact ⟨HG.out _ E.out, rfl⟩
  · have e2 : (decide (0 ≤ now) && decide (now ≤ 1000000)) = false := by simp; omega
    have E := Lib.hid (show (1 : Int) = Pl.oTime cur now from by unfold Pl.oTime; rw [if_neg h0])
    clear h0
    go_enter Tryd.func26, Tryd.ntmps26
    go_wp2_with (go_at_call 43; refine (T.out _).mono ?_; rw [e2]; rintro e w' ⟨rfl, rfl⟩)
    go_ret
    exact ⟨HG.out _ E.out, rfl⟩
/-- where a number lies -/
def AtK (L : List KI) (num k : Int) : Prop := (k = -1 ∧ ∀ x ∈ L, x.num ≠ num) ∨ ∃ j : Nat, k = j ∧ ∃ h : j < L.length, L[j].num = num
set_option maxRecDepth 100000 in
set_option maxHeartbeats 2000000 in
theorem rOrdAt_any (M b : Nat) (wait now next : Int) (v : Value) (L : List KI) (num : Int) (hL : L.length ≤ 1000000) (w : World) (h : ROrd M w b wait now next v L) :
    Calls Tryd.prog 29 #[.pointer (some ⟨b, 0, none⟩), .int .i64 num] w fun e w' => ∃ k, e = .returned (.int .i64 k) ∧ AtK L num k ∧ w = w' := by
  obtain ⟨o1, c1, rfl, g1⟩ := h.row.read keptK_ok
  have G1 := Lib.hid g1
  have k2 : w.cell? ⟨b, 3, none⟩ = some (.slice o1 L.length c1) := obj_cell h.at_ rfl
  clear g1 h
  go_enter Tryd.func29, Tryd.ntmps29
  go_wp2_with fail
  go_loop [5] (fun s5 => ∃ k : Nat, k ≤ L.length ∧ s5 = .int .i64 k ∧ Hid (∀ x ∈ L.take k, x.num ≠ num)) (fun s5 => L.length - (RowKit.intOf s5).toNat)
  case atStart => exact ⟨0, by omega, rfl, Lib.hid (fun x hx => by simp at hx)⟩
  case round =>
    obtain ⟨k, hk, rfl, HN⟩ := hrel
    by_cases hlt : k < L.length
    · obtain ⟨g, rfl, _, _, q⟩ := G1.out k L[k] (by simp [hlt])
      have q0 : w.cell? ⟨g, k * 9, none⟩ = some (.int .i64 (L[k]).num) := q 0 _ rfl
      have HT := Lib.hid (take_next L k hlt)
      have HE := Lib.hid (show ∀ k' : Int, k' = (k : Int) → (L[k]).num = num → AtK L num k' from fun k' e h => .inr ⟨k, e, hlt, h⟩)
      have HX := Lib.hid (show (L[k]).num ≠ num → ∀ x ∈ L.take (k + 1), x.num ≠ num from fun hne x hx => by
        rw [HT.out] at hx
        rcases List.mem_append.1 hx with h | h
        · exact HN.out x h
        · simp at h; subst h; exact hne)
      clear q
      generalize (L[k]).num = a0 at *
      by_cases e0 : a0 = num
      · subst e0
        go_wp2_with fail
        go_ret
        exact ⟨_, rfl, HE.out _ rfl (by first | rfl | trivial), rfl⟩
      · have d0 : (a0 == num) = false := by simpa using e0
        have HN2 := Lib.hid (HX.out e0)
        clear e0
        go_wp2_with fail
        go_round
        case measure => simp [RowKit.intOf]; omega
        case rel => exact ⟨k + 1, by omega, rfl, HN2⟩
    · obtain rfl : k = L.length := by omega
      rw [List.take_length] at HN
      go_wp2_with fail
      go_ret
      exact ⟨-1, rfl, .inl ⟨rfl, HN.out⟩, rfl⟩
end Go.Proofs.YtlfdkoebjddokaaDoor
