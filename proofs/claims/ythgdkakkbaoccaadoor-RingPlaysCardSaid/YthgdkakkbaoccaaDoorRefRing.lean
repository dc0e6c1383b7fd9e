import Derived.Test.YthgdkakkbaoccaaDoorRecs
import Derived.Test.YthgdkakkbaoccaaDoorRSorted
import Derived.Test.YthgdkakkbaoccaaDoorRefPk
import Derived.Deep.QuietTactic
import Derived.BigQuiet
import Derived.Deep.DeepCutAuto
import Derived.Deep.Onto
/-! The reference's Ring: its object, At, Low. -/
namespace Go.Proofs.YthgdkakkbaoccaaDoor
open Go.RowKit
set_option linter.unusedVariables false
set_option linter.unusedSimpArgs false
/-- an item as its cells say -/
structure Itm where
  num : Int
  gone : Bool
  s : Int
  t : Int
  l : Int
  lv : Int
  st : Bool
  oa : Option Addr
  bn : Nat
  bc : Nat
def Itm.cells (x : Itm) : List Value := [.int .i64 x.num, .bool x.gone, .int .i64 x.s, .int .i64 x.t, .int .i64 x.l, .int .i64 x.lv, .bool x.st, .slice x.oa x.bn x.bc]
theorem infoIt : (Tryd.prog.info? 44).map (fun i => (i.zero, i.size, i.bytes)) = some (some (.agg #[.int .i64 0, .bool false, .int .i64 0, .int .i64 0, .int .i64 0, .int .i64 0, .bool false, .slice none 0 0]), 8, 80) := by kernel_rfl
def itemK : RecK Itm := ⟨31, 44, 8, 80, Itm.cells⟩
theorem itemK_ok : itemK.Ok where
  und := Tryd.underlying31
  info := by
    obtain ⟨i0, hi, hz0, hz1, hz2⟩ := info_parts infoIt
    exact ⟨i0, _, hi, hz0, hz1, hz2, rfl⟩
  pos := by decide
  len := fun _ => rfl
  one := fun x u hu => by simp [itemK, Itm.cells] at hu; rcases hu with rfl | rfl | rfl | rfl | rfl | rfl | rfl | rfl <;> rfl
  small := by decide
def RRingAt (w : World) (b : Nat) (n top : Int) (v : Value) : Prop := w.heap[b]? = some (.cells #[.int .i64 n, .int .i64 top, v] 33 (0, 0))
structure RRng (M : Nat) (w : World) (b : Nat) (n top : Int) (v : Value) (L : List Itm) : Prop where
  at_ : RRingAt w b n top v
  row : itemK.Own w M v L
  low : M ≤ b
/-- its own blocks alone are written -/
abbrev RRFP (b : Nat) (v : Value) (w w' : World) : Prop := Keeps (fun k => k = b ∨ v.ownBlock = some k) w w'
theorem irow_ne {M : Nat} {w : World} {b : Nat} {n top : Int} {v u : Value} {L : List Itm} (hr : itemK.Own w M v L) (a : RRingAt w b n top u) : v.ownBlock ≠ some b := fun e => by
  unfold RRingAt at a
  rcases hr.2 with ⟨rfl, _⟩ | ⟨g, cap, cur, rfl, hb, hg, _⟩
  · cases e
  · simp [Value.ownBlock] at e
    rw [e, a] at hg
    simp [itemK] at hg
namespace RRng
variable {M : Nat} {w w' : World} {b : Nat} {n top : Int} {v : Value} {L : List Itm}
theorem row_ne (h : RRng M w b n top v L) : v.ownBlock ≠ some b := irow_ne h.row h.at_
theorem below (h : RRng M w b n top v L) (k : Below w.heap.size w w') : RRng M w' b n top v L :=
  ⟨Below.heapAt k h.at_ (lt_of_block h.at_), h.row.below k, h.low⟩
theorem keep {S : Nat → Prop} (h : RRng M w b n top v L) (k : Keeps S w w') (hS : ∀ j, S j → j < M ∨ (∀ c, w.heap[j]? ≠ some (.cells c 33 (0, 0))) ∧ (∀ c, w.heap[j]? ≠ some (.cells c 44 (0, 0)))) : RRng M w' b n top v L := by
  refine ⟨Keeps.heap k h.at_ (fun e => ?_), h.row.keep (fun g hg hM hl => k.block g hl (fun e => ?_)), h.low⟩
  · rcases hS _ e with h1 | ⟨h1, _⟩
    · have := h.low; omega
    · exact h1 _ h.at_
  · rcases hS _ e with h1 | ⟨_, h1⟩
    · omega
    · rcases h.row.2 with ⟨rfl, _⟩ | ⟨g', cap, cur, rfl, hb, hg', _⟩
      · cases hg
      · simp [Value.ownBlock] at hg
        subst hg
        exact h1 _ hg'
theorem setTop {x : Int} (h : RRng M w b n top v L) : RRng M (w.setCell ⟨b, 1, none⟩ (.int .i64 x)) b n x v L :=
  ⟨by unfold RRingAt; rw [obj_set h.at_]; rfl, h.row.keep (fun g hg' _ _ => Below.heap_setCell _ _ _ _ (fun e => h.row_ne (hg'.trans (by rw [e])))), h.low⟩
theorem put {v' : Value} {L' : List Itm} (a : RRingAt w b n top v) (hM : M ≤ b) (hr : itemK.Own w M v' L') : RRng M (w.setCell ⟨b, 2, none⟩ v') b n top v' L' :=
  ⟨by unfold RRingAt at *; rw [obj_set a]; rfl, hr.keep (fun g hg _ _ => Below.heap_setCell _ _ _ _ (fun e => irow_ne hr a (hg.trans (by rw [e])))), hM⟩
theorem grown (h : RRng M w b n top v L) (k : w.grownBy w' v.ownBlock) : RRingAt w' b n top v := by
  have e := k.block b (lt_of_block h.at_) (fun e => h.row_ne e.symm)
  have a := h.at_
  unfold RRingAt at *
  rw [e]; exact a
end RRng
theorem RRFP.below {M : Nat} {w w' : World} {b : Nat} {v : Value} {n top : Int} {L : List Itm} (k : RRFP b v w w') (h : RRng M w b n top v L) (hM : M ≤ w.heap.size) : Below M w w' :=
  Keeps.below k hM (fun j hj e => by
    rcases e with rfl | e
    · have := h.low; omega
    · have := (h.row.lt j e).1; omega)
/-- where a number lies -/
def AtI (L : List Itm) (num k : Int) : Prop := (k = -1 ∧ ∀ x ∈ L, x.num ≠ num) ∨ ∃ j : Nat, k = j ∧ ∃ h : j < L.length, L[j].num = num
set_option maxRecDepth 100000 in
set_option maxHeartbeats 2000000 in
theorem rRingAt_any (M b : Nat) (n top : Int) (v : Value) (L : List Itm) (num : Int) (hL : L.length ≤ 1000000) (w : World) (h : RRng M w b n top v L) :
    Calls Tryd.prog 16 #[.pointer (some ⟨b, 0, none⟩), .int .i64 num] w fun e w' => ∃ k, e = .returned (.int .i64 k) ∧ AtI L num k ∧ w = w' := by
  obtain ⟨o1, c1, rfl, g1⟩ := h.row.read itemK_ok
  have G1 := Lib.hid g1
  have k2 : w.cell? ⟨b, 2, none⟩ = some (.slice o1 L.length c1) := obj_cell h.at_ rfl
  clear g1 h
  go_enter Tryd.func16, Tryd.ntmps16
  go_wp2_with fail
  go_loop [5] (fun s5 => ∃ k : Nat, k ≤ L.length ∧ s5 = .int .i64 k ∧ Hid (∀ x ∈ L.take k, x.num ≠ num)) (fun s5 => L.length - (RowKit.intOf s5).toNat)
  case atStart => exact ⟨0, by omega, rfl, Lib.hid (fun x hx => by simp at hx)⟩
  case round =>
    obtain ⟨k, hk, rfl, HN⟩ := hrel
    by_cases hlt : k < L.length
    · obtain ⟨g, rfl, _, _, q⟩ := G1.out k L[k] (by simp [hlt])
      have q0 : w.cell? ⟨g, k * 8, none⟩ = some (.int .i64 (L[k]).num) := q 0 _ rfl
      have HT := Lib.hid (take_next L k hlt)
      have HE := Lib.hid (show ∀ k' : Int, k' = (k : Int) → (L[k]).num = num → AtI L num k' from fun k' e h => .inr ⟨k, e, hlt, h⟩)
      have HX := Lib.hid (show (L[k]).num ≠ num → ∀ x ∈ L.take (k + 1), x.num ≠ num from fun hne x hx => by
        rw [HT.out] at hx
        rcases List.mem_append.1 hx with h | h
        · exact HN.out x h
        · simp at h; subst h; exact hne)
      clear q
      generalize (L[k]).num = a0 at *
      by_cases e0 : a0 = num
      · subst e0
        go_wp2_with fail
        go_ret
        exact ⟨_, rfl, HE.out _ rfl (by first | rfl | trivial), rfl⟩
      · have d0 : (a0 == num) = false := by simpa using e0
        have HN2 := Lib.hid (HX.out e0)
        clear e0
        go_wp2_with fail
        go_round
        case measure => simp [RowKit.intOf]; omega
        case rel => exact ⟨k + 1, by omega, rfl, HN2⟩
    · obtain rfl : k = L.length := by omega
      rw [List.take_length] at HN
      go_wp2_with fail
      go_ret
      exact ⟨-1, rfl, .inl ⟨rfl, HN.out⟩, rfl⟩
/-- the least number -/
def LowI (L : List Itm) (m : Int) : Prop := (m = -1 ∧ L = []) ∨ ((∃ x ∈ L, x.num = m) ∧ ∀ x ∈ L, m ≤ x.num)
set_option maxRecDepth 100000 in
set_option maxHeartbeats 2000000 in
theorem rRingLow_any (M b : Nat) (n top : Int) (v : Value) (L : List Itm) (hL : L.length ≤ 1000000) (h0 : ∀ x ∈ L, 0 ≤ x.num) (w : World) (h : RRng M w b n top v L) :
    Calls Tryd.prog 14 #[.pointer (some ⟨b, 0, none⟩)] w fun e w' => ∃ m, e = .returned (.int .i64 m) ∧ LowI L m ∧ w = w' := by
  obtain ⟨o1, c1, rfl, g1⟩ := h.row.read itemK_ok
  have G1 := Lib.hid g1
  have H0 := Lib.hid h0
  have k2 : w.cell? ⟨b, 2, none⟩ = some (.slice o1 L.length c1) := obj_cell h.at_ rfl
  clear g1 h h0
  go_enter Tryd.func14, Tryd.ntmps14
  go_wp2_with fail
  go_loop [3, 4] (fun s3 s4 => ∃ (k : Nat) (m : Int), k ≤ L.length ∧ s4 = .int .i64 k ∧ s3 = .int .i64 m ∧ Hid (LowI (L.take k) m) ∧ Hid (0 < k → 0 ≤ m)) (fun _ s4 => L.length - (RowKit.intOf s4).toNat)
  case atStart => exact ⟨0, -1, by omega, rfl, rfl, Lib.hid (.inl ⟨rfl, by simp⟩), Lib.hid (fun h => by omega)⟩
  case round =>
    obtain ⟨k, m, hk, rfl, rfl, HN, HP⟩ := hrel
    by_cases hlt : k < L.length
    · obtain ⟨g, rfl, _, _, q⟩ := G1.out k L[k] (by simp [hlt])
      have q0 : w.cell? ⟨g, k * 8, none⟩ = some (.int .i64 (L[k]).num) := q 0 _ rfl
      have HT := Lib.hid (take_next L k hlt)
      have hx0 : 0 ≤ (L[k]).num := H0.out _ (List.getElem_mem _)
      have NEW := Lib.hid (show (m < 0 ∨ (L[k]).num < m) → LowI (L.take (k + 1)) (L[k]).num from fun hc => by
        rw [HT.out]
        refine .inr ⟨⟨L[k], List.mem_append.2 (.inr (by simp)), rfl⟩, fun x hx => ?_⟩
        rcases List.mem_append.1 hx with hx | hx
        · rcases HN.out with ⟨_, e⟩ | ⟨_, h2⟩
          · rw [e] at hx; cases hx
          · have := h2 x hx
            have : 0 < k := by
              rcases Nat.eq_zero_or_pos k with e | e
              · subst e; simp at hx
              · exact e
            have := HP.out this
            omega
        · simp at hx; subst hx; exact Int.le_refl _)
      have OLD := Lib.hid (show ¬ (m < 0 ∨ (L[k]).num < m) → LowI (L.take (k + 1)) m from fun hc => by
        rw [HT.out]
        rcases HN.out with ⟨e, _⟩ | ⟨⟨y, hy, e⟩, h2⟩
        · omega
        · refine .inr ⟨⟨y, List.mem_append.2 (.inl hy), e⟩, fun x hx => ?_⟩
          rcases List.mem_append.1 hx with hx | hx
          · exact h2 x hx
          · simp at hx; subst hx; omega)
      clear q
      generalize (L[k]).num = a0 at *
      by_cases hc : m < 0
      · have HR := Lib.hid (NEW.out (.inl hc))
        go_wp2_with fail
        go_round
        case measure => simp [RowKit.intOf]; omega
        case rel => exact ⟨k + 1, a0, by omega, rfl, rfl, HR, Lib.hid (fun _ => hx0)⟩
      · by_cases hd : a0 < m
        · have HR := Lib.hid (NEW.out (.inr hd))
          go_wp2_with fail
          go_round
          case measure => simp [RowKit.intOf]; omega
          case rel => exact ⟨k + 1, a0, by omega, rfl, rfl, HR, Lib.hid (fun _ => hx0)⟩
        · have HR := Lib.hid (OLD.out (by omega))
          go_wp2_with fail
          go_round
          case measure => simp [RowKit.intOf]; omega
          case rel => exact ⟨k + 1, m, by omega, rfl, rfl, HR, Lib.hid (fun _ => by omega)⟩
    · obtain rfl : k = L.length := by omega
      rw [List.take_length] at HN
      go_wp2_with fail
      go_ret
      exact ⟨m, rfl, HN.out, rfl⟩
end Go.Proofs.YthgdkakkbaoccaaDoor
