import Derived.Test.YtnignokbenimlaaCrc
import Derived.OwnWalk
import Derived.RegionTactic
import Derived.ChangeAlike
/-! The walk of the law CrcLinear. -/
namespace Go.Proofs.Ytnignokbenimlaa
open Go.RowKit
set_option linter.unusedVariables false
set_option linter.unusedSimpArgs false

theorem infoB : (Try.prog.info? 5).map (fun i => (i.zero, i.size, i.bytes)) = some (some (.int .u8 0), 1, 1) := by kernel_rfl
theorem sum_nil : Pl.sumI [] = 0 := by decide
theorem sum_zero : Pl.sumI [0] = 3523407757 := by decide +kernel
theorem bytes_zero (w : World) : IsBytes (w.alloc (.cells #[.int .u8 0] 5)) (.slice (some ⟨w.heap.size, 0, none⟩) 1 1) [0] :=
  Sl.own (obj_new _ _) rfl (by omega) (by unfold maxLen; omega) (by intro i h; simp at h; subst h; rfl)

/-- what stands in the new row after k rounds -/
def Pl.mixed (la lb : List UInt8) (n k i : Nat) : UInt8 := if i < k then la.getD i 0 ^^^ lb.getD i 0 else 0

set_option maxRecDepth 100000 in
set_option maxHeartbeats 4000000 in
theorem crcLinear_core (b0 f0 n0 c0 b1 f1 n1 c1 : Nat) (l0 l1 : List UInt8) (w : World) (h0 : n0 ≤ 1048576) (h1 : n1 ≤ 1048576) (hc0 : n0 ≤ c0) (hc1 : n1 ≤ c1) (m0 : c0 ≤ maxLen) (m1 : c1 ≤ maxLen)
    (k0 : ∀ i, i < n0 → w.cell? ⟨b0, f0 + i, none⟩ = some (encB (l0.getD i 0))) (k1 : ∀ i, i < n1 → w.cell? ⟨b1, f1 + i, none⟩ = some (encB (l1.getD i 0))) (hl0 : b0 < w.heap.size) (hl1 : b1 < w.heap.size) (e0 : l0.length = n0) (e1 : l1.length = n1)
    (n : Nat) (hsel : (n = n0 ∧ n0 ≤ n1) ∨ (n = n1 ∧ n1 < n0)) :
    Calls Try.prog 3 #[.slice (some ⟨b0, f0, none⟩) n0 c0, .slice (some ⟨b1, f1, none⟩) n1 c1] w fun e w' => e = .returned (.bool true) ∧ Below w.heap.size w w' := by
  obtain ⟨i0, hi, hz0, hz1, hz2⟩ := info_parts infoB
  have E0 := Lib.hid e0
  have E1 := Lib.hid e1
  clear e0 e1
  have s0 := sum_nil
  have s1 := sum_zero
  unfold maxLen at m0 m1
  rcases hsel with ⟨rfl, hs⟩ | ⟨rfl, hs⟩
  all_goals
    go_enter Try.func3, Try.ntmps3
    go_wp2_with fail
    refine (crcSum_any _ [] _ (Sl.nil _)).mono ?_
    rintro e w' ⟨rfl, rfl⟩
    go_wp2_with fail
    refine (crcSum_any _ [0] _ (bytes_zero _)).mono ?_
    rintro e w' ⟨rfl, rfl⟩
    go_wp2_with (first
      | (at_make; refine wpList_make_full _ rfl (.tmp 28) (.tmp 28) 22 rfl (w.heap.size) 5 i0 (.int .u8 0) 1 Try.underlying22 hi hz0 hz1 .i64 .i64 _ _ n rfl rfl rfl rfl (by rw [hz2]; omega) (by unfold maxLen; omega) (by simp) ?_; intro wx ox gx)
      | (at_make; refine wpList_make_full _ rfl (.tmp 30) (.tmp 30) 22 rfl (w.heap.size) 5 i0 (.int .u8 0) 1 Try.underlying22 hi hz0 hz1 .i64 .i64 _ _ n rfl rfl rfl rfl (by rw [hz2]; omega) (by unfold maxLen; omega) (by have := gx.size; simp at this; omega) ?_; intro wz oz gz))
    have hx := row_at ox
    have hz := row_at oz
    rw [show (Value.int IntKind.u8 0).cells = #[Value.int .u8 0] from rfl, Nat.mul_one, toList_madeCells_one] at hx hz
    have lx := lt_of_block hx
    have hx' := Below.heapAt (below_grown gz) hx lx
    have hxs : (w.alloc (.cells #[.int .u8 0] 5)).heap.size ≤ wx.heap.size := gx.size
    have kb : Below w.heap.size w wz := (((Below.refl _ _).alloc (Nat.le_refl _) _).trans ((below_grown gx).mono (by simp))).trans ((below_grown gz).mono (by simp at hxs; omega))
    simp at hxs
    have hx2 : wz.heap[w.heap.size + 1]? = some (.cells (List.replicate n (Value.int .u8 0)).toArray 5 (0, 0)) := by simpa using hx'
    have hlt2 : w.heap.size + 1 < wx.heap.size := by simpa using lx
    clear hx hx' ox oz gx gz
    generalize hgz : wx.heap.size = gz at *
    clear hgz
    clear lx
    go_loopw [10] (fun i wr => ∃ k : Nat, k ≤ n ∧ i = .int .i64 k ∧ (∃ cs : Array Value, wr.heap[w.heap.size + 1]? = some (.cells cs 5 (0, 0)) ∧ cs.size = n ∧ (∀ i, i < n → cs[i]? = some (encB (Pl.mixed l0 l1 n k i)))) ∧ wr.heap[gz]? = some (.cells (List.replicate n (Value.int .u8 0)).toArray 5 (0, 0)) ∧ Below w.heap.size w wr) (fun i _ => n - (intOf i).toNat)
    case atStart => exact ⟨0, by omega, rfl, ⟨_, hx2, by simp, fun i hi => by simp [Pl.mixed, hi]⟩, hz, kb⟩
    case round =>
      clear hx2 hz kb
      obtain ⟨k, hk, rfl, ⟨cs, hcs, hsz, hcell⟩, hz, kb⟩ := hrel
      by_cases hlt : k < n
      · have a0 : wr.cell? ⟨b0, f0 + k, none⟩ = some (encB (l0.getD k 0)) := by rw [kb.cell (p := ⟨b0, f0 + k, none⟩) hl0]; exact k0 k (by omega)
        have a1 : wr.cell? ⟨b1, f1 + k, none⟩ = some (encB (l1.getD k 0)) := by rw [kb.cell (p := ⟨b1, f1 + k, none⟩) hl1]; exact k1 k (by omega)
        have ax := obj_cell hcs (hcell k hlt)
        have fx := obj_free hcs k
        have ex := Lib.hid (Pl.xor_byte (l0.getD k 0) (l1.getD k 0))
        have HC := Lib.hid hcell
        have HK0 := Lib.hid k0
        have HK1 := Lib.hid k1
        clear hcell k0 k1
        generalize hA : l0.getD k 0 = A at *
        generalize hB : l1.getD k 0 = B at *
        have HA := Lib.hid hA
        have HB := Lib.hid hB
        clear hA hB
        generalize hM : Pl.mixed l0 l1 n k k = M at *
        clear hM
        go_wp2
        go_region
        go_wp2
        go_roundw
        case measure => simp [intOf]; omega
        case rel =>
          refine ⟨k + 1, by omega, by go_num, ⟨_, obj_drew (obj_set hcs k _), by simpa using hsz, fun i hi => ?_⟩, ?_, ?_⟩
          · rw [Array.getElem?_setIfInBounds]
            by_cases hik : k = i
            · subst hik
              rw [if_pos rfl, if_pos (by omega)]
              simp only [Pl.mixed, if_pos (Nat.lt_succ_self k), HA.out, HB.out, encB]
              rw [ex.out]
            · rw [if_neg hik, HC.out i hi]
              unfold Pl.mixed
              by_cases h2 : i < k
              · rw [if_pos h2, if_pos (by omega)]
              · rw [if_neg h2, if_neg (by omega)]
          · exact obj_other hz (by simp; omega) _
          · exact (kb.setCell (by simp) _).drew
      · have e4 : k = n := by omega
        subst e4
        have q0 : IsBytes wr (.slice (some ⟨w.heap.size + 1, 0, none⟩) k k) (List.zipWith (· ^^^ ·) (l0.take k) (l1.take k)) := by
          refine Sl.own hcs ?_ (Nat.le_refl _) (by unfold maxLen; omega) ?_
          · have e2 := E0.out; have e3 := E1.out; simp; omega
          · intro i hi
            have e2 := E0.out; have e3 := E1.out
            have hi' : i < k := by simp at hi; omega
            rw [hcell i hi']
            simp only [Pl.mixed, if_pos hi', List.getElem_zipWith, List.getElem_take]
            simp [List.getD, show i < l0.length by omega, show i < l1.length by omega]
        have q1 : IsBytes wr (.slice (some ⟨gz, 0, none⟩) k k) (List.replicate k 0) := by
          refine Sl.own hz (by simp) (Nat.le_refl _) (by unfold maxLen; omega) ?_
          intro i hi
          have hi' : i < k := by simpa using hi
          simp [hi']
        have q2 : IsBytes wr (.slice (some ⟨b0, f0, none⟩) k c0) (l0.take k) := by
          have e2 := E0.out
          refine Sl.take (fun i hi => ?_) (by omega) (by omega) (by unfold maxLen; omega)
          rw [kb.cell (p := ⟨b0, f0 + i, none⟩) hl0, k0 i (by omega)]
          simp [List.getD, hi]
        have q3 : IsBytes wr (.slice (some ⟨b1, f1, none⟩) k c1) (l1.take k) := by
          have e2 := E1.out
          refine Sl.take (fun i hi => ?_) (by omega) (by omega) (by unfold maxLen; omega)
          rw [kb.cell (p := ⟨b1, f1 + i, none⟩) hl1, k1 i (by omega)]
          simp [List.getD, hi]
        have add : bits .xor .i64 (Pl.sumI (List.zipWith (· ^^^ ·) (l0.take k) (l1.take k))) (Pl.sumI (List.replicate k 0)) = bits .xor .i64 (Pl.sumI (l0.take k)) (Pl.sumI (l1.take k)) := by
          have e2 := E0.out; have e3 := E1.out
          have h := Pl.csum_add (l0.take k) (l1.take k) _ k (by simp; omega) (by simp; omega) rfl
          unfold Pl.sumI
          rw [Pl.xor_i64, Pl.xor_i64, h]
        have Q0 := Lib.hid q0
        have Q1 := Lib.hid q1
        have Q2 := Lib.hid q2
        have Q3 := Lib.hid q3
        clear q0 q1 q2 q3 hcell hcs hz k0 k1
        generalize List.zipWith (· ^^^ ·) (l0.take k) (l1.take k) = A at *
        generalize List.replicate k (0 : UInt8) = B at *
        generalize l0.take k = C at *
        generalize l1.take k = D at *
        go_wp2
        go_quiet ((first
          | (go_at_call 9; exact Calls.quietS (crcSum_any _ _ _ (Sl.drewN Q0.out _)))
          | (go_at_call 9; exact Calls.quietS (crcSum_any _ _ _ (Sl.drewN Q1.out _)))
          | (go_at_call 9; exact Calls.quietS (crcSum_any _ _ _ (Sl.drewN Q2.out _)))
          | (go_at_call 9; exact Calls.quietS (crcSum_any _ _ _ (Sl.drewN Q3.out _)))))
        go_wp2
        go_ret
        exact ⟨by simp, Below.drewN kb _⟩

set_option maxRecDepth 100000 in
set_option maxHeartbeats 4000000 in
theorem crcLinear_none (oa0 oa1 : Option Addr) (n0 c0 n1 c1 : Nat) (w : World) (h0 : n0 ≤ 1048576) (h1 : n1 ≤ 1048576) (hc0 : n0 ≤ c0) (hc1 : n1 ≤ c1) (m0 : c0 ≤ maxLen) (m1 : c1 ≤ maxLen) (z0 : oa0 = none → c0 = 0) (z1 : oa1 = none → c1 = 0)
    (hsel : (0 = n0 ∧ n0 ≤ n1) ∨ (0 = n1 ∧ n1 < n0)) :
    Calls Try.prog 3 #[.slice oa0 n0 c0, .slice oa1 n1 c1] w fun e w' => e = .returned (.bool true) ∧ Below w.heap.size w w' := by
  obtain ⟨i0, hi, hz0, hz1, hz2⟩ := info_parts infoB
  have s0 := sum_nil
  have s1 := sum_zero
  have t0 : ∀ W : World, IsBytes W (.slice oa0 0 c0) [] := fun W => Sl.empty m0 z0
  have t1 : ∀ W : World, IsBytes W (.slice oa1 0 c1) [] := fun W => Sl.empty m1 z1
  have T0 := Lib.hid t0
  have T1 := Lib.hid t1
  clear t0 t1
  unfold maxLen at m0 m1
  have y0 : oa0 = none → n0 = 0 ∧ c0 = 0 := fun h => by have := z0 h; omega
  have y1 : oa1 = none → n1 = 0 ∧ c1 = 0 := fun h => by have := z1 h; omega
  clear z0 z1
  rcases hsel with ⟨rfl, hs⟩ | ⟨rfl, hs⟩
  all_goals
    rcases oa0 with _ | ⟨b0, f0, p0⟩ <;> rcases oa1 with _ | ⟨b1, f1, p1⟩
  all_goals
    first
      | (exfalso; have := (y0 rfl); omega)
      | (exfalso; have := (y1 rfl); omega)
      | skip
  all_goals
    try obtain ⟨rfl, rfl⟩ := y0 rfl
    try obtain ⟨rfl, rfl⟩ := y1 rfl
    clear y0 y1
    go_enter Try.func3, Try.ntmps3
    go_wp2_with fail
    refine (crcSum_any _ [] _ (Sl.nil _)).mono ?_
    rintro e w' ⟨rfl, rfl⟩
    go_wp2_with fail
    refine (crcSum_any _ [0] _ (bytes_zero _)).mono ?_
    rintro e w' ⟨rfl, rfl⟩
    go_wp2_with (first
      | (at_make; refine wpList_make_full _ rfl (.tmp 28) (.tmp 28) 22 rfl (w.heap.size) 5 i0 (.int .u8 0) 1 Try.underlying22 hi hz0 hz1 .i64 .i64 _ _ 0 rfl rfl rfl rfl (by omega) (by unfold maxLen; omega) (by simp) ?_; intro wx ox gx)
      | (at_make; refine wpList_make_full _ rfl (.tmp 30) (.tmp 30) 22 rfl (w.heap.size) 5 i0 (.int .u8 0) 1 Try.underlying22 hi hz0 hz1 .i64 .i64 _ _ 0 rfl rfl rfl rfl (by omega) (by unfold maxLen; omega) (by have := gx.size; simp at this; omega) ?_; intro wz oz gz))
    have hxs : (w.alloc (.cells #[.int .u8 0] 5)).heap.size ≤ wx.heap.size := gx.size
    have kb : Below w.heap.size w wz := (((Below.refl _ _).alloc (Nat.le_refl _) _).trans ((below_grown gx).mono (by simp))).trans ((below_grown gz).mono (by simp at hxs; omega))
    clear hxs gx gz ox oz
    refine wp_loop_once ?_
    go_wp2
    go_quiet ((first
      | (go_at_call 9; exact Calls.quietS (crcSum_any _ _ _ (T0.out _)))
      | (go_at_call 9; exact Calls.quietS (crcSum_any _ _ _ (T1.out _)))
      | (go_at_call 9; exact Calls.quietS (crcSum_any _ [] _ (Sl.empty (by unfold maxLen; omega) (fun h => by cases h))))))
    go_wp2
    go_ret
    exact ⟨by simp, Below.drewN kb _⟩

theorem walk_CrcLinear (w : World) (v0 : Value) (l0 : List UInt8) (o0 : Sl encB w v0 l0) (v1 : Value) (l1 : List UInt8) (o1 : Sl encB w v1 l1) (h0 : l0.length ≤ 1048576) (h1 : l1.length ≤ 1048576) :
    Calls Try.prog 3 #[v0, v1] w fun e w' => e = .returned (.bool true) ∧ Below w.heap.size w w' := by
  rcases o0 with ⟨rfl, oa0, c0, rfl, m0, z0⟩ | ⟨b0, f0, c0, rfl, hc0, m0, k0⟩ <;> rcases o1 with ⟨rfl, oa1, c1, rfl, m1, z1⟩ | ⟨b1, f1, c1, rfl, hc1, m1, k1⟩
  · exact crcLinear_none oa0 oa1 0 c0 0 c1 w (by omega) (by omega) (by omega) (by omega) m0 m1 z0 z1 (by omega)
  · exact crcLinear_none oa0 _ 0 c0 l1.length c1 w (by omega) h1 (by omega) hc1 m0 m1 z0 (fun h => by cases h) (by omega)
  · exact crcLinear_none _ oa1 l0.length c0 0 c1 w h0 (by omega) hc0 (by omega) m0 m1 (fun h => by cases h) z1 (by omega)
  · by_cases hn : l0.length = 0 ∨ l1.length = 0
    · exact crcLinear_none _ _ l0.length c0 l1.length c1 w h0 h1 hc0 hc1 m0 m1 (fun h => by cases h) (fun h => by cases h) (by omega)
    · have hg : ∀ (l : List UInt8) (i : Nat) (h : i < l.length), l.getD i 0 = l[i] := fun l i h => by simp [List.getD, h]
      have y0 : b0 < w.heap.size := Sl.lt (k0 0 (by omega))
      have y1 : b1 < w.heap.size := Sl.lt (k1 0 (by omega))
      have q0 : ∀ i, i < l0.length → w.cell? ⟨b0, f0 + i, none⟩ = some (encB (l0.getD i 0)) := fun i hi => by rw [hg _ _ hi]; exact k0 i hi
      have q1 : ∀ i, i < l1.length → w.cell? ⟨b1, f1 + i, none⟩ = some (encB (l1.getD i 0)) := fun i hi => by rw [hg _ _ hi]; exact k1 i hi
      by_cases hs : l0.length ≤ l1.length
      · exact crcLinear_core b0 f0 l0.length c0 b1 f1 l1.length c1 l0 l1 w h0 h1 hc0 hc1 m0 m1 q0 q1 y0 y1 rfl rfl l0.length (.inl ⟨rfl, hs⟩)
      · exact crcLinear_core b0 f0 l0.length c0 b1 f1 l1.length c1 l0 l1 w h0 h1 hc0 hc1 m0 m1 q0 q1 y0 y1 rfl rfl l1.length (.inr ⟨rfl, by omega⟩)
end Go.Proofs.Ytnignokbenimlaa
