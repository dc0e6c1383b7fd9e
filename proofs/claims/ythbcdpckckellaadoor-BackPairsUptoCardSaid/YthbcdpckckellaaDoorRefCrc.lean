import Derived.Test.YthbcdpckckellaaDoorJoin
import Derived.Test.YthbcdpckckellaaDoorCrcOpen
/-! The reference's sums and numbers as bytes: More, Join, Bytes, Number, Seal, Open. -/
namespace Go.Proofs.YthbcdpckckellaaDoor
open Go.RowKit
set_option linter.unusedVariables false
set_option linter.unusedSimpArgs false
theorem Pl.low_mod (s : BitVec 32) : (s.toNat : Int) % 2 = (if s.getLsbD 0 then 1 else 0) := by
  rw [BitVec.getLsbD, Nat.testBit_zero]
  by_cases h : s.toNat % 2 = 1
  · simp [h]; omega
  · simp [h]; omega
theorem Pl.turn_sub (s : BitVec 32) : 4294967295 - (s.toNat : Int) = ((~~~ s).toNat : Int) := by
  rw [BitVec.toNat_not]; have := s.isLt; omega
theorem Pl.more_zero (l : List UInt8) : Pl.moreI 0#32 l = Pl.sumI l := by
  unfold Pl.moreI Pl.sumI Pl.csum
  rw [show (~~~ 0#32 : BitVec 32) = Pl.ones by decide]
theorem Pl.con_zero (s : BitVec 32) : Pl.con s 0 = Pl.cshift s := by
  unfold Pl.con; rw [show BitVec.ofNat 32 (0 : UInt8).toNat = 0#32 by decide, BitVec.xor_zero]
set_option maxHeartbeats 1000000 in
theorem refNumber_any (v : Value) (l : List UInt8) (w : World) (hv : IsBytes w v l) (hl : l.length ≤ 4) :
    Calls Tryd.prog 28 #[v] w fun e w' => e = .returned (.int .i64 (Pl.getB l)) ∧ w = w' := by
  rcases hv with ⟨rfl, oa, cap, rfl, hm, _⟩ | ⟨b, off, cap, rfl, hlc, hm, hc⟩
  · go_enter Tryd.func28, Tryd.ntmps28
    go_wp2
    refine wp_loop_once ?_
    go_wp2
    go_ret
    exact ⟨rfl, rfl⟩
  · unfold maxLen at hm
    go_enter Tryd.func28, Tryd.ntmps28
    go_wp2
    go_loop [3, 4] (fun t i => ∃ k : Nat, k ≤ l.length ∧ i = .int .i64 k ∧ t = .int .i64 (Pl.getB (l.take k))) (fun _ i => l.length - (intOf i).toNat)
    case atStart => exact ⟨0, by omega, rfl, by simp [Pl.getB]⟩
    case round =>
      obtain ⟨k, hk, rfl, rfl⟩ := hrel
      by_cases hlt : k < l.length
      · have HS := Lib.hid (Pl.getB_take l k hlt)
        obtain ⟨b1, b2⟩ := Pl.getB_take_bd l k (by omega)
        have hcell := hc k hlt
        clear hc
        obtain ⟨c1, c2⟩ := byte_bound l[k]
        generalize Pl.getB (l.take k) = x at *
        generalize l[k] = c at *
        go_wp2
        go_round
        case rel => exact ⟨k + 1, by omega, by go_num, by rw [HS.out]⟩
        case measure => simp [intOf]; omega
      · have e : l.take k = l := List.take_of_length_le (by omega)
        rw [e]
        clear hc e
        go_wp2
        go_ret
        exact ⟨rfl, rfl⟩
end Go.Proofs.YthbcdpckckellaaDoor
