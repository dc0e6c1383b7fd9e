import Derived.Test.YticihmkgdabgiaaDoorPCrc
import Derived.Test.YticihmkgdabgiaaDoorSlice
import Derived.Test.YticihmkgdabgiaaDoorRows
import Derived.WalkKit
import Derived.ProofKit
import Derived.Outline
/-! Contracts of package crc: sums. -/
namespace Go.Proofs.YticihmkgdabgiaaDoor
open Go.RowKit
set_option linter.unusedVariables false
set_option linter.unusedSimpArgs false

theorem u32_bd (s : BitVec 32) : (0 : Int) ≤ (s.toNat : Int) ∧ (s.toNat : Int) ≤ 4294967295 := by have := s.isLt; omega
theorem Pl.half_u32 (s : BitVec 32) : (s.toNat : Int) / (2 : Int) = ((s >>> 1).toNat : Int) := by
  rw [BitVec.toNat_ushiftRight, Nat.shiftRight_eq_div_pow]; omega
theorem Pl.xor_poly (s : BitVec 32) : bits .xor .u32 (s.toNat : Int) 3988292384 = ((s ^^^ 3988292384#32).toNat : Int) := Pl.xor_u32 s 3988292384#32
theorem Pl.cstep_hi (s : BitVec 32) (h : s.getLsbD 0 = true) : Pl.cstep s = (s >>> 1) ^^^ 3988292384#32 := by unfold Pl.cstep; rw [h]; rfl
theorem Pl.cstep_lo (s : BitVec 32) (h : s.getLsbD 0 = false) : Pl.cstep s = s >>> 1 := by unfold Pl.cstep; rw [h]; rfl

set_option maxHeartbeats 1000000 in
theorem shift_any (s : BitVec 32) (w : World) :
    Calls Tryd.prog 51 #[.int .u32 (s.toNat : Int)] w fun e w' => e = .returned (.int .u32 ((Pl.cshift s).toNat : Int)) ∧ w = w' := by
  go_enter Tryd.func51, Tryd.ntmps51
  go_wp2
  go_loop [0, 4] (fun t i => ∃ k : Nat, k ≤ 8 ∧ i = .int .i64 k ∧ t = .int .u32 ((Pl.cIter k s).toNat : Int)) (fun _ i => 8 - (intOf i).toNat)
  case atStart => exact ⟨0, by omega, rfl, rfl⟩
  case round =>
    obtain ⟨k, hk, rfl, rfl⟩ := hrel
    have HS : Hid (Pl.cIter (k + 1) s = Pl.cstep (Pl.cIter k s)) := rfl
    have HK := Lib.hid (show k = 8 → Pl.cIter k s = Pl.cshift s from fun h => by rw [h]; rfl)
    generalize Pl.cIter k s = x at *
    obtain ⟨x1, x2⟩ := u32_bd x
    have e1 := Pl.low_u32 x
    by_cases hlt : k < 8
    · cases hx : x.getLsbD 0
      · rw [hx] at e1
        have HX := Lib.hid (Pl.cstep_lo x hx)
        clear hx
        go_wp2
        go_round
        case rel => exact ⟨k + 1, by omega, by go_num, by rw [HS.out, HX.out, Pl.half_u32]⟩
        case measure => simp [intOf]; omega
      · rw [hx] at e1
        have HX := Lib.hid (Pl.cstep_hi x hx)
        clear hx
        go_wp2
        go_round
        case rel => exact ⟨k + 1, by omega, by go_num, by rw [HS.out, HX.out, Pl.half_u32, Pl.xor_poly]⟩
        case measure => simp [intOf]; omega
    · go_wp2
      go_ret
      exact ⟨congrArg (fun y : BitVec 32 => Ending.returned (Value.int .u32 (y.toNat : Int))) (HK.out (by omega)), rfl⟩

theorem shift_at (z : Int) (s : BitVec 32) (h : z = (s.toNat : Int)) (w : World) :
    Calls Tryd.prog 51 #[.int .u32 z] w fun e w' => e = .returned (.int .u32 ((Pl.cshift s).toNat : Int)) ∧ w = w' := by
  subst h
  exact shift_any s w
theorem Pl.xor_c (s : BitVec 32) (c : UInt8) : bits .xor .u32 (s.toNat : Int) (c.toNat : Int) = ((s ^^^ BitVec.ofNat 32 c.toNat).toNat : Int) := by
  have h := Pl.xor_u32 s (BitVec.ofNat 32 c.toNat)
  have hc := c.toNat_lt
  rw [BitVec.toNat_ofNat, Nat.mod_eq_of_lt (by omega)] at h
  exact h
theorem byte_bd (c : UInt8) : (0 : Int) ≤ (c.toNat : Int) ∧ (c.toNat : Int) ≤ 255 := by have := c.toNat_lt; omega
theorem Pl.crun_snoc (s : BitVec 32) (l : List UInt8) (k : Nat) (hk : k < l.length) : Pl.crun s (l.take (k + 1)) = Pl.con (Pl.crun s (l.take k)) l[k] := by
  unfold Pl.crun; rw [List.take_succ_eq_append_getElem hk, List.foldl_append]; rfl

set_option maxHeartbeats 1000000 in
theorem crcrun_any (s : BitVec 32) (v : Value) (l : List UInt8) (w : World) (hv : IsBytes w v l) :
    Calls Tryd.prog 48 #[.int .u32 (s.toNat : Int), v] w fun e w' => e = .returned (.int .u32 ((Pl.crun s l).toNat : Int)) ∧ w = w' := by
  rcases hv with ⟨rfl, oa, cap, rfl, hm, _⟩ | ⟨b, off, cap, rfl, hl, hm, hc⟩
  · go_enter Tryd.func48, Tryd.ntmps48
    go_wp2
    refine wp_loop_once ?_
    go_wp2
    go_ret
    exact ⟨rfl, rfl⟩
  · unfold maxLen at hm
    go_enter Tryd.func48, Tryd.ntmps48
    go_wp2
    go_loop [0, 9] (fun t i => ∃ k : Nat, k ≤ l.length ∧ i = .int .i64 k ∧ t = .int .u32 ((Pl.crun s (l.take k)).toNat : Int)) (fun _ i => l.length - (intOf i).toNat)
    case atStart => exact ⟨0, by omega, rfl, by simp [Pl.crun]⟩
    case round =>
      obtain ⟨k, hk, rfl, rfl⟩ := hrel
      by_cases hlt : k < l.length
      · have HS := Lib.hid (Pl.crun_snoc s l k hlt)
        have hcell := hc k hlt
        clear hc
        obtain ⟨c1, c2⟩ := byte_bd l[k]
        generalize Pl.crun s (l.take k) = x at *
        have E1 := Lib.hid (Pl.xor_c x l[k])
        generalize l[k] = c at *
        go_wp2_with (go_at_call 51; refine (shift_at _ _ E1.out _).mono ?_; rintro e w' ⟨rfl, rfl⟩)
        go_round
        case rel => exact ⟨k + 1, by omega, by go_num, by rw [HS.out]; rfl⟩
        case measure => simp [intOf]; omega
      · have e : l.take k = l := List.take_of_length_le (by omega)
        rw [e]
        clear hc e
        go_wp2
        go_ret
        exact ⟨rfl, rfl⟩

/-- a word turned -/
theorem Pl.turn_u32 (s : BitVec 32) : wrap64 (bits .xor .u32 IntKind.u32.max (s.toNat : Int)) = ((~~~ s).toNat : Int) := by
  have h := Pl.xor_u32 4294967295#32 s
  rw [show (4294967295#32 : BitVec 32) ^^^ s = ~~~ s from by rw [show (4294967295#32 : BitVec 32) = BitVec.allOnes 32 from rfl, BitVec.allOnes_xor]] at h
  rw [show IntKind.u32.max = (((4294967295#32 : BitVec 32).toNat : Nat) : Int) from rfl, h]
  have := (~~~ s).isLt
  exact IntWalk.wrap64_in _ ⟨by omega, by omega⟩
/-- the sum of bytes, as a number -/
def Pl.sumI (l : List UInt8) : Int := ((Pl.csum l).toNat : Int)
theorem Pl.sumI_bd (l : List UInt8) : 0 ≤ Pl.sumI l ∧ Pl.sumI l ≤ 4294967295 := u32_bd _
theorem Pl.turn_sum (l : List UInt8) : wrap64 (bits .xor .u32 IntKind.u32.max ((Pl.crun Pl.ones l).toNat : Int)) = Pl.sumI l := Pl.turn_u32 _
theorem crcSum_any (v : Value) (l : List UInt8) (w : World) (hv : IsBytes w v l) :
    Calls Tryd.prog 28 #[v] w fun e w' => e = .returned (.int .i64 (Pl.sumI l)) ∧ w = w' := by
  have h1 := crcrun_any Pl.ones v l w hv
  rw [show ((Pl.ones.toNat : Nat) : Int) = 4294967295 from rfl] at h1
  have H1 := Lib.hid h1
  have HT := Lib.hid (Pl.turn_sum l)
  clear h1
  generalize Pl.crun Pl.ones l = x at *
  obtain ⟨b1, b2⟩ := u32_bd x
  go_enter Tryd.func28, Tryd.ntmps28
  go_wp2_with (go_at_call 48; refine (H1.out).mono ?_; rintro e w' ⟨rfl, rfl⟩)
  go_ret
  exact ⟨ret_int HT.out, rfl⟩
end Go.Proofs.YticihmkgdabgiaaDoor
