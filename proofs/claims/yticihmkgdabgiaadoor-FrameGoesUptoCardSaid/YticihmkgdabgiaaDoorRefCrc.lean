import Derived.Test.YticihmkgdabgiaaDoorJoin
import Derived.Test.YticihmkgdabgiaaDoorCrcOpen
/-! The reference's sums and numbers as bytes: More, Join, Bytes, Number, Seal, Open. -/
namespace Go.Proofs.YticihmkgdabgiaaDoor
open Go.RowKit
set_option linter.unusedVariables false
set_option linter.unusedSimpArgs false
theorem Pl.low_mod (s : BitVec 32) : (s.toNat : Int) % 2 = (if s.getLsbD 0 then 1 else 0) := by
  rw [BitVec.getLsbD, Nat.testBit_zero]
  by_cases h : s.toNat % 2 = 1
  · simp [h]; omega
  · simp [h]; omega
set_option maxHeartbeats 1000000 in
theorem refOn_any (s : BitVec 32) (c : UInt8) (w : World) :
    Calls Tryd.prog 49 #[.int .u32 (s.toNat : Int), .int .u8 (c.toNat : Int)] w fun e w' => e = .returned (.int .u32 ((Pl.con s c).toNat : Int)) ∧ w = w' := by
  obtain ⟨s1, s2⟩ := u32_bd s
  obtain ⟨c1, c2⟩ := byte_bd c
  have E := Lib.hid (Pl.xor_c s c)
  have HC := Lib.hid (show Pl.con s c = Pl.cIter 8 (s ^^^ BitVec.ofNat 32 c.toNat) from rfl)
  generalize s ^^^ BitVec.ofNat 32 c.toNat = t at *
  go_enter Tryd.func49, Tryd.ntmps49
  go_wp2
  go_loop [0, 5] (fun t0 i => ∃ k : Nat, k ≤ 8 ∧ i = .int .i64 k ∧ t0 = .int .u32 ((Pl.cIter k t).toNat : Int)) (fun _ i => 8 - (intOf i).toNat)
  case atStart => exact ⟨0, by omega, rfl, by rw [E.out]; rfl⟩
  case round =>
    obtain ⟨k, hk, rfl, rfl⟩ := hrel
    have HS : Hid (Pl.cIter (k + 1) t = Pl.cstep (Pl.cIter k t)) := rfl
    have HK := Lib.hid (show k = 8 → Pl.cIter k t = Pl.con s c from fun h => by rw [h, HC.out])
    generalize Pl.cIter k t = x at *
    obtain ⟨x1, x2⟩ := u32_bd x
    have e1 := Pl.low_mod x
    by_cases hlt : k < 8
    · cases hx : x.getLsbD 0
      · rw [hx, if_neg (by decide)] at e1
        have HX := Lib.hid (Pl.cstep_lo x hx)
        clear hx E HC HK
        go_wp2
        go_round
        case rel => exact ⟨k + 1, by omega, by go_num, by rw [HS.out, HX.out, Pl.half_u32]⟩
        case measure => simp [intOf]; omega
      · rw [hx, if_pos rfl] at e1
        have HX := Lib.hid (Pl.cstep_hi x hx)
        clear hx E HC HK
        go_wp2
        go_round
        case rel => exact ⟨k + 1, by omega, by go_num, by rw [HS.out, HX.out, Pl.half_u32, Pl.xor_poly]⟩
        case measure => simp [intOf]; omega
    · go_wp2
      go_ret
      exact ⟨congrArg (fun y : BitVec 32 => Ending.returned (Value.int .u32 (y.toNat : Int))) (HK.out (by omega)), rfl⟩
theorem Pl.turn_sub (s : BitVec 32) : 4294967295 - (s.toNat : Int) = ((~~~ s).toNat : Int) := by
  rw [BitVec.toNat_not]; have := s.isLt; omega
set_option maxHeartbeats 1000000 in
theorem refMore_any (s : BitVec 32) (v : Value) (l : List UInt8) (w : World) (hv : IsBytes w v l) :
    Calls Tryd.prog 29 #[.int .i64 (s.toNat : Int), v] w fun e w' => e = .returned (.int .i64 (Pl.moreI s l)) ∧ w = w' := by
  obtain ⟨s1, s2⟩ := u32_bd s
  have E := Lib.hid (Pl.turn_sub s)
  have HM := Lib.hid (show Pl.moreI s l = 4294967295 - ((Pl.crun (~~~ s) l).toNat : Int) from (Pl.turn_sub _).symm)
  generalize ~~~ s = t at *
  rcases hv with ⟨rfl, oa, cap, rfl, hm, _⟩ | ⟨b, off, cap, rfl, hl, hm, hc⟩
  · have HT := Lib.hid (show Pl.crun t [] = t from rfl)
    go_enter Tryd.func29, Tryd.ntmps29
    go_wp2
    refine wp_loop_once ?_
    go_wp2
    go_ret
    exact ⟨ret_int (by rw [HM.out, HT.out, ← E.out]), rfl⟩
  · unfold maxLen at hm
    go_enter Tryd.func29, Tryd.ntmps29
    go_wp2
    go_loop [5, 6] (fun t5 i => ∃ k : Nat, k ≤ l.length ∧ i = .int .i64 k ∧ t5 = .int .u32 ((Pl.crun t (l.take k)).toNat : Int)) (fun _ i => l.length - (intOf i).toNat)
    case atStart => exact ⟨0, by omega, rfl, by rw [E.out]; simp [Pl.crun]⟩
    case round =>
      obtain ⟨k, hk, rfl, rfl⟩ := hrel
      by_cases hlt : k < l.length
      · have HS := Lib.hid (Pl.crun_snoc t l k hlt)
        have hcell := hc k hlt
        clear hc E HM
        obtain ⟨c1, c2⟩ := byte_bd l[k]
        generalize Pl.crun t (l.take k) = x at *
        generalize l[k] = c at *
        go_wp2_with (go_at_call 49; refine (refOn_any x c _).mono ?_; rintro e w' ⟨rfl, rfl⟩)
        go_round
        case rel => exact ⟨k + 1, by omega, by go_num, by rw [HS.out]⟩
        case measure => simp [intOf]; omega
      · have e : l.take k = l := List.take_of_length_le (by omega)
        rw [e]
        clear hc e E
        obtain ⟨x1, x2⟩ := u32_bd (Pl.crun t l)
        generalize Pl.crun t l = x at *
        go_wp2
        go_ret
        exact ⟨ret_int HM.out.symm, rfl⟩
theorem Pl.more_zero (l : List UInt8) : Pl.moreI 0#32 l = Pl.sumI l := by
  unfold Pl.moreI Pl.sumI Pl.csum
  rw [show (~~~ 0#32 : BitVec 32) = Pl.ones by decide]
theorem refSum_any (v : Value) (l : List UInt8) (w : World) (hv : IsBytes w v l) :
    Calls Tryd.prog 29 #[.int .i64 0, v] w fun e w' => e = .returned (.int .i64 (Pl.sumI l)) ∧ w = w' := by
  have h := refMore_any 0#32 v l w hv
  rw [Pl.more_zero] at h
  exact h
theorem Pl.con_zero (s : BitVec 32) : Pl.con s 0 = Pl.cshift s := by
  unfold Pl.con; rw [show BitVec.ofNat 32 (0 : UInt8).toNat = 0#32 by decide, BitVec.xor_zero]
theorem refOn_zero (s : BitVec 32) (w : World) :
    Calls Tryd.prog 49 #[.int .u32 (s.toNat : Int), .int .u8 0] w fun e w' => e = .returned (.int .u32 ((Pl.cshift s).toNat : Int)) ∧ w = w' := by
  have h := refOn_any s 0 w
  rw [Pl.con_zero] at h
  exact h
set_option maxHeartbeats 1000000 in
theorem refJoin_any (a b : BitVec 32) (n : Nat) (hn : n ≤ 1000000) (w : World) :
    Calls Tryd.prog 32 #[.int .i64 (a.toNat : Int), .int .i64 (b.toNat : Int), .int .i64 (n : Int)] w fun e w' => e = .returned (.int .i64 ((Pl.joinB a b n).toNat : Int)) ∧ w = w' := by
  obtain ⟨a1, a2⟩ := u32_bd a
  obtain ⟨b1, b2⟩ := u32_bd b
  go_enter Tryd.func32, Tryd.ntmps32
  go_wp2
  go_loop [7, 8] (fun t7 i => ∃ k : Nat, k ≤ n ∧ i = .int .i64 k ∧ t7 = .int .u32 ((Pl.cN k a).toNat : Int)) (fun _ i => n - (intOf i).toNat)
  case atStart => exact ⟨0, by omega, rfl, rfl⟩
  case round =>
    obtain ⟨k, hk, rfl, rfl⟩ := hrel
    have HS := Lib.hid (show Pl.cN (k + 1) a = Pl.cshift (Pl.cN k a) from by rw [Pl.cN_add]; rfl)
    by_cases hlt : k < n
    · generalize Pl.cN k a = x at *
      go_wp2_with (go_at_call 49; refine (refOn_zero x _).mono ?_; rintro e w' ⟨rfl, rfl⟩)
      go_round
      case rel => exact ⟨k + 1, by omega, by go_num, by rw [HS.out]⟩
      case measure => simp [intOf]; omega
    · obtain rfl : k = n := by omega
      have E := Lib.hid (show Pl.joinB a b k = Pl.cN k a ^^^ b from rfl)
      have X := Lib.hid (Pl.xor_u32 (Pl.cN k a) b)
      have B := Lib.hid (u32_bd (Pl.cN k a ^^^ b))
      generalize Pl.cN k a = x at *
      clear HS
      go_wp2
      go_ret
      exact ⟨ret_int (by rw [X.out, E.out, IntWalk.wrap64_in _ (by have := B.out; omega)]), rfl⟩
set_option maxHeartbeats 1000000 in
theorem refNumber_any (v : Value) (l : List UInt8) (w : World) (hv : IsBytes w v l) (hl : l.length ≤ 4) :
    Calls Tryd.prog 45 #[v] w fun e w' => e = .returned (.int .i64 (Pl.getB l)) ∧ w = w' := by
  rcases hv with ⟨rfl, oa, cap, rfl, hm, _⟩ | ⟨b, off, cap, rfl, hlc, hm, hc⟩
  · go_enter Tryd.func45, Tryd.ntmps45
    go_wp2
    refine wp_loop_once ?_
    go_wp2
    go_ret
    exact ⟨rfl, rfl⟩
  · unfold maxLen at hm
    go_enter Tryd.func45, Tryd.ntmps45
    go_wp2
    go_loop [3, 4] (fun t i => ∃ k : Nat, k ≤ l.length ∧ i = .int .i64 k ∧ t = .int .i64 (Pl.getB (l.take k))) (fun _ i => l.length - (intOf i).toNat)
    case atStart => exact ⟨0, by omega, rfl, by simp [Pl.getB]⟩
    case round =>
      obtain ⟨k, hk, rfl, rfl⟩ := hrel
      by_cases hlt : k < l.length
      · have HS := Lib.hid (Pl.getB_take l k hlt)
        obtain ⟨b1, b2⟩ := Pl.getB_take_bd l k (by omega)
        have hcell := hc k hlt
        clear hc
        obtain ⟨c1, c2⟩ := byte_bound l[k]
        generalize Pl.getB (l.take k) = x at *
        generalize l[k] = c at *
        go_wp2
        go_round
        case rel => exact ⟨k + 1, by omega, by go_num, by rw [HS.out]⟩
        case measure => simp [intOf]; omega
      · have e : l.take k = l := List.take_of_length_le (by omega)
        rw [e]
        clear hc e
        go_wp2
        go_ret
        exact ⟨rfl, rfl⟩
end Go.Proofs.YticihmkgdabgiaaDoor
