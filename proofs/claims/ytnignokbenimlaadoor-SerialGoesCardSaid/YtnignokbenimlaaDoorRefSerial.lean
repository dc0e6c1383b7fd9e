import Derived.Test.YtnignokbenimlaaDoorSerial
import Derived.Below
import Derived.Lib.Hide
/-! Contracts of the reference's functions of chapter 1 (numbers). -/
namespace Go.Proofs.YtnignokbenimlaaDoor
open Go.RowKit
set_option linter.unusedVariables false
set_option linter.unusedSimpArgs false

theorem rLong_any (n : Int) (w : World) :
    Calls Tryd.prog 8 #[.int .i64 n] w fun e w' => e = .returned (.bool (Pl.long n)) ∧ w = w' := by
  go_enter Tryd.func8, Tryd.ntmps8
  go_wp2
  all_goals (go_ret; exact ⟨by simp [Pl.long, *]; try omega, rfl⟩)

theorem rSeq_any (n : Int) (w : World) :
    Calls Tryd.prog 9 #[.int .i64 n] w fun e w' => e = .returned (.bool (Pl.seq n)) ∧ w = w' := by
  go_enter Tryd.func9, Tryd.ntmps9
  go_wp2
  all_goals (go_ret; exact ⟨by simp [Pl.seq, *]; try omega, rfl⟩)

theorem Pl.tmod_mod' (a : Int) : a.tmod 65536 % 65536 = a % 65536 ∧ -65535 ≤ a.tmod 65536 ∧ a.tmod 65536 ≤ 65535 := by
 rcases Int.le_total 0 a with h | h
 · rw [Int.tmod_eq_emod_of_nonneg h]; omega
 · have e : a.tmod 65536 = -((-a) % 65536) := by
     have := Int.neg_tmod (-a) 65536
     rw [Int.neg_neg] at this
     rw [this, Int.tmod_eq_emod_of_nonneg (by omega)]
   rw [e]; omega
theorem rAhead_any (a b : Int) (w : World) :
   Calls Tryd.prog 14 #[.int .i64 a, .int .i64 b] w fun e w' => e = .returned (.bool (Pl.ahead a b)) ∧ w = w' := by
 obtain ⟨a1, a2, a3⟩ := Pl.tmod_mod' a
 obtain ⟨b1, b2, b3⟩ := Pl.tmod_mod' b
 have e : (a.tmod 65536 - b.tmod 65536 + 131072) % 65536 = (a - b) % 65536 := by omega
 clear a1 b1
 go_enter Tryd.func14, Tryd.ntmps14
 go_wp2
 all_goals (go_ret; exact ⟨by simp [Pl.ahead, *]; try omega, rfl⟩)

def Pl.far (a b : Int) : Int := if a < b then b - a else a - b
theorem far_any (a b : Int) (h1 : -200000 ≤ a) (h2 : a ≤ 1099511827776) (h3 : -200000 ≤ b) (h4 : b ≤ 1099511827776) (w : World) :
   Calls Tryd.prog 39 #[.int .i64 a, .int .i64 b] w fun e w' => e = .returned (.int .i64 (Pl.far a b)) ∧ w = w' := by
 go_enter Tryd.func39, Tryd.ntmps39
 go_wp2
 all_goals (go_ret; exact ⟨by simp [Pl.far, *]; try omega, rfl⟩)

def Pl.bestAt (n0 last : Int) : Nat → Int
 | 0 => -1
 | i + 1 => if 0 ≤ n0 + 65536 * i ∧ (Pl.bestAt n0 last i < 0 ∨ Pl.far (n0 + 65536 * i) last < Pl.far (Pl.bestAt n0 last i) last) then n0 + 65536 * i else Pl.bestAt n0 last i
theorem Pl.bestAt_three (last s : Int) (h : Pl.long last = true) (h' : Pl.seq s = true) : Pl.bestAt (last - last % 65536 - 65536 + s) last 3 = Pl.nearest last s := by
 rw [Pl.long_iff] at h; rw [Pl.seq_iff] at h'
 simp only [Pl.bestAt, Pl.far, Pl.nearest]
 (repeat' split) <;> omega
theorem Pl.bestAt_range (n0 last : Int) (h1 : -65536 ≤ n0) (h2 : n0 ≤ 1099511627776) (i : Nat) (hi : i ≤ 3) : -1 ≤ Pl.bestAt n0 last i ∧ Pl.bestAt n0 last i ≤ 1099511824384 := by
 induction i with
 | zero => simp [Pl.bestAt]
 | succ i ih =>
   have := ih (by omega)
   rw [Pl.bestAt]
   split <;> omega

set_option maxHeartbeats 1000000 in
theorem rUnwrap_any (l s : Int) (h : Pl.long l = true) (h' : Pl.seq s = true) (w : World) :
   Calls Tryd.prog 10 #[.int .i64 l, .int .i64 s] w fun e w' => e = .returned (.int .i64 (Pl.nearest l s)) ∧ w = w' := by
 have H3 := Lib.hid (Pl.bestAt_three l s h h')
 rw [Pl.long_iff] at h; rw [Pl.seq_iff] at h'
 obtain ⟨h1, h2⟩ := h; obtain ⟨h3, h4⟩ := h'
 have HR := Lib.hid (Pl.bestAt_range (l - l % 65536 - 65536 + s) l (by omega) (by omega))
 go_enter Tryd.func10, Tryd.ntmps10
 go_wp2
 go_loop [5, 6, 7] (fun n b i => ∃ k : Nat, k ≤ 3 ∧ i = .int .i64 k ∧ n = .int .i64 (l - l % 65536 - 65536 + s + 65536 * k) ∧ b = .int .i64 (Pl.bestAt (l - l % 65536 - 65536 + s) l k)) (fun _ _ i => 3 - (intOf i).toNat)
 case atStart => exact ⟨0, by omega, rfl, by simp, rfl⟩
 case round =>
   obtain ⟨k, hk, rfl, rfl, rfl⟩ := hrel
   by_cases hlt : k < 3
   · obtain ⟨b1, b2⟩ := HR.out k hk
     have HS := Lib.hid (Pl.bestAt.eq_2 (l - l % 65536 - 65536 + s) l k)
     generalize Pl.bestAt (l - l % 65536 - 65536 + s) l k = b at *
     go_wp2_with (go_at_call 39; refine (far_any _ _ (by omega) (by omega) (by omega) (by omega) _).mono ?_; rintro e w' ⟨rfl, rfl⟩)
     all_goals
       go_round
       case rel => exact ⟨k + 1, by omega, by go_num, by go_num, by rw [HS.out]; first | (rw [if_pos (by omega)]) | (rw [if_neg (by omega)])⟩
       case measure => simp [intOf]; omega
   · go_wp2
     go_ret
     exact ⟨congrArg (fun x => Ending.returned (Value.int .i64 x)) (by rw [show k = 3 by omega]; exact H3.out), rfl⟩
end Go.Proofs.YtnignokbenimlaaDoor
