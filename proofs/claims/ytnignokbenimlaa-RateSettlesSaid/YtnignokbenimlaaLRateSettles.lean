import Derived.Test.YtnignokbenimlaaRate
import Derived.Deep.LoopGhost
/-! The walk of the law RateSettles. -/
namespace Go.Proofs.Ytnignokbenimlaa
open Go.RowKit
set_option linter.unusedVariables false
set_option linter.unusedSimpArgs false

namespace Pl
def up (l h : Int) : Nat → Int → Int
  | 0, r => r
  | k + 1, r => report (up l h k r) l h 0 100
def dn (l h : Int) : Nat → Int → Int
  | 0, r => r
  | k + 1, r => report (dn l h k r) l h 50 50
theorem report_up (r l h : Int) : report r l h 0 100 = min h (max l (r + (r / 20 + 1))) := by unfold report; simp
theorem report_dn (r l h : Int) : report r l h 50 50 = min h (max l (r - r * 50 / 100)) := by unfold report; simp
theorem up_range (l h r : Int) (h1 : 1 ≤ l) (h2 : l ≤ r) (h3 : r ≤ h) (k : Nat) : l ≤ up l h k r ∧ up l h k r ≤ h ∧ up l h k r ≤ up l h (k + 1) r := by
  induction k with
  | zero => simp only [up, report_up]; omega
  | succ k ih =>
    have e : up l h (k + 1 + 1) r = report (up l h (k + 1) r) l h 0 100 := rfl
    have e1 : up l h (k + 1) r = report (up l h k r) l h 0 100 := rfl
    rw [report_up] at e e1
    omega
theorem dn_range (l h r : Int) (h1 : 1 ≤ l) (h2 : l ≤ r) (h3 : r ≤ h) (k : Nat) : l ≤ dn l h k r ∧ dn l h k r ≤ h ∧ dn l h (k + 1) r ≤ dn l h k r := by
  induction k with
  | zero => simp only [dn, report_dn]; omega
  | succ k ih =>
    have e : dn l h (k + 1 + 1) r = report (dn l h (k + 1) r) l h 50 50 := rfl
    have e1 : dn l h (k + 1) r = report (dn l h k r) l h 50 50 := rfl
    rw [report_dn] at e e1
    omega
def g : Nat → Nat
  | 0 => 1
  | k + 1 => g k + (g k / 20 + 1)
def d : Nat → Nat
  | 0 => 1000000
  | k + 1 => d k - d k * 50 / 100
theorem up_all (l h r : Int) (h1 : 1 ≤ l) (h2 : l ≤ r) (h3 : r ≤ h) (h4 : h ≤ 1000000) : up l h 400 r = h := by
  have key : ∀ k : Nat, min h (g k : Int) ≤ up l h k r := by
    intro k
    induction k with
    | zero => simp only [up, g]; omega
    | succ k ih =>
      have e1 : up l h (k + 1) r = report (up l h k r) l h 0 100 := rfl
      have e2 : g (k + 1) = g k + (g k / 20 + 1) := rfl
      rw [report_up] at e1
      omega
  have h5 : 1000000 ≤ g 400 := by decide +kernel
  have h6 := key 400
  have h7 := up_range l h r h1 h2 h3 400
  omega
theorem dn_all (l h r : Int) (h1 : 1 ≤ l) (h2 : l ≤ r) (h3 : r ≤ h) (h4 : h ≤ 1000000) : dn l h 60 r = l := by
  have key : ∀ k : Nat, dn l h k r ≤ max l (d k : Int) := by
    intro k
    induction k with
    | zero => simp only [dn, d]; omega
    | succ k ih =>
      have e1 : dn l h (k + 1) r = report (dn l h k r) l h 50 50 := rfl
      have e2 : d (k + 1) = d k - d k * 50 / 100 := rfl
      have h8 := dn_range l h r h1 h2 h3 k
      rw [report_dn] at e1
      omega
  have h5 : d 60 ≤ 1 := by decide +kernel
  have h6 := key 60
  have h7 := dn_range l h r h1 h2 h3 60
  omega
end Pl

set_option maxRecDepth 100000 in
set_option maxHeartbeats 4000000 in
theorem walk_RateSettles_ok (r l h : Int) (h1 : 1 ≤ l) (h2 : l ≤ r) (h3 : r ≤ h) (h4 : h ≤ 1000000) (w : World) :
    Calls Try.prog 6 #[.int .i64 r, .int .i64 l, .int .i64 h] w fun e w' => e = .returned (.bool true) ∧ Below w.heap.size w w' := by
  have hu := Lib.hid (Pl.up_range l h r h1 h2 h3)
  have hd := Lib.hid (Pl.dn_range l h r h1 h2 h3)
  have ua := Lib.hid (Pl.up_all l h r h1 h2 h3 h4)
  have da := Lib.hid (Pl.dn_all l h r h1 h2 h3 h4)
  go_enter Try.func6, Try.ntmps6
  go_wp2_with fail
  refine (rateNew_ok r l h h1 h2 h3 h4 _).mono ?_
  rintro e w1 ⟨bg, rfl, b1, g1, k1⟩
  go_wp2_with fail
  refine (rateNew_ok r l h h1 h2 h3 h4 _).mono ?_
  rintro e w2 ⟨bh, rfl, b2, g2, k2⟩
  have hs1 := k1.size
  have hs2 := k2.size
  have lt1 := lt_of_block g1
  have g1' : GuessAt w2 bg r l h := Below.heapAt k2 g1 lt1
  have kk : Below w.heap.size w w2 := k1.trans (k2.mono hs1)
  clear g1 k1 k2
  have hne : bg ≠ bh := by omega
  go_wp2_with fail
  go_loopw [11, 12] (fun was i wr => ∃ k : Nat, k ≤ 400 ∧ i = .int .i64 k ∧ was = .int .i64 (Pl.up l h k r) ∧ GuessAt wr bg (Pl.up l h k r) l h ∧ GuessAt wr bh r l h ∧ Below w.heap.size w wr) (fun _ i _ => 400 - (intOf i).toNat)
  case atStart => exact ⟨0, by omega, rfl, rfl, g1', g2, kk⟩
  case round =>
    obtain ⟨k, hk, rfl, rfl, ga, gb, kb⟩ := hrel
    obtain ⟨c1, c2, c3⟩ := hu.out k
    have HS : Hid (Pl.up l h (k + 1) r = Pl.report (Pl.up l h k r) l h 0 100) := rfl
    by_cases hlt : k < 400
    · go_wp2_with fail
      refine (rateReport_ok bg _ l h 0 100 h1 c1 c2 h4 (by omega) (by omega) (by omega) (by omega) _ ga).mono ?_
      rintro e w3 ⟨rfl, ga', kc⟩
      have hsz := kb.size
      have gb' : GuessAt w3 bh r l h := kc.heap gb (by omega)
      have kb' : Below w.heap.size w w3 := kb.trans (kc.below (by omega) (by omega))
      rw [← HS.out] at ga'
      rw [← HS.out]
      go_wp2_with fail
      go_roundw
      case rel => exact ⟨k + 1, by omega, by go_num, rfl, ga', gb', kb'⟩
      case measure => simp [intOf]; omega
    · have e4 : k = 400 := by omega
      have e5 : Pl.up l h k r = h := by rw [e4]; exact ua.out
      rw [e5] at ga
      clear e5 HS c1 c2 c3
      go_wp2_with fail
      go_loopw [11, 15] (fun was i wr => ∃ k : Nat, k ≤ 60 ∧ i = .int .i64 k ∧ was = .int .i64 (Pl.dn l h k r) ∧ GuessAt wr bg h l h ∧ GuessAt wr bh (Pl.dn l h k r) l h ∧ Below w.heap.size w wr) (fun _ i _ => 60 - (intOf i).toNat)
      case atStart => exact ⟨0, by omega, rfl, rfl, ga, gb, kb⟩
      case round =>
        clear ga gb kb hlt hk e4
        obtain ⟨k, hk, rfl, rfl, ga, gb, kb⟩ := hrel
        obtain ⟨c1, c2, c3⟩ := hd.out k
        have HS : Hid (Pl.dn l h (k + 1) r = Pl.report (Pl.dn l h k r) l h 50 50) := rfl
        by_cases hlt : k < 60
        · go_wp2_with fail
          refine (rateReport_ok bh _ l h 50 50 h1 c1 c2 h4 (by omega) (by omega) (by omega) (by omega) _ gb).mono ?_
          rintro e w3 ⟨rfl, gb', kc⟩
          have hsz := kb.size
          have ga' : GuessAt w3 bg h l h := kc.heap ga (by omega)
          have kb' : Below w.heap.size w w3 := kb.trans (kc.below (by omega) (by omega))
          rw [← HS.out] at gb'
          rw [← HS.out]
          go_wp2_with fail
          go_roundw
          case rel => exact ⟨k + 1, by omega, by go_num, rfl, ga', gb', kb'⟩
          case measure => simp [intOf]; omega
        · have e4 : k = 60 := by omega
          have e5 : Pl.dn l h k r = l := by rw [e4]; exact da.out
          rw [e5] at gb
          clear e5 HS c1 c2 c3
          go_wp2_with (first
            | (go_at_call 14; refine (rateRate_any bg _ _ _ _ ga).mono ?_; rintro e w' ⟨rfl, rfl⟩)
            | (go_at_call 14; refine (rateRate_any bh _ _ _ _ gb).mono ?_; rintro e w' ⟨rfl, rfl⟩))
          go_ret
          exact ⟨by simp, kb⟩

theorem walk_RateSettles (a0 : Int) (w0 : (Lit.int .i64 a0).wf = true) (a1 : Int) (w1 : (Lit.int .i64 a1).wf = true) (a2 : Int) (w2 : (Lit.int .i64 a2).wf = true) (w : World) :
    Calls Try.prog 6 #[.int .i64 a0, .int .i64 a1, .int .i64 a2] w fun e w' => e = .returned (.bool true) ∧ Below w.heap.size w w' := by
  by_cases hok : 1 ≤ a1 ∧ a1 ≤ a0 ∧ a0 ≤ a2 ∧ a2 ≤ 1000000
  · exact walk_RateSettles_ok a0 a1 a2 hok.1 hok.2.1 hok.2.2.1 hok.2.2.2 w
  · go_enter Try.func6, Try.ntmps6
    go_wp2_with fail
    refine (rateNew_bad a0 a1 a2 hok _).mono ?_
    rintro e w1 ⟨rfl, b1⟩
    go_wp2_with fail
    refine (rateNew_bad a0 a1 a2 hok _).mono ?_
    rintro e w2 ⟨rfl, b2⟩
    go_wp2_with fail
    go_ret
    exact ⟨by simp, b1.trans (b2.mono b1.size)⟩
end Go.Proofs.Ytnignokbenimlaa
