import Derived.Test.YtfpmekphkippdaaPSym
import Derived.Test.YtfpmekphkippdaaWorld
import Derived.Test.YtfpmekphkippdaaRows
import Derived.Sort.WalkC
import Derived.BigRegion
import Derived.BigQuiet
import Derived.Deep.QuietTactic
import Derived.WalkKit
import Derived.Deep.CutBlock
import Derived.ProofKit
import Derived.Laws.BitsLemmas
/-! slices.swapRangeCmpFunc, slices.rotateCmpFunc. -/
namespace Go.Proofs.Ytfpmekphkippdaa
open Go.RowKit Go.Sort
set_option linter.unusedVariables false
set_option linter.unusedSimpArgs false
variable {α : Type} [Inhabited α]
theorem set2_drew (W : World) (p q : Addr) (u v : Value) : (W.drew.setCell p u).setCell q v = ((W.setCell p u).setCell q v).drew := rfl
abbrev encF (f : α → Int) : α → Value := fun x => .int .i64 (f x)
set_option maxHeartbeats 4000000 in
set_option maxRecDepth 1000000 in
theorem swapRange_any (f : α → Int) (blk off cap a b n : Nat) (d : Array α) (w : World) (cv : Value) (hH : Holds (encF f) w blk off d) (hab : a + n ≤ b) (hb : b + n ≤ d.size) (hsz : d.size ≤ 1000000) :
    Calls Try.prog 17 #[.slice (some ⟨blk, off, none⟩) d.size cap, .int .i64 a, .int .i64 b, .int .i64 n, cv] w fun e w' =>
      e = .returned (.tuple #[]) ∧ ∃ q, w' = (putRow (encF f) w blk off (swapR d a b n)).drewN q := by
  have HST := Lib.hid (show w = (putRow (encF f) w blk off d).drewN 0 from (putRow_self (encF f) w blk off d hH).symm)
  have HH := Lib.hid hH
  clear hH
  go_enter Try.func17, Try.ntmps17
  go_wp2
  go_loopw [10] (fun s wr => ∃ i m : Nat, i ≤ n ∧ s = .int .i64 i ∧ Hid (wr = (putRow (encF f) w blk off (swapR d a b i)).drewN m)) (fun s _ => n - (intOf s).toNat)
  case atStart => exact ⟨0, 0, by omega, rfl, HST⟩
  case round =>
    obtain ⟨i, m, hi, rfl, HW⟩ := hrel
    by_cases hlt : i < n
    · have e1 : (i : Int) < (n : Int) := by omega
      have hs : (swapR d a b i).size = d.size := size_swapR d a b i
      have hh := holds_putRow (encF f) w blk off d (swapR d a b i) HH.out hs
      obtain ⟨x, hx⟩ : ∃ x, f (swapR d a b i)[a + i]! = x := ⟨_, rfl⟩
      obtain ⟨y, hy⟩ : ∃ y, f (swapR d a b i)[b + i]! = y := ⟨_, rfl⟩
      obtain ⟨p, hp⟩ : ∃ p, a + i = p := ⟨_, rfl⟩
      obtain ⟨q, hq⟩ : ∃ q, b + i = q := ⟨_, rfl⟩
      obtain ⟨c1, f1⟩ := hh (a + i) (by omega)
      obtain ⟨c2, f2⟩ := hh (b + i) (by omega)
      have c1' : wr.cell? ⟨blk, off + p, none⟩ = some (.int .i64 x) := by rw [HW.out, ← hp, ← hx]; exact c1
      have c2' : wr.cell? ⟨blk, off + q, none⟩ = some (.int .i64 y) := by rw [HW.out, ← hq, ← hy]; exact c2
      have f1' : wr.frozen? ⟨blk, off + p, none⟩ = false := by rw [HW.out, ← hp]; exact f1
      have f2' : wr.frozen? ⟨blk, off + q, none⟩ = false := by rw [HW.out, ← hq]; exact f2
      have w1 : IntKind.i64.wrap ((a : Int) + (i : Int)) = (p : Int) := by rw [IntKind.wrap_i64]; omega
      have w2 : IntKind.i64.wrap ((b : Int) + (i : Int)) = (q : Int) := by rw [IntKind.wrap_i64]; omega
      have p0 : (0 : Int) ≤ (p : Int) := by omega
      have q0 : (0 : Int) ≤ (q : Int) := by omega
      have p1 : (p : Int) < (d.size : Int) := by omega
      have q1 : (q : Int) < (d.size : Int) := by omega
      have hpq : p ≠ q := by omega
      have hn6 : n ≤ 1000000 := by omega
      have NEXT := Lib.hid (show (wr.drew.setCell ⟨blk, off + p, none⟩ (.int .i64 y)).setCell ⟨blk, off + q, none⟩ (.int .i64 x) = (putRow (encF f) w blk off (swapR d a b (i + 1))).drewN (m + 1) from by
        have := swap_worldC (encF f) w blk off (swapR d a b i) m (a + i) (b + i) (by omega) (by omega)
        rw [set2_drew, HW.out, ← hx, ← hy, ← hp, ← hq]
        exact this)
      clear hh c1 c2 f1 f2 HW hx hy hs hab hb hp hq
      go_wp2_with fail
      go_big_region
      all_goals go_wp2
      go_roundw
      case measure => simp only [intOf]; omega
      case rel => exact ⟨i + 1, m + 1, by omega, by simp, NEXT⟩
    · have hie : i = n := by omega
      subst hie
      have e1 : ¬ (i : Int) < (i : Int) := by omega
      clear hlt
      go_wp2
      go_end0
      exact ⟨rfl, m, HW.out⟩
set_option maxHeartbeats 4000000 in
set_option maxRecDepth 1000000 in
theorem rotate_any (f : α → Int) (blk off cap a m b : Nat) (d : Array α) (w : World) (cv : Value) (hH : Holds (encF f) w blk off d) (ham : a < m) (hmb : m < b) (hb : b ≤ d.size) (hsz : d.size ≤ 1000000) :
    Calls Try.prog 16 #[.slice (some ⟨blk, off, none⟩) d.size cap, .int .i64 a, .int .i64 m, .int .i64 b, cv] w fun e w' =>
      e = .returned (.tuple #[]) ∧ ∃ (D : Array α) (q : Nat), w' = (putRow (encF f) w blk off D).drewN q ∧ Rot a m b d D ∧ PermIn a b d D := by
  have HST := Lib.hid (show w = (putRow (encF f) w blk off d).drewN 0 from (putRow_self (encF f) w blk off d hH).symm)
  have HH := Lib.hid hH
  have HM := Lib.hid (show a < m ∧ m < b ∧ b ≤ d.size from ⟨ham, hmb, hb⟩)
  have w1 : IntKind.i64.wrap ((m : Int) - (a : Int)) = ((m - a : Nat) : Int) := by rw [IntKind.wrap_i64]; omega
  have w2 : IntKind.i64.wrap ((b : Int) - (m : Int)) = ((b - m : Nat) : Int) := by rw [IntKind.wrap_i64]; omega
  have w1' : wrap64 ((m : Int) - (a : Int)) = ((m - a : Nat) : Int) := by unfold wrap64; omega
  have w2' : wrap64 ((b : Int) - (m : Int)) = ((b - m : Nat) : Int) := by unfold wrap64; omega
  obtain ⟨i0, hi0⟩ : ∃ i0, m - a = i0 := ⟨_, rfl⟩
  obtain ⟨j0, hj0⟩ : ∃ j0, b - m = j0 := ⟨_, rfl⟩
  rw [hi0] at w1 w1'
  rw [hj0] at w2 w2'
  have HI := Lib.hid hi0
  have HJ := Lib.hid hj0
  have HT := Lib.hid (show ∀ D, Rot (m - i0) m (m + j0) d D → Rot a m b d D from fun D h => by
    have e1 : m - i0 = a := by omega
    have e2 : m + j0 = b := by omega
    rw [e1, e2] at h; exact h)
  have HS0 := Lib.hid (show 1 ≤ i0 ∧ i0 ≤ m ∧ 1 ≤ j0 ∧ m + j0 ≤ b from by omega)
  clear hH ham hmb hb hi0 hj0
  go_enter Try.func16, Try.ntmps16
  go_upto_region 2 with fail
  clear w1 w2 w1' w2'
  go_loopw [10, 11] (fun s10 s11 wr => ∃ (i j q : Nat) (dk : Array α), s10 = .int .i64 i ∧ s11 = .int .i64 j ∧ 1 ≤ i ∧ 1 ≤ j ∧ i ≤ i0 ∧ j ≤ j0 ∧ Hid (wr = (putRow (encF f) w blk off dk).drewN q) ∧ Hid (PermIn a b d dk) ∧ Hid (∀ D, Rot (m - i) m (m + j) dk D → Rot a m b d D)) (fun s10 s11 _ => (intOf s10).toNat + (intOf s11).toNat)
  case atStart => exact ⟨i0, j0, 0, d, rfl, rfl, HS0.out.1, HS0.out.2.2.1, Nat.le_refl _, Nat.le_refl _, HST, Lib.hid (permIn_refl _ _ _), HT⟩
  case round =>
    obtain ⟨i, j, q, dk, rfl, rfl, hi1, hj1, hi, hj, HW, HP, HR⟩ := hrel
    have hh := HM.out
    have hs := HS0.out
    have hI := HI.out
    have hJ := HJ.out
    have hds : dk.size = d.size := HP.out.1
    have hHk := holds_putRow (encF f) w blk off d dk HH.out hds
    have HHk := Lib.hid (show Holds (encF f) wr blk off dk from by rw [HW.out]; exact hHk)
    have NX := Lib.hid (show ∀ (D : Array α) (q2 : Nat), D.size = dk.size → (putRow (encF f) wr blk off D).drewN q2 = (putRow (encF f) w blk off D).drewN (q + q2) from fun D q2 hD => by
      rw [HW.out]
      show ((putRow (encF f) (putRow (encF f) w blk off dk) blk off D).drewN q).drewN q2 = _
      rw [putRow_putRow _ _ _ _ _ _ hD, World.drewN_drewN])
    have lm : IntKind.i64.wrap ((m : Int) - (i : Int)) = ((m - i : Nat) : Int) := by rw [IntKind.wrap_i64]; omega
    have lm' : wrap64 ((m : Int) - (i : Int)) = ((m - i : Nat) : Int) := by unfold wrap64; omega
    clear hHk HW
    rcases Nat.lt_trichotomy i j with hlt | heq | hgt
    · have e1 : ((i : Int) == (j : Int)) = false := beq_eq_false_iff_ne.2 (by omega)
      have e2 : ¬ (j : Int) < (i : Int) := by omega
      have e3 : IntKind.i64.wrap ((m : Int) + (j : Int)) = ((m + j : Nat) : Int) := by rw [IntKind.wrap_i64]; omega
      have e3' : wrap64 ((m : Int) + (j : Int)) = ((m + j : Nat) : Int) := by unfold wrap64; omega
      obtain ⟨u, hu⟩ : ∃ u, m + j = u := ⟨_, rfl⟩
      rw [hu] at e3 e3'
      have e4 : IntKind.i64.wrap ((u : Int) - (i : Int)) = ((m + j - i : Nat) : Int) := by rw [IntKind.wrap_i64]; omega
      have e4' : wrap64 ((u : Int) - (i : Int)) = ((m + j - i : Nat) : Int) := by unfold wrap64; omega
      have e5 : IntKind.i64.wrap ((j : Int) - (i : Int)) = ((j - i : Nat) : Int) := by rw [IntKind.wrap_i64]; omega
      have e5' : wrap64 ((j : Int) - (i : Int)) = ((j - i : Nat) : Int) := by unfold wrap64; omega
      have SW := Lib.hid (swapRange_any f blk off cap (m - i) (m + j - i) i dk wr cv HHk.out (by omega) (by omega) (by omega))
      rw [hds] at SW
      have HPn := Lib.hid (permIn_trans _ _ _ _ _ HP.out (swapR_perm dk (m - i) (m + j - i) i a b (by omega) (by omega) (by omega) (by omega)))
      have HRn := Lib.hid (show ∀ D, Rot (m - i) m (m + (j - i)) (swapR dk (m - i) (m + j - i) i) D → Rot a m b d D from fun D h => HR.out D (Rot.right (by omega) hlt (by omega) h))
      have hz := size_swapR dk (m - i) (m + j - i) i
      clear HHk HP HR hu
      go_wp2_with (go_at_call 17; (with_reducible refine SW.out.mono ?_); rintro e x ⟨rfl, q2, rfl⟩)
      go_roundw
      case measure => simp only [intOf]; omega
      case rel => exact ⟨i, j - i, q + q2, _, rfl, rfl, hi1, by omega, hi, by omega, Lib.hid (NX.out _ q2 hz), HPn, HRn⟩
    · subst heq
      have e1 : ((i : Int) == (i : Int)) = true := by simp
      have SW := Lib.hid (swapRange_any f blk off cap (m - i) m i dk wr cv HHk.out (by omega) (by omega) (by omega))
      rw [hds] at SW
      have HPn := Lib.hid (permIn_trans _ _ _ _ _ HP.out (swapR_perm dk (m - i) m i a b (by omega) (by omega) (by omega) (by omega)))
      have HRn := Lib.hid (HR.out _ (Rot.last m i dk (by omega) (by omega)))
      have hz := size_swapR dk (m - i) m i
      clear HHk HP HR
      go_wp2_with (go_at_call 17; (with_reducible refine SW.out.mono ?_); rintro e x ⟨rfl, q2, rfl⟩)
      go_end0
      exact ⟨rfl, _, _, NX.out _ q2 hz, HRn.out, HPn.out⟩
    · have e1 : ((i : Int) == (j : Int)) = false := beq_eq_false_iff_ne.2 (by omega)
      have e2 : (j : Int) < (i : Int) := by omega
      have e5 : IntKind.i64.wrap ((i : Int) - (j : Int)) = ((i - j : Nat) : Int) := by rw [IntKind.wrap_i64]; omega
      have e5' : wrap64 ((i : Int) - (j : Int)) = ((i - j : Nat) : Int) := by unfold wrap64; omega
      have SW := Lib.hid (swapRange_any f blk off cap (m - i) m j dk wr cv HHk.out (by omega) (by omega) (by omega))
      rw [hds] at SW
      have HPn := Lib.hid (permIn_trans _ _ _ _ _ HP.out (swapR_perm dk (m - i) m j a b (by omega) (by omega) (by omega) (by omega)))
      have HRn := Lib.hid (show ∀ D, Rot (m - (i - j)) m (m + j) (swapR dk (m - i) m j) D → Rot a m b d D from fun D h => HR.out D (Rot.left (by omega) hgt (by omega) h))
      have hz := size_swapR dk (m - i) m j
      clear HHk HP HR
      go_wp2_with (go_at_call 17; (with_reducible refine SW.out.mono ?_); rintro e x ⟨rfl, q2, rfl⟩)
      go_roundw
      case measure => simp only [intOf]; omega
      case rel => exact ⟨i - j, j, q + q2, _, rfl, rfl, by omega, hj1, by omega, hj, Lib.hid (NX.out _ q2 hz), HPn, HRn⟩
end Go.Proofs.Ytfpmekphkippdaa
