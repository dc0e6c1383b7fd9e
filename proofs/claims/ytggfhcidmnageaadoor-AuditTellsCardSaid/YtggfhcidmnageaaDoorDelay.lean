import Derived.Test.YtggfhcidmnageaaDoorIntRow
import Derived.Test.YtggfhcidmnageaaDoorPAuditB
import Derived.Test.YtggfhcidmnageaaDoorErrE
import Derived.Test.YtggfhcidmnageaaDoorFirst
/-! audit.Delay. -/
namespace Go.Proofs.YtggfhcidmnageaaDoor
open Go.RowKit
set_option linter.unusedVariables false
set_option linter.unusedSimpArgs false
set_option maxRecDepth 100000 in
set_option maxHeartbeats 4000000 in
theorem auditDelay_any (v1 v2 : Value) (A B : List Int) (w : World) (h1 : IsInts w v1 A) (h2 : IsInts w v2 B) :
    Calls Tryd.prog 14 #[v1, v2] w fun e w' => ∃ x y f : Int, e = .returned (.tuple #[.int .i64 x, .int .i64 y, errV f]) ∧ Pl.DelayR A B x y f ∧ Below w.heap.size w w' := by
  obtain ⟨o1, c1, rfl, l1, r1⟩ := ints_read h1
  obtain ⟨o2, c2, rfl, l2, r2⟩ := ints_read h2
  have R1 := Lib.hid r1
  have R2 := Lib.hid r2
  unfold maxLen at l1 l2
  clear h1 h2 r1 r2
  by_cases hs : 1000 < A.length ∨ 1000 < B.length
  · have HR := Lib.hid (show Pl.DelayR A B 0 0 4 from .inl ⟨hs, rfl, rfl, rfl⟩)
    by_cases hs1 : 1000 < A.length
    · clear hs
      go_enter Tryd.func14, Tryd.ntmps14
      go_wp2_with fail
      go_ret3
      exact ⟨0, 0, 4, rfl, HR.out, Below.refl _ _⟩
    · have hs2 : 1000 < B.length := by omega
      clear hs
      go_enter Tryd.func14, Tryd.ntmps14
      go_wp2_with fail
      go_ret3
      exact ⟨0, 0, 4, rfl, HR.out, Below.refl _ _⟩
  have hs1 : A.length ≤ 1000 := by omega
  have hs2 : B.length ≤ 1000 := by omega
  clear hs
  by_cases he : A.length = B.length
  case neg =>
    have HR := Lib.hid (show Pl.DelayR A B 0 0 3 from .inr ⟨⟨hs1, hs2⟩, .inl ⟨he, rfl, rfl, rfl⟩⟩)
    have d1 : ((A.length : Int) == (B.length : Int)) = false := by simp; omega
    have d2 : ((A.length : Int) != (B.length : Int)) = true := by simp; omega
    go_enter Tryd.func14, Tryd.ntmps14
    go_wp2_with fail
    go_ret3
    exact ⟨0, 0, 3, rfl, HR.out, Below.refl _ _⟩
  by_cases h0 : A.length = 0
  · have HR := Lib.hid (show Pl.DelayR A B 0 0 5 from .inr ⟨⟨hs1, hs2⟩, .inr ⟨he, .inl ⟨h0, rfl, rfl, rfl⟩⟩⟩)
    rw [← he, h0]
    go_enter Tryd.func14, Tryd.ntmps14
    go_wp2_with fail
    go_ret3
    exact ⟨0, 0, 5, rfl, HR.out, Below.refl _ _⟩
  have HS := Lib.hid (show ∀ x y f, (∃ a, Pl.FstR (Pl.delF A B) A.length a f) → (f ≠ 0 → x = 0 ∧ y = 0) → (f = 0 → x = Pl.minD A B A.length ∧ y = Pl.maxD A B A.length) → Pl.DelayR A B x y f from fun x y f q1 q2 q3 => .inr ⟨⟨hs1, hs2⟩, .inr ⟨he, .inr ⟨by omega, q1, q2, q3⟩⟩⟩)
  obtain ⟨n, hn⟩ : ∃ n, A.length = n := ⟨_, rfl⟩
  rw [← he]
  rw [← he] at R2
  rw [hn] at HS R1 R2 hs1 h0 ⊢
  clear hs2 he l2 hn l1
  have e0 : ((n : Int) == 0) = false := by simp; omega
  have hn0 : 0 < n := by omega
  clear h0
  go_enter Tryd.func14, Tryd.ntmps14
  go_upto_region 8 with fail
  go_loopw [4, 5, 34] (fun s4 s5 s34 wr => wr = w ∧ ∃ i : Nat, i ≤ n ∧ s34 = .int .i64 i ∧ s4 = .int .i64 (Pl.minD A B i) ∧ s5 = .int .i64 (Pl.maxD A B i) ∧ Hid (∀ j, j < i → Pl.delF A B j = 0)) (fun _ _ s34 _ => n - (intOf s34).toNat)
  case atStart => exact ⟨rfl, 0, by omega, rfl, rfl, rfl, Lib.hid (fun j h => by omega)⟩
  case round =>
    obtain ⟨rfl, i, hi, rfl, rfl, rfl, HN⟩ := hrel
    by_cases hlt : i < n
    · obtain ⟨b1, f1, rfl, -, q1, z1, z2⟩ := R1.out i hlt
      obtain ⟨b2, f2, rfl, -, q2, z3, z4⟩ := R2.out i hlt
      have HD := Lib.hid (show Pl.delF A B i = _ from rfl)
      have HM := Lib.hid (show Pl.minD A B (i + 1) = if i = 0 then B.getD 0 0 - A.getD 0 0 else min (Pl.minD A B i) (B.getD i 0 - A.getD i 0) from rfl)
      have HX := Lib.hid (show Pl.maxD A B (i + 1) = max (Pl.maxD A B i) (B.getD i 0 - A.getD i 0) from rfl)
      have HZ := Lib.hid (show i = 0 → B.getD 0 0 - A.getD 0 0 = B.getD i 0 - A.getD i 0 from fun e => by rw [e])
      have bd := Pl.minD_bd i HN.out
      have DF := Lib.hid (show ∀ r : Int, (if A.getD i 0 < 0 ∨ 1000000 < A.getD i 0 ∨ B.getD i 0 < 0 ∨ 1000000 < B.getD i 0 then (1 : Int) else if B.getD i 0 < A.getD i 0 then 6 else 0) = r → Pl.delF A B i = r from fun r h => h)
      clear HD
      obtain ⟨x, hx⟩ : ∃ x, A.getD i 0 = x := ⟨_, rfl⟩
      obtain ⟨y, hy⟩ : ∃ y, B.getD i 0 = y := ⟨_, rfl⟩
      rw [hx] at q1 z1 z2 HM HX HZ DF
      rw [hy] at q2 z3 z4 HM HX HZ DF
      clear hx hy
      obtain ⟨mn, hmn⟩ : ∃ mn, Pl.minD A B i = mn := ⟨_, rfl⟩
      obtain ⟨mx, hmx⟩ : ∃ mx, Pl.maxD A B i = mx := ⟨_, rfl⟩
      rw [hmn] at HM bd ⊢
      rw [hmx] at HX bd ⊢
      clear hmn hmx
      obtain ⟨⟨m1, m2⟩, m3, m4⟩ := bd
      by_cases hr : x < 0 ∨ 1000000 < x ∨ y < 0 ∨ 1000000 < y
      · have HR := Lib.hid (HS.out 0 0 1 ⟨i, .inr ⟨by decide, i, hlt, rfl, DF.out 1 (by rw [if_pos hr]), HN.out⟩⟩ (fun _ => ⟨rfl, rfl⟩) (fun h => by cases h))
        clear HM HX HZ DF
        by_cases r1 : x < 0
        · clear hr
          go_wp2_with fail
          go_ret3
          exact ⟨0, 0, 1, rfl, HR.out, Below.refl _ _⟩
        by_cases r2 : 1000000 < x
        · clear hr
          go_wp2_with fail
          go_ret3
          exact ⟨0, 0, 1, rfl, HR.out, Below.refl _ _⟩
        by_cases r3 : y < 0
        · clear hr
          go_wp2_with fail
          go_ret3
          exact ⟨0, 0, 1, rfl, HR.out, Below.refl _ _⟩
        have r4 : 1000000 < y := by omega
        clear hr
        go_wp2_with fail
        go_ret3
        exact ⟨0, 0, 1, rfl, HR.out, Below.refl _ _⟩
      obtain ⟨r1, r2, r3, r4⟩ : 0 ≤ x ∧ x ≤ 1000000 ∧ 0 ≤ y ∧ y ≤ 1000000 := by omega
      by_cases hyx : y < x
      · have HR := Lib.hid (HS.out 0 0 6 ⟨i, .inr ⟨by decide, i, hlt, rfl, DF.out 6 (by rw [if_neg hr, if_pos hyx]), HN.out⟩⟩ (fun _ => ⟨rfl, rfl⟩) (fun h => by cases h))
        clear HM HX HZ DF hr
        go_wp2_with fail
        go_ret3
        exact ⟨0, 0, 6, rfl, HR.out, Below.refl _ _⟩
      have HN2 := Lib.hid (show ∀ j, j < i + 1 → Pl.delF A B j = 0 from fun j hj => by
        by_cases e : j = i
        · subst e; exact DF.out 0 (by rw [if_neg hr, if_neg hyx])
        · exact HN.out j (by omega))
      clear DF hr HN
      have i7 : IntKind.i64.wrap (y - x) = y - x := by rw [IntKind.wrap_i64]; omega
      by_cases hi0 : i = 0
      · have d0 : ((i : Int) == 0) = true := by simp; omega
        have HI0 := Lib.hid hi0
        clear hi0
        go_wp2_with fail
        go_roundw
        case measure => simp [intOf]; omega
        case rel => exact ⟨by first | rfl | trivial, i + 1, by omega, by go_num, by rw [HM.out, if_pos HI0.out, HZ.out HI0.out]; try simp, by rw [HX.out]; congr 1; split <;> omega, HN2⟩
      · have d0 : ((i : Int) == 0) = false := by simp; omega
        go_wp2_with fail
        go_roundw
        case measure => simp [intOf]; omega
        case rel => exact ⟨by first | rfl | trivial, i + 1, by omega, by go_num, by rw [HM.out, if_neg hi0]; congr 1; split <;> omega, by rw [HX.out]; congr 1; split <;> omega, HN2⟩
    · obtain rfl : n = i := by omega
      have HR := Lib.hid (HS.out _ _ 0 ⟨0, .inl ⟨rfl, rfl, HN.out⟩⟩ (fun h => absurd rfl h) (fun _ => ⟨rfl, rfl⟩))
      go_wp2_with fail
      go_ret3
      exact ⟨_, _, 0, rfl, HR.out, Below.refl _ _⟩
end Go.Proofs.YtggfhcidmnageaaDoor
