import Derived.Test.YtggfhcidmnageaaDoorPlaces
import Derived.Test.YtggfhcidmnageaaDoorSame
import Derived.Deep.QuietTactic
import Derived.BigQuiet
/-! The reference's Places and Time. -/
namespace Go.Proofs.YtggfhcidmnageaaDoor
open Go.RowKit
set_option linter.unusedVariables false
set_option linter.unusedSimpArgs false
def Pl.timeB (n : Int) : Bool := decide (0 ≤ n ∧ n ≤ 1000000)
theorem Pl.timeB_iff (n : Int) : Pl.timeB n = true ↔ 0 ≤ n ∧ n ≤ 1000000 := by simp [Pl.timeB]
theorem rTime_any (n : Int) (w : World) : Calls Tryd.prog 13 #[.int .i64 n] w fun e w' => e = .returned (.bool (Pl.timeB n)) ∧ w = w' := by
  unfold Pl.timeB
  go_enter Tryd.func13, Tryd.ntmps13
  go_wp2
  all_goals (go_ret; exact ⟨by simp [*]; try omega, rfl⟩)
/-- one round of the reference's search -/
structure RPl (N B : Nat) (w : World) (x0 x1 x2 x3 : Int) (x4 : Bool) (x5 : Value) (x6 : List UInt8) (v : Value) (c : List Nat) (y : World) : Prop where
  box : PkIn y B x0 x1 x2 x3 x4 x5
  bs : IsBytes y x5 x6
  row : IRow y N v (Pl.ci c)
  kb : Below N w y
theorem RPl.below {N B : Nat} {w : World} {x0 x1 x2 x3 : Int} {x4 : Bool} {x5 : Value} {x6 : List UInt8} {v : Value} {c : List Nat} {y z : World} (h : RPl N B w x0 x1 x2 x3 x4 x5 x6 v c y) (hN : N ≤ y.heap.size) (k : Below y.heap.size y z) : RPl N B w x0 x1 x2 x3 x4 x5 x6 v c z :=
  ⟨Below.heapAt k h.box (lt_of_block h.box), h.bs.below k, h.row.below k, h.kb.trans (k.mono hN)⟩
set_option maxRecDepth 100000 in
set_option maxHeartbeats 4000000 in
theorem refPlaces_any (v1 v2 : Value) (S G : List Pk) (w : World) (h1 : IsPks w v1 S) (h2 : IsPks w v2 G) :
    Calls Tryd.prog 12 #[v1, v2] w fun e w' => ∃ (v : Value) (c : List Nat) (at_ f : Int), e = .returned (.tuple #[v, .int .i64 at_, .int .i64 f]) ∧ Pl.PlacesR S G c at_ f ∧ IRow w' w.heap.size v (Pl.ci c) ∧ Below w.heap.size w w' := by
  obtain ⟨o1, c1, rfl, l1, m1, n1, -⟩ := pks_open h1
  obtain ⟨o2, c2, rfl, l2, m2, n2, -⟩ := pks_open h2
  have H1 := Lib.hid (show IsPks w (.slice o1 S.length c1) S from h1)
  have H2 := Lib.hid (show IsPks w (.slice o2 G.length c2) G from h2)
  unfold maxLen at m1 m2
  clear h1 h2 n1 n2
  by_cases hs : 1000 < S.length ∨ 1000 < G.length
  · have HR := Lib.hid (show Pl.PlacesR S G [] 0 4 from .inl ⟨hs, rfl, rfl, rfl⟩)
    by_cases hs1 : 1000 < S.length
    · clear hs
      go_enter Tryd.func12, Tryd.ntmps12
      go_wp2_with fail
      go_ret3
      exact ⟨_, [], 0, 4, rfl, HR.out, IRow.nil _ _, Below.refl _ _⟩
    · have hs2 : 1000 < G.length := by omega
      clear hs
      go_enter Tryd.func12, Tryd.ntmps12
      go_wp2_with fail
      go_ret3
      exact ⟨_, [], 0, 4, rfl, HR.out, IRow.nil _ _, Below.refl _ _⟩
  have hs1 : S.length ≤ 1000 := by omega
  have hs2 : G.length ≤ 1000 := by omega
  clear hs
  have HOK := Lib.hid (show ∀ c f, Pl.Chn S G G.length c f → Pl.PlacesR S G c 0 0 from fun c f h => .inr ⟨⟨hs1, hs2⟩, .inl ⟨f, h, rfl, rfl⟩⟩)
  have HNO := Lib.hid (show ∀ (n : Nat) c f g, Pl.Chn S G n c f → G[n]? = some g → Pl.NoneAt S g f → Pl.PlacesR S G [] n 5 from fun n c f g a b d => .inr ⟨⟨hs1, hs2⟩, .inr ⟨n, c, f, g, a, b, d, rfl, rfl, rfl⟩⟩)
  go_enter Tryd.func12, Tryd.ntmps12
  go_upto_region 6 with fail
  go_loopw [7, 8, 9] (fun s7 s8 s9 wr => ∃ (i f : Nat) (c : List Nat), i ≤ G.length ∧ f ≤ S.length ∧ c.length = i ∧ s9 = .int .i64 i ∧ s8 = .int .i64 f ∧ Hid (Pl.Chn S G i c f) ∧ Hid (IRow wr w.heap.size s7 (Pl.ci c)) ∧ Hid (Below w.heap.size w wr)) (fun _ _ s9 _ => G.length - (intOf s9).toNat)
  case atStart => exact ⟨0, 0, [], by omega, by omega, rfl, rfl, rfl, Lib.hid .nil, Lib.hid (IRow.nil _ _), Lib.hid (Below.refl _ _)⟩
  case round =>
    obtain ⟨i, f, c, hi, hf, hc, rfl, rfl, HC, RO, KB⟩ := hrel
    by_cases hlt : i < G.length
    · obtain ⟨_, _, e, -, -, -, rd⟩ := pks_open (IsPks.below H2.out KB.out)
      cases e
      obtain ⟨b, o, rfl, hb, q0, q1, q2, q3, q4, q5, gd⟩ := rd i hlt
      have HGi := Lib.hid (show G[i]? = some G[i] from List.getElem?_eq_getElem hlt)
      have GD := Lib.hid gd.2.2.2.2
      clear rd gd
      generalize G[i] = g at *
      obtain ⟨x0, x1, x2, x3, x4, x5, x6⟩ := g
      dsimp only at q0 q1 q2 q3 q4 q5 GD
      obtain ⟨ob, cb, rfl, -⟩ := bytes_slice GD.out
      go_upto_region 9 with fail
      obtain ⟨B, hBz⟩ : ∃ B, wr.heap.size = B := ⟨_, rfl⟩
      have hwB : w.heap.size ≤ wr.heap.size := KB.out.size
      refine abs_t (fun y => Hid (RPl w.heap.size wr.heap.size w x0 x1 x2 x3 x4 (.slice ob x6.length cb) x6 u7 c y)) (Lib.hid ⟨obj_new _ _, GD.out.below ((Below.refl _ _).alloc (Nat.le_refl _) _), RO.out.alloc _, KB.out.alloc hwB _⟩) ?_
      rw [hBz]
      clear q0 q1 q2 q3 q4 q5 RO GD KB hBz hwB
      rintro y RP
      go_loopw [8] (fun s8 wr2 => ∃ k : Nat, f ≤ k ∧ k ≤ S.length ∧ s8 = .int .i64 k ∧ Hid (∀ j x, f ≤ j → j < k → S[j]? = some x → Pl.alikeP x ⟨x0, x1, x2, x3, x4, .slice ob x6.length cb, x6⟩ = false) ∧ Hid (RPl w.heap.size B w x0 x1 x2 x3 x4 (.slice ob x6.length cb) x6 u7 c wr2)) (fun s8 _ => S.length - (intOf s8).toNat)
      case atStart => exact ⟨f, Nat.le_refl _, hf, rfl, Lib.hid (fun j x h1 h2 => by omega), RP⟩
      case round =>
        clear RP
        obtain ⟨k, hfk, hk, rfl, HN, RP⟩ := hrel
        by_cases hkl : k < S.length
        case neg =>
          obtain rfl : S.length = k := by omega
          have HR := Lib.hid (HNO.out i c f _ HC.out HGi.out (fun j x h1 h2 => HN.out j x h1 (List.getElem?_eq_some_iff.1 h2).1 h2))
          have KB := Lib.hid RP.out.kb
          clear RP
          go_upto_region 9 with fail
          go_quiet (fail)
          go_wp2_with fail
          go_ret3
          exact ⟨_, [], i, 5, rfl, HR.out, IRow.nil _ _, Below.drewN KB.out _⟩
        obtain ⟨_, _, e, -, -, -, rd⟩ := pks_open (IsPks.below H1.out RP.out.kb)
        cases e
        obtain ⟨b2, o2, rfl, hb2, p0, p1, p2, p3, p4, p5, gd⟩ := rd k hkl
        have HSk := Lib.hid (show S[k]? = some S[k] from List.getElem?_eq_getElem hkl)
        have GD := Lib.hid gd.2.2.2.2
        clear rd gd
        generalize S[k] = g2 at *
        obtain ⟨y0, y1, y2, y3, y4, y5, y6⟩ := g2
        dsimp only at p0 p1 p2 p3 p4 p5 GD
        obtain ⟨oy, cy, rfl, -⟩ := bytes_slice GD.out
        obtain ⟨q0, q1, q2, q3, q4, q5⟩ := PkIn.cells RP.out.box
        have CV1 := Lib.hid (fun n => conv_bytes (GD.out.below (Below.drewN (Below.refl _ wr) n)))
        have CV2 := Lib.hid (fun n => conv_bytes (RP.out.bs.below (Below.drewN (Below.refl _ wr) n)))
        have HAL := Lib.hid (show ∀ r : Bool, decide (y2 = x2 ∧ y3 = x3 ∧ y4 = x4 ∧ y6 = x6) = r → Pl.alikeP ⟨y0, y1, y2, y3, y4, .slice oy y6.length cy, y6⟩ ⟨x0, x1, x2, x3, x4, .slice ob x6.length cb, x6⟩ = r from fun r h => h)
        have i5 : (0 : Int) ≤ (k : Int) := by omega
        have i6 : (k : Int) < (S.length : Int) := by omega
        clear GD
        go_upto_region 9 with fail
        go_cut [74] from 29 to 75 (fun v z => ∃ m : Bool, v = .bool m ∧ Pl.alikeP ⟨y0, y1, y2, y3, y4, .slice oy y6.length cy, y6⟩ ⟨x0, x1, x2, x3, x4, .slice ob x6.length cb, x6⟩ = !m ∧ ∃ n, z = wr.drewN n)
        case first =>
          by_cases e2 : y2 = x2
          case neg =>
            have d1 : (y2 == x2) = false := by simpa using e2
            have d2 : (y2 != x2) = true := by simpa using e2
            have HM := Lib.hid (HAL.out false (by simp [e2]))
            clear e2
            go_quiet (fail)
            go_wp2_with fail
            go_meet
            exact ⟨true, rfl, HM.out, ⟨_, rfl⟩⟩
          subst e2
          by_cases e3 : y3 = x3
          case neg =>
            have d1 : (y3 == x3) = false := by simpa using e3
            have d2 : (y3 != x3) = true := by simpa using e3
            have HM := Lib.hid (HAL.out false (by simp [e3]))
            clear e3
            go_quiet (fail)
            go_wp2_with fail
            go_meet
            exact ⟨true, rfl, HM.out, ⟨_, rfl⟩⟩
          subst e3
          by_cases e4 : y4 = x4
          case neg =>
            have d1 : (y4 == x4) = false := by simpa using e4
            have d2 : (y4 != x4) = true := by simpa using e4
            have HM := Lib.hid (HAL.out false (by simp [e4]))
            clear e4
            go_quiet (fail)
            go_wp2_with fail
            go_meet
            exact ⟨true, rfl, HM.out, ⟨_, rfl⟩⟩
          subst e4
          have c1 := CV1.out
          have c2 := CV2.out
          by_cases e6 : y6 = x6
          · subst e6
            have HM := Lib.hid (HAL.out true (by simp))
            generalize strB y6 = sx at *
            go_quiet (fail)
            go_wp2_with fail
            go_meet
            exact ⟨false, rfl, HM.out, ⟨_, rfl⟩⟩
          · have ne : ¬ (strB y6).toList = (strB x6).toList := by rw [ByteArray.toList_eq, ByteArray.toList_eq]; simpa [strB] using e6
            have d1 : ((strB y6).toList == (strB x6).toList) = false := beq_eq_false_iff_ne.2 ne
            have d2 : ((strB y6).toList != (strB x6).toList) = true := by simpa using ne
            have HM := Lib.hid (HAL.out false (by simp [e6]))
            clear e6
            generalize strB y6 = sx at *
            generalize strB x6 = sy at *
            go_quiet (fail)
            go_wp2_with fail
            go_meet
            exact ⟨true, rfl, HM.out, ⟨_, rfl⟩⟩
        case rest =>
        clear p0 p1 p2 p3 p4 p5 q0 q1 q2 q3 q4 q5 CV1 CV2 HAL
        obtain ⟨m, rfl, HM', ⟨n, rfl⟩⟩ := hcut
        have HM := Lib.hid HM'
        have RP2 := Lib.hid (RP.out.below RP.out.kb.size (Below.drewN (Below.refl _ _) n))
        clear HM' RP
        generalize wr.drewN n = y2w at *
        cases m
        · have d : ((k : Int) == (S.length : Int)) = false := by simp; omega
          have HC2 := Lib.hid (Pl.Chn.snoc HC.out HGi.out ⟨hfk, ⟨_, HSk.out, HM.out⟩, fun j x h1 h2 h3 => HN.out j x h1 h2 h3⟩)
          obtain ⟨gN, capN, wN, hr, ro, kn⟩ := IRow.more RP2.out.row (k : Int) (by rw [Pl.ci_len]; omega) RP2.out.kb (Nat.le_refl _)
          have HR := Lib.hid hr
          have RO3 := Lib.hid ro
          have KB3 := Lib.hid kn
          clear hr ro kn RP2
          go_upto_region 14 with (at_builtin; refine Lib.wpList_append_run _ rfl (.tmp 82) (.tmp 84) 22 22 rfl _ _ rfl rfl _ _ HR.out ?_)
          go_wp2_with fail
          go_roundw
          case measure => simp [intOf]; omega
          case rel => exact ⟨i + 1, k + 1, c ++ [k], by omega, by omega, by simp; omega, by go_num, by go_num, HC2, Lib.hid (by have := RO3.out; simpa [Pl.ci] using this), KB3⟩
        · have HN2 := Lib.hid (show ∀ j x, f ≤ j → j < k + 1 → S[j]? = some x → Pl.alikeP x ⟨x0, x1, x2, x3, x4, .slice ob x6.length cb, x6⟩ = false from fun j x h1 h2 h3 => by
            by_cases e : j = k
            · subst e; rw [HSk.out] at h3; cases h3; exact HM.out
            · exact HN.out j x h1 (by omega) h3)
          go_wp2_with fail
          go_roundw
          case measure => simp [intOf]; omega
          case rel => exact ⟨k + 1, by omega, by omega, by go_num, HN2, RP2⟩
    · obtain rfl : G.length = i := by omega
      have HR := Lib.hid (HOK.out _ _ HC.out)
      go_wp2_with fail
      go_ret3
      exact ⟨_, c, 0, 0, rfl, HR.out, RO.out, KB.out⟩
end Go.Proofs.YtggfhcidmnageaaDoor
