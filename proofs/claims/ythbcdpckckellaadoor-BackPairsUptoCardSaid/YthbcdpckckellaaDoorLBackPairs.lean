import Derived.Test.YthbcdpckckellaaDoorRefBackH
import Derived.Still
import Derived.StillTactics
import Derived.RegionTactic
import Derived.RegionCalls
import Derived.WalkKit
import Derived.Test.YthbcdpckckellaaDoorRefCrc
import Derived.Test.YthbcdpckckellaaDoorBackT
import Derived.Test.YthbcdpckckellaaDoorSame
import Derived.StillTailTactics
import Derived.Test.YthbcdpckckellaaDoorBackU
import Derived.Test.YthbcdpckckellaaDoorPBackB
import Derived.Test.YthbcdpckckellaaDoorErrV
import Derived.Test.YthbcdpckckellaaDoorPrs
import Derived.Deep.QuietTactic
import Derived.BigQuiet
import Derived.Test.YthbcdpckckellaaDoorSameBk
import Derived.Test.YthbcdpckckellaaDoorOpenBk
/-! The reference's BackBytes, kind 1. -/
namespace Go.Proofs.YthbcdpckckellaaDoor
open Go.RowKit
set_option linter.unusedVariables false
set_option linter.unusedSimpArgs false
set_option maxRecDepth 100000 in
set_option maxHeartbeats 8000000 in
theorem rBackBytes_mis1 (t val : Int) (oa : Option Addr) (c : Nat) (A : List Int) (w : World) (hA : Sl encI w (.slice oa A.length c) A) (hh : Pl.backHead 1 t val) (hm : A.length = 0) :
    Calls Tryd.prog 11 #[bkV 1 t (.slice oa A.length c) val] w (RBB w 1 t val A) := by
  have KA : Hid (Below w.heap.size w (w.alloc (.cells #[.int .i64 1, .int .i64 t, .slice oa A.length c, .int .i64 val] 25))) := Lib.hid ((Below.refl _ _).alloc (Nat.le_refl _) _)
  have hA2 := hA.len
  unfold maxLen at hA2
  obtain ⟨n, hn⟩ : ∃ n, A.length = n := ⟨_, rfl⟩
  rw [hn] at hA hA2 KA ⊢
  have HA := Lib.hid hA
  have HNL := Lib.hid hn
  clear hA
  have F3 := Lib.hid (Pl.backF_mis (A := A) hh (.inl (by rw [hn]; omega)))
  have h7 : val ≤ 0 := hh.2.2.2.2.2
  obtain ⟨-, -, h3, h4, h5, -⟩ := hh
  rw [hn] at hm
  clear hn
  subst hm
  go_enter Tryd.func11, Tryd.ntmps11
  go_upto_region 1 with fail
  have BX : Hid (BkBox (w.alloc (.cells #[.int .i64 1, .int .i64 t, .slice oa 0 c, .int .i64 val] 25)) w.heap.size 1 t (.slice oa 0 c) val) := Lib.hid (obj_new _ _)
  refine abs_b (fun y => Hid (BkBox y w.heap.size 1 t (.slice oa 0 c) val) ∧ Hid (Below w.heap.size w y)) ⟨BX, KA⟩ ?_
  clear BX KA
  rintro y ⟨BX, KA⟩
  obtain ⟨c0, c1, c2, c3⟩ := BX.out.cells
  go_wp2_with fail
  go_ret2
  exact RBB.bad KA.out 3 F3.out (by decide)
set_option maxRecDepth 100000 in
set_option maxHeartbeats 8000000 in
theorem rBackBytes_1 (t val : Int) (oa : Option Addr) (c : Nat) (A : List Int) (w : World) (hA : Sl encI w (.slice oa A.length c) A) (hh : Pl.backHead 1 t val) (hm : 0 < A.length) :
    Calls Tryd.prog 11 #[bkV 1 t (.slice oa A.length c) val] w (RBB w 1 t val A) := by
  have KA : Hid (Below w.heap.size w (w.alloc (.cells #[.int .i64 1, .int .i64 t, .slice oa A.length c, .int .i64 val] 25))) := Lib.hid ((Below.refl _ _).alloc (Nat.le_refl _) _)
  have hA2 := hA.len
  unfold maxLen at hA2
  obtain ⟨n, hn⟩ : ∃ n, A.length = n := ⟨_, rfl⟩
  rw [hn] at hA hA2 KA ⊢
  have HA := Lib.hid hA
  have HNL := Lib.hid hn
  clear hA
  have FPP := Lib.hid (fun hp => Pl.backF_pair (A := A) hh (by rw [hn]; omega) hp)
  have HBad := Lib.hid (fun hp => Pl.backF_mis (A := A) hh (.inr hp))
  have h7 : val ≤ 0 := hh.2.2.2.2.2
  have HV := Lib.hid (show 0 ≤ val ∧ val ≤ 0 from ⟨hh.2.2.2.2.1, h7⟩)
  have HT := Lib.hid (show 1 ≤ t ∧ t ≤ 8 from ⟨hh.2.2.1, hh.2.2.2.1⟩)
  obtain ⟨-, -, h3, h4, h5, -⟩ := hh
  rw [hn] at hm
  clear hn
  have e1 : (0 : Int) < (n : Int) := by omega
  have e2 : ((n : Int) == 0) = false := beq_eq_false_iff_ne.2 (by omega)
  go_enter Tryd.func11, Tryd.ntmps11
  go_upto_region 1 with fail
  have BX : Hid (BkBox (w.alloc (.cells #[.int .i64 1, .int .i64 t, .slice oa n c, .int .i64 val] 25)) w.heap.size 1 t (.slice oa n c) val) := Lib.hid (obj_new _ _)
  refine abs_b (fun y => Hid (BkBox y w.heap.size 1 t (.slice oa n c) val) ∧ Hid (Below w.heap.size w y)) ⟨BX, KA⟩ ?_
  clear BX KA
  rintro y ⟨BX, KA⟩
  obtain ⟨c0, c1, c2, c3⟩ := BX.out.cells
  go_upto_region 10 with fail
  clear e1 e2 h7 hm h3 h4 h5
  go_upto_block 0 with fail
  go_cut [5] from 65 to 83 (fun _ z => Hid (A.Pairwise (fun x y => x < y)) ∧ Hid (BkBox z w.heap.size 1 t (.slice oa n c) val) ∧ Hid (Below w.heap.size w z))
  case first =>
    as_aux_lemma =>
    go_upto_region 11 with fail
    go_loopw [5] (fun s5 wr => ∃ i : Nat, 1 ≤ i ∧ i ≤ max 1 A.length ∧ s5 = .int .i64 i ∧ Hid (BkBox wr w.heap.size 1 t (.slice oa n c) val) ∧ Hid (Below w.heap.size w wr) ∧ Hid (∀ j (hj : j + 1 < i) (hl : j + 1 < A.length), A[j] < A[j + 1])) (fun s5 _ => A.length + 1 - (RowKit.intOf s5).toNat)
    case atStart => exact ⟨1, by omega, by omega, rfl, BX, KA, Lib.hid (fun j hj => by omega)⟩
    case round =>
      as_aux_lemma =>
      clear BX KA c0 c1 c2 c3
      obtain ⟨i, hi1, hi2, rfl, BX, KR, HN⟩ := hrel
      obtain ⟨c0, c1, c2, c3⟩ := BX.out.cells
      have hnn := HNL.out
      by_cases hlt : i < A.length
      · have e1 : (i : Int) < (A.length : Int) := by omega
        rw [hnn] at e1
        have hr1 := HA.out.below KR.out
        obtain ⟨b, f, rfl, q1⟩ : ∃ b f, oa = some ⟨b, f, none⟩ ∧ wr.cell? ⟨b, f + i, none⟩ = some (.int .i64 A[i]) := by
          rcases hr1 with ⟨h1, _⟩ | ⟨b, off, cap, e, _, _, h2⟩
          · subst h1; simp at hlt
          · cases e; exact ⟨b, off, rfl, h2 i hlt⟩
        have q0 : wr.cell? ⟨b, f + (i - 1), none⟩ = some (.int .i64 A[i - 1]) := by
          rcases hr1 with ⟨h1, _⟩ | ⟨b, off, cap, e, _, _, h2⟩
          · subst h1; simp at hlt
          · cases e; exact h2 (i - 1) (by omega)
        have HB := Lib.hid (show ¬ A[i - 1] < A[i] → ¬ A.Pairwise (fun x y => x < y) from fun h hp => h ((List.pairwise_iff_getElem.1 hp) (i - 1) i (by omega) hlt (by omega)))
        have HG := Lib.hid (show A[i - 1] < A[i] → ∀ j (hj : j + 1 < i + 1) (hl : j + 1 < A.length), A[j] < A[j + 1] from fun h j hj hl => by
          by_cases e : j = i - 1
          · subst e
            have e2 : i - 1 + 1 = i := by omega
            simp only [e2]
            exact h
          · exact HN.out j (by omega) hl)
        generalize A[i] = x at *
        generalize A[i - 1] = y1 at *
        have i1 : (0 : Int) ≤ ((i - 1 : Nat) : Int) := by omega
        have i2 : ((i - 1 : Nat) : Int) < (A.length : Int) := by omega
        rw [hnn] at i2
        have i4 : IntKind.i64.wrap ((i : Int) - 1) = ((i - 1 : Nat) : Int) := by rw [IntKind.wrap_i64]; omega
        clear hr1
        by_cases hx : y1 < x
        · have G2 := Lib.hid (HG.out hx)
          have d1 : decide (x ≤ y1) = false := by simp; omega
          clear HB HG hx
          go_upto_region 13 with fail
          go_quiet (fail)
          go_wp2_with fail
          go_roundw
          case measure => simp only [RowKit.intOf]; omega
          case rel => exact ⟨i + 1, by omega, by omega, by simp, Lib.hid BX.out, Lib.hid (Below.drewN KR.out _), G2⟩
        · have F3 := Lib.hid (HBad.out (HB.out hx))
          have d1 : decide (x ≤ y1) = true := by simp; omega
          clear HB HG hx
          go_upto_region 13 with fail
          go_quiet (fail)
          go_wp2_with fail
          go_ret2
          exact RBB.bad (Below.drewN KR.out _) 3 F3.out (by decide)
      · have e1 : ¬ (i : Int) < (A.length : Int) := by omega
        rw [hnn] at e1
        have PT := Lib.hid (rises_steps (A := A) fun j hj => HN.out j (by omega) hj)
        clear hlt
        go_wp2_with fail
        go_meet
        exact ⟨PT, BX, KR⟩
  clear BX KA c0 c1 c2 c3
  obtain ⟨HP, BX, KA⟩ := hcut
  go_upto_region 15 with fail
  have FP := Lib.hid (FPP.out HP.out)
  clear HBad FPP
  refine abs_b (fun y => Hid (BkBox y w.heap.size 1 t (.slice oa n c) val) ∧ Hid (Below w.heap.size w y)) ⟨BX, KA⟩ ?_
  clear BX KA
  rintro z ⟨BX, KZ⟩
  obtain ⟨c0, c1, c2, c3⟩ := BX.out.cells
  by_cases hp : Pl.pairF A = 0
  case neg =>
    have PB := Lib.hid (rPairs_bad _ A hp z (HA.out.below KZ.out))
    have HPN := Lib.hid hp
    have d1 : (Pl.pairF A == 0) = false := beq_eq_false_iff_ne.2 hp
    have d2 : (Pl.pairF A != 0) = true := by simp [hp]
    clear hp
    generalize Pl.pairF A = pf at *
    go_wp2_with (go_at_call 4; (with_reducible refine PB.out.mono ?_); rintro e z3 ⟨rfl, k3⟩; have K3 := Lib.hid (KZ.out.trans (k3.mono KZ.out.size)))
    go_ret2
    exact RBB.bad K3.out _ FP.out HPN.out
  have PB := Lib.hid (rPairs_ok _ A hp z (HA.out.below KZ.out))
  have F0 := Lib.hid (FP.out.trans hp)
  have SQ := Lib.hid (Pl.pairF_all hp)
  have HL2 := Lib.hid hp
  clear hp FP
  go_upto_region 18 with (go_at_call 4; (with_reducible refine PB.out.mono ?_); rintro e z3 ⟨L, oL, cL, rfl, p1, p2, k3⟩; have PL := Lib.hid p1; have PO := Lib.hid p2; have BX3 := Lib.hid (show BkBox z3 w.heap.size 1 t (.slice oa n c) val from Below.heapAt (k3.mono (Nat.le_refl _)) BX.out (lt_of_block BX.out)); have K3 := Lib.hid (KZ.out.trans (k3.mono KZ.out.size)); clear p1 p2 k3)
  clear PB c0 c1 c2 c3
  have hL2 : L.length ≤ 200 := by
    have hle := (Pl.numsOf_len L).1
    have h2 : (Pl.numsOf L).length ≤ A.length := by
      have h3 : Pl.numsOf L = A := rises_eq (PO.out.rises) HP.out fun i => PO.out.mem i
      rw [h3]; exact Nat.le_refl _
    rcases Pl.pairF_cases A with ⟨q, _⟩ | ⟨_, q⟩
    · have := HL2.out; omega
    · omega
  refine abs_b (fun y => Hid (BkBox y w.heap.size 1 t (.slice oa n c) val) ∧ Hid (IsPrs y (.slice oL L.length cL) L) ∧ Hid (Below w.heap.size w y)) ⟨BX3, PL, K3⟩ ?_
  clear BX3 PL K3 BX KZ
  rintro y ⟨BX, PL, KY⟩
  obtain ⟨c0, c1, c2, c3⟩ := BX.out.cells
  obtain ⟨gy, hgy⟩ : ∃ gy, y.heap.size = gy := ⟨_, rfl⟩
  have BT : t = ((Pl.byteAt t 0).toNat : Int) := by have := HT.out; rw [Pl.byteAt_toNat, show (256 : Int) ^ 0 = 1 by decide]; omega
  have BK : (1 : Int) = ((Pl.byteAt 1 0).toNat : Int) := by rw [Pl.byteAt_toNat, show (256 : Int) ^ 0 = 1 by decide]; omega
  have kA : Below gy y (y.alloc (.cells #[.int .u8 1, .int .u8 t] 5)) := (Below.refl _ _).alloc (by omega) _
  have OW : Hid (OwnB (y.alloc (.cells #[.int .u8 1, .int .u8 t] 5)) gy (.slice (some ⟨gy, 0, none⟩) 2 2) [Pl.byteAt 1 0, Pl.byteAt t 0]) := Lib.hid (by rw [← hgy]; exact OwnB.lit y _ _ 2 rfl (by simp [encB, ← BT]; exact BK) (by simp) (Nat.le_refl _))
  have hwg : w.heap.size < gy := by have := lt_of_block BX.out; omega
  have BX4 : Hid (BkBox (y.alloc (.cells #[.int .u8 1, .int .u8 t] 5)) w.heap.size 1 t (.slice oa n c) val) := Lib.hid (Below.heapAt kA BX.out hwg)
  have KA := Lib.hid kA
  have HZS := Lib.hid (show gy ≤ (y.alloc (.cells #[.int .u8 1, .int .u8 t] 5)).heap.size from by simp; omega)
  have HWG := Lib.hid (Nat.le_of_lt hwg)
  clear kA BT BK hwg
  have wt : IntKind.u8.wrap t = t := by have := HT.out; show t % 256 = t; omega
  go_upto_region 19 with fail
  refine abs_b (fun z => Hid (OwnB z gy (.slice (some ⟨gy, 0, none⟩) 2 2) [Pl.byteAt 1 0, Pl.byteAt t 0]) ∧ Hid (BkBox z w.heap.size 1 t (.slice oa n c) val) ∧ Hid (Below gy y z) ∧ Hid (gy ≤ z.heap.size)) ⟨OW, BX4, KA, HZS⟩ ?_
  try rw [hgy]
  clear OW BX4 KA HZS BX c0 c1 c2 c3 wt
  rintro z ⟨OW, BX, KZ, HZS⟩
  obtain ⟨c0, c1, c2, c3⟩ := BX.out.cells
  have KF := Lib.hid (show ∀ (v : Value) (w' : World) (X : List UInt8), X = Pl.backBytes 1 t val L → OwnB w' gy v X → Below gy y w' → RBB w 1 t val A (.returned (.tuple #[v, .int .i64 0])) w' from fun v w' X hX h2 h3 => RBB.good (KY.out.trans (h3.mono HWG.out)) F0.out PO.out (by rw [← hX]; exact h2.mono HWG.out))
  clear F0 HP
  obtain ⟨oL', cL', e', hlL, hcL, -, rL⟩ := prs_read PL.out
  cases e'
  unfold maxLen at hcL
  have RL := Lib.hid (show ∀ u, Below gy y u → ∀ k (hk : k < L.length), ∃ g f, oL = some ⟨g, f, none⟩ ∧ u.cell? ⟨g, f + k * 2, none⟩ = some (.int .i64 L[k].base) ∧ u.cell? ⟨g, f + k * 2 + 1, none⟩ = some (.int .i64 L[k].mask) from fun u kk k hk => by
    obtain ⟨g, f, e, hb, q0, q1, -⟩ := rL k hk
    exact ⟨g, f, e, (kk.cell (p := ⟨g, f + k * 2, none⟩) (by show g < gy; omega)).trans q0, (kk.cell (p := ⟨g, f + k * 2 + 1, none⟩) (by show g < gy; omega)).trans q1⟩)
  have RG := Lib.hid (fun i (hi : i < L.length) => PO.out.ok L[i] (List.getElem_mem _))
  clear rL
  go_upto_region 24 with fail
  clear c0 c1 c2 c3 BX
  go_loopw [8, 9] (fun s8 s9 wr => ∃ i : Nat, i ≤ L.length ∧ s9 = .int .i64 i ∧ Hid (OwnB wr gy s8 ([Pl.byteAt 1 0, Pl.byteAt t 0] ++ Pl.prBytes (L.take i))) ∧ Hid (Below gy y wr) ∧ Hid (gy ≤ wr.heap.size)) (fun _ s9 _ => L.length - (RowKit.intOf s9).toNat)
  case atStart => exact ⟨0, by omega, rfl, by simpa [Pl.prBytes] using OW, KZ, HZS⟩
  case round =>
    as_aux_lemma =>
    clear OW KZ HZS
    obtain ⟨i, hi, rfl, OW, KR, HZ⟩ := hrel
    by_cases hlt : i < L.length
    · have e1 : (i : Int) < (L.length : Int) := by omega
      obtain ⟨g, fo, rfl, q0, q1⟩ := RL.out _ KR.out i hlt
      have QM := Lib.hid (show ∀ u, Below gy y u → u.cell? ⟨g, fo + i * 2 + 1, none⟩ = some (.int .i64 L[i].mask) from fun u kk => by
        obtain ⟨g', f', e, -, q⟩ := RL.out u kk i hlt
        cases e; exact q)
      have PS := Lib.hid (Pl.prBytes_succ hlt)
      obtain ⟨oS, om1, om2, -⟩ := RG.out i hlt
      have hb := SQ.out _ oS
      have hln : ([Pl.byteAt 1 0, Pl.byteAt t 0] ++ Pl.prBytes (L.take i)).length = 2 + 4 * i := by
        rw [List.length_append, Pl.prBytes_len, List.length_take, Nat.min_eq_left hi]; rfl
      generalize L[i] = p at *
      obtain ⟨b, m⟩ := p
      dsimp only at q0 q1 om1 om2 hb PS QM
      obtain ⟨hb1, hb2⟩ := hb
      obtain ⟨X, hX⟩ : ∃ X, [Pl.byteAt 1 0, Pl.byteAt t 0] ++ Pl.prBytes (L.take i) = X := ⟨_, rfl⟩
      have PS2 := Lib.hid (show [Pl.byteAt 1 0, Pl.byteAt t 0] ++ Pl.prBytes (L.take (i + 1)) = (X ++ Pl.putB b 2) ++ Pl.putB m 2 from by rw [PS.out, ← hX]; simp)
      rw [hX] at OW hln
      clear hX PS
      have P1 := Lib.hid (refBytes_two b hb1 (by omega) gy _ X (by omega) wr OW.out HZ.out)
      have HLN := Lib.hid hln
      clear hln
      go_upto_region 27 with (go_at_call 24; (with_reducible refine P1.out.mono ?_); rintro e x1 ⟨v8, rfl, h1, k1⟩; have K1 := Lib.hid (KR.out.trans k1); have Z1 := Lib.hid (Nat.le_trans HZ.out k1.size); have P2 := Lib.hid (refBytes_two m om1 (by omega) gy _ (X ++ Pl.putB b 2) (by rw [List.length_append, Pl.putB_length, HLN.out]; omega) x1 h1 Z1.out); have q2 := QM.out x1 K1.out; clear h1 k1)
      clear P1 q0 q1
      go_wp2_with (go_at_call 24; (with_reducible refine P2.out.mono ?_); rintro e x2 ⟨v9, rfl, h1, k1⟩; have K2 := Lib.hid (K1.out.trans k1); have Z2 := Lib.hid (Nat.le_trans Z1.out k1.size); have OW2 := Lib.hid (show OwnB x2 gy v9 ([Pl.byteAt 1 0, Pl.byteAt t 0] ++ Pl.prBytes (L.take (i + 1))) from by rw [PS2.out]; exact h1); clear h1 k1)
      go_roundw
      case measure => simp only [RowKit.intOf]; omega
      case rel => exact ⟨i + 1, by omega, by simp, OW2, K2, Z2⟩
    · have hie : i = L.length := by omega
      subst hie
      have e1 : ¬ (L.length : Int) < (L.length : Int) := by omega
      rw [List.take_length] at OW
      clear hlt
      go_wp2_with fail
      go_ret2
      exact KF.out _ _ _ (by unfold Pl.backBytes; rw [if_neg (by decide), if_neg (by decide)]) OW.out KR.out
end Go.Proofs.YthbcdpckckellaaDoor

/-! The reference's BackBytes, kind 2. -/
namespace Go.Proofs.YthbcdpckckellaaDoor
open Go.RowKit
set_option linter.unusedVariables false
set_option linter.unusedSimpArgs false
set_option maxRecDepth 100000 in
set_option maxHeartbeats 8000000 in
theorem rBackBytes_mis2 (t val : Int) (oa : Option Addr) (c : Nat) (A : List Int) (w : World) (hA : Sl encI w (.slice oa A.length c) A) (hh : Pl.backHead 2 t val) (hm : 0 < A.length) :
    Calls Tryd.prog 11 #[bkV 2 t (.slice oa A.length c) val] w (RBB w 2 t val A) := by
  have KA : Hid (Below w.heap.size w (w.alloc (.cells #[.int .i64 2, .int .i64 t, .slice oa A.length c, .int .i64 val] 25))) := Lib.hid ((Below.refl _ _).alloc (Nat.le_refl _) _)
  have hA2 := hA.len
  unfold maxLen at hA2
  obtain ⟨n, hn⟩ : ∃ n, A.length = n := ⟨_, rfl⟩
  rw [hn] at hA hA2 KA ⊢
  have HA := Lib.hid hA
  have HNL := Lib.hid hn
  clear hA
  have F3 := Lib.hid (Pl.backF_mis (A := A) hh (.inl (by rw [hn]; omega)))
  have h7 : val ≤ 3 := hh.2.2.2.2.2
  obtain ⟨-, -, h3, h4, h5, -⟩ := hh
  rw [hn] at hm
  clear hn
  have e1 : (0 : Int) < (n : Int) := by omega
  go_enter Tryd.func11, Tryd.ntmps11
  go_upto_region 1 with fail
  have BX : Hid (BkBox (w.alloc (.cells #[.int .i64 2, .int .i64 t, .slice oa n c, .int .i64 val] 25)) w.heap.size 2 t (.slice oa n c) val) := Lib.hid (obj_new _ _)
  refine abs_b (fun y => Hid (BkBox y w.heap.size 2 t (.slice oa n c) val) ∧ Hid (Below w.heap.size w y)) ⟨BX, KA⟩ ?_
  clear BX KA
  rintro y ⟨BX, KA⟩
  obtain ⟨c0, c1, c2, c3⟩ := BX.out.cells
  go_wp2_with fail
  go_ret2
  exact RBB.bad KA.out 3 F3.out (by decide)
set_option maxRecDepth 100000 in
set_option maxHeartbeats 8000000 in
theorem rBackBytes_2 (t val : Int) (oa : Option Addr) (c : Nat) (A : List Int) (w : World) (hA : Sl encI w (.slice oa A.length c) A) (hh : Pl.backHead 2 t val) (hm : A.length = 0) :
    Calls Tryd.prog 11 #[bkV 2 t (.slice oa A.length c) val] w (RBB w 2 t val A) := by
  have KA : Hid (Below w.heap.size w (w.alloc (.cells #[.int .i64 2, .int .i64 t, .slice oa A.length c, .int .i64 val] 25))) := Lib.hid ((Below.refl _ _).alloc (Nat.le_refl _) _)
  have hA2 := hA.len
  unfold maxLen at hA2
  obtain ⟨n, hn⟩ : ∃ n, A.length = n := ⟨_, rfl⟩
  rw [hn] at hA hA2 KA ⊢
  have HA := Lib.hid hA
  have HNL := Lib.hid hn
  clear hA
  have FPP := Lib.hid (fun hp => Pl.backF_pair (A := A) hh (by rw [hn]; omega) hp)
  have HBad := Lib.hid (fun hp => Pl.backF_mis (A := A) hh (.inr hp))
  have h7 : val ≤ 3 := hh.2.2.2.2.2
  have HV := Lib.hid (show 0 ≤ val ∧ val ≤ 3 from ⟨hh.2.2.2.2.1, h7⟩)
  have HT := Lib.hid (show 1 ≤ t ∧ t ≤ 8 from ⟨hh.2.2.1, hh.2.2.2.1⟩)
  obtain ⟨-, -, h3, h4, h5, -⟩ := hh
  rw [hn] at hm
  clear hn
  subst hm
  go_enter Tryd.func11, Tryd.ntmps11
  go_upto_region 1 with fail
  have BX : Hid (BkBox (w.alloc (.cells #[.int .i64 2, .int .i64 t, .slice oa 0 c, .int .i64 val] 25)) w.heap.size 2 t (.slice oa 0 c) val) := Lib.hid (obj_new _ _)
  refine abs_b (fun y => Hid (BkBox y w.heap.size 2 t (.slice oa 0 c) val) ∧ Hid (Below w.heap.size w y)) ⟨BX, KA⟩ ?_
  clear BX KA
  rintro y ⟨BX, KA⟩
  obtain ⟨c0, c1, c2, c3⟩ := BX.out.cells
  go_upto_region 10 with fail
  clear h7 h3 h4 h5
  go_upto_block 0 with fail
  go_cut [5] from 65 to 83 (fun _ z => Hid (BkBox z w.heap.size 2 t (.slice oa 0 c) val) ∧ Hid (Below w.heap.size w z))
  case first =>
    as_aux_lemma =>
    go_upto_region 11 with fail
    go_loopw [5] (fun s5 wr => s5 = .int .i64 1 ∧ Hid (BkBox wr w.heap.size 2 t (.slice oa 0 c) val) ∧ Hid (Below w.heap.size w wr)) (fun s5 _ => 0)
    case atStart => exact ⟨rfl, BX, KA⟩
    case round =>
      clear BX KA c0 c1 c2 c3
      obtain ⟨rfl, BX, KR⟩ := hrel
      obtain ⟨c0, c1, c2, c3⟩ := BX.out.cells
      go_wp2_with fail
      go_meet
      exact ⟨BX, KR⟩
  clear BX KA c0 c1 c2 c3
  obtain ⟨BX, KA⟩ := hcut
  have HP := Lib.hid (show A.Pairwise (fun x y => x < y) from by rw [List.eq_nil_of_length_eq_zero HNL.out]; exact List.Pairwise.nil)
  go_upto_region 15 with fail
  have FP := Lib.hid (FPP.out HP.out)
  clear HBad FPP
  refine abs_b (fun y => Hid (BkBox y w.heap.size 2 t (.slice oa 0 c) val) ∧ Hid (Below w.heap.size w y)) ⟨BX, KA⟩ ?_
  clear BX KA
  rintro z ⟨BX, KZ⟩
  obtain ⟨c0, c1, c2, c3⟩ := BX.out.cells
  by_cases hp : Pl.pairF A = 0
  case neg =>
    have PB := Lib.hid (rPairs_bad _ A hp z (HA.out.below KZ.out))
    have HPN := Lib.hid hp
    have d1 : (Pl.pairF A == 0) = false := beq_eq_false_iff_ne.2 hp
    have d2 : (Pl.pairF A != 0) = true := by simp [hp]
    clear hp
    generalize Pl.pairF A = pf at *
    go_wp2_with (go_at_call 4; (with_reducible refine PB.out.mono ?_); rintro e z3 ⟨rfl, k3⟩; have K3 := Lib.hid (KZ.out.trans (k3.mono KZ.out.size)))
    go_ret2
    exact RBB.bad K3.out _ FP.out HPN.out
  have PB := Lib.hid (rPairs_ok _ A hp z (HA.out.below KZ.out))
  have F0 := Lib.hid (FP.out.trans hp)
  have SQ := Lib.hid (Pl.pairF_all hp)
  have HL2 := Lib.hid hp
  clear hp FP
  go_upto_region 18 with (go_at_call 4; (with_reducible refine PB.out.mono ?_); rintro e z3 ⟨L, oL, cL, rfl, p1, p2, k3⟩; have PL := Lib.hid p1; have PO := Lib.hid p2; have BX3 := Lib.hid (show BkBox z3 w.heap.size 2 t (.slice oa 0 c) val from Below.heapAt (k3.mono (Nat.le_refl _)) BX.out (lt_of_block BX.out)); have K3 := Lib.hid (KZ.out.trans (k3.mono KZ.out.size)); clear p1 p2 k3)
  clear PB c0 c1 c2 c3
  have hL2 : L.length ≤ 200 := by
    have hle := (Pl.numsOf_len L).1
    have h2 : (Pl.numsOf L).length ≤ A.length := by
      have h3 : Pl.numsOf L = A := rises_eq (PO.out.rises) HP.out fun i => PO.out.mem i
      rw [h3]; exact Nat.le_refl _
    rcases Pl.pairF_cases A with ⟨q, _⟩ | ⟨_, q⟩
    · have := HL2.out; omega
    · omega
  refine abs_b (fun y => Hid (BkBox y w.heap.size 2 t (.slice oa 0 c) val) ∧ Hid (IsPrs y (.slice oL L.length cL) L) ∧ Hid (Below w.heap.size w y)) ⟨BX3, PL, K3⟩ ?_
  clear BX3 PL K3 BX KZ
  rintro y ⟨BX, PL, KY⟩
  obtain ⟨c0, c1, c2, c3⟩ := BX.out.cells
  obtain ⟨gy, hgy⟩ : ∃ gy, y.heap.size = gy := ⟨_, rfl⟩
  have BT : t = ((Pl.byteAt t 0).toNat : Int) := by have := HT.out; rw [Pl.byteAt_toNat, show (256 : Int) ^ 0 = 1 by decide]; omega
  have BK : (2 : Int) = ((Pl.byteAt 2 0).toNat : Int) := by rw [Pl.byteAt_toNat, show (256 : Int) ^ 0 = 1 by decide]; omega
  have kA : Below gy y (y.alloc (.cells #[.int .u8 2, .int .u8 t] 5)) := (Below.refl _ _).alloc (by omega) _
  have OW : Hid (OwnB (y.alloc (.cells #[.int .u8 2, .int .u8 t] 5)) gy (.slice (some ⟨gy, 0, none⟩) 2 2) [Pl.byteAt 2 0, Pl.byteAt t 0]) := Lib.hid (by rw [← hgy]; exact OwnB.lit y _ _ 2 rfl (by simp [encB, ← BT]; exact BK) (by simp) (Nat.le_refl _))
  have hwg : w.heap.size < gy := by have := lt_of_block BX.out; omega
  have BX4 : Hid (BkBox (y.alloc (.cells #[.int .u8 2, .int .u8 t] 5)) w.heap.size 2 t (.slice oa 0 c) val) := Lib.hid (Below.heapAt kA BX.out hwg)
  have KA := Lib.hid kA
  have HZS := Lib.hid (show gy ≤ (y.alloc (.cells #[.int .u8 2, .int .u8 t] 5)).heap.size from by simp; omega)
  have HWG := Lib.hid (Nat.le_of_lt hwg)
  clear kA BT BK hwg
  have wt : IntKind.u8.wrap t = t := by have := HT.out; show t % 256 = t; omega
  go_upto_region 19 with fail
  refine abs_b (fun z => Hid (OwnB z gy (.slice (some ⟨gy, 0, none⟩) 2 2) [Pl.byteAt 2 0, Pl.byteAt t 0]) ∧ Hid (BkBox z w.heap.size 2 t (.slice oa 0 c) val) ∧ Hid (Below gy y z) ∧ Hid (gy ≤ z.heap.size)) ⟨OW, BX4, KA, HZS⟩ ?_
  try rw [hgy]
  clear OW BX4 KA HZS BX c0 c1 c2 c3 wt
  rintro z ⟨OW, BX, KZ, HZS⟩
  obtain ⟨c0, c1, c2, c3⟩ := BX.out.cells
  have KF := Lib.hid (show ∀ (v : Value) (w' : World) (X : List UInt8), X = Pl.backBytes 2 t val L → OwnB w' gy v X → Below gy y w' → RBB w 2 t val A (.returned (.tuple #[v, .int .i64 0])) w' from fun v w' X hX h2 h3 => RBB.good (KY.out.trans (h3.mono HWG.out)) F0.out PO.out (by rw [← hX]; exact h2.mono HWG.out))
  clear F0 HP
  have BV : val = ((Pl.byteAt val 0).toNat : Int) := by have := HV.out; rw [Pl.byteAt_toNat, show (256 : Int) ^ 0 = 1 by decide]; omega
  have wv : IntKind.u8.wrap val = val := by have := HV.out; show val % 256 = val; omega
  have kB : Below gy z (z.alloc (.cells #[.int .u8 val] 5)) := (Below.refl _ _).alloc HZS.out _
  obtain ⟨v', w', hr, ho, hg⟩ := run_append_bytes (base := gy) (l2 := [Pl.byteAt val 0]) (src := .slice (some ⟨z.heap.size, 0, none⟩) 1 1) (z.alloc (.cells #[.int .u8 val] 5)) (OwnB.alloc OW.out _) (Sl.own (obj_new _ _) (by simp) (Nat.le_refl _) (by unfold maxLen; omega) (fun j hj => by simp at hj; subst hj; simp [encB, ← BV])) (by have := HZS.out; simp; omega) (by simp)
  have HR := Lib.hid hr
  have HO := Lib.hid (show OwnB w' gy v' (Pl.backBytes 2 t val L) from ho)
  have HKK := Lib.hid ((KZ.out.trans kB).grown hg (Nat.le_trans HZS.out (kB.size)) (fun k e => (World.ownsRow.lt OW.out k e).1))
  clear hr ho hg kB BV
  go_wp2_with (at_builtin; refine Lib.wpList_append_run _ rfl (.tmp 103) (.tmp 107) 26 26 rfl _ _ rfl rfl _ _ HR.out ?_)
  go_ret2
  exact KF.out _ _ _ rfl HO.out HKK.out
end Go.Proofs.YthbcdpckckellaaDoor

/-! The reference's BackBytes, kind 3. -/
namespace Go.Proofs.YthbcdpckckellaaDoor
open Go.RowKit
set_option linter.unusedVariables false
set_option linter.unusedSimpArgs false
set_option maxRecDepth 100000 in
set_option maxHeartbeats 8000000 in
theorem rBackBytes_mis3 (t val : Int) (oa : Option Addr) (c : Nat) (A : List Int) (w : World) (hA : Sl encI w (.slice oa A.length c) A) (hh : Pl.backHead 3 t val) (hm : 0 < A.length) :
    Calls Tryd.prog 11 #[bkV 3 t (.slice oa A.length c) val] w (RBB w 3 t val A) := by
  have KA : Hid (Below w.heap.size w (w.alloc (.cells #[.int .i64 3, .int .i64 t, .slice oa A.length c, .int .i64 val] 25))) := Lib.hid ((Below.refl _ _).alloc (Nat.le_refl _) _)
  have hA2 := hA.len
  unfold maxLen at hA2
  obtain ⟨n, hn⟩ : ∃ n, A.length = n := ⟨_, rfl⟩
  rw [hn] at hA hA2 KA ⊢
  have HA := Lib.hid hA
  have HNL := Lib.hid hn
  clear hA
  have F3 := Lib.hid (Pl.backF_mis (A := A) hh (.inl (by rw [hn]; omega)))
  have h7 : val ≤ 1000000 := hh.2.2.2.2.2
  obtain ⟨-, -, h3, h4, h5, -⟩ := hh
  rw [hn] at hm
  clear hn
  have e1 : (0 : Int) < (n : Int) := by omega
  go_enter Tryd.func11, Tryd.ntmps11
  go_upto_region 1 with fail
  have BX : Hid (BkBox (w.alloc (.cells #[.int .i64 3, .int .i64 t, .slice oa n c, .int .i64 val] 25)) w.heap.size 3 t (.slice oa n c) val) := Lib.hid (obj_new _ _)
  refine abs_b (fun y => Hid (BkBox y w.heap.size 3 t (.slice oa n c) val) ∧ Hid (Below w.heap.size w y)) ⟨BX, KA⟩ ?_
  clear BX KA
  rintro y ⟨BX, KA⟩
  obtain ⟨c0, c1, c2, c3⟩ := BX.out.cells
  go_wp2_with fail
  go_ret2
  exact RBB.bad KA.out 3 F3.out (by decide)
set_option maxRecDepth 100000 in
set_option maxHeartbeats 8000000 in
theorem rBackBytes_3 (t val : Int) (oa : Option Addr) (c : Nat) (A : List Int) (w : World) (hA : Sl encI w (.slice oa A.length c) A) (hh : Pl.backHead 3 t val) (hm : A.length = 0) :
    Calls Tryd.prog 11 #[bkV 3 t (.slice oa A.length c) val] w (RBB w 3 t val A) := by
  have KA : Hid (Below w.heap.size w (w.alloc (.cells #[.int .i64 3, .int .i64 t, .slice oa A.length c, .int .i64 val] 25))) := Lib.hid ((Below.refl _ _).alloc (Nat.le_refl _) _)
  have hA2 := hA.len
  unfold maxLen at hA2
  obtain ⟨n, hn⟩ : ∃ n, A.length = n := ⟨_, rfl⟩
  rw [hn] at hA hA2 KA ⊢
  have HA := Lib.hid hA
  have HNL := Lib.hid hn
  clear hA
  have FPP := Lib.hid (fun hp => Pl.backF_pair (A := A) hh (by rw [hn]; omega) hp)
  have HBad := Lib.hid (fun hp => Pl.backF_mis (A := A) hh (.inr hp))
  have h7 : val ≤ 1000000 := hh.2.2.2.2.2
  have HV := Lib.hid (show 0 ≤ val ∧ val ≤ 1000000 from ⟨hh.2.2.2.2.1, h7⟩)
  have HT := Lib.hid (show 1 ≤ t ∧ t ≤ 8 from ⟨hh.2.2.1, hh.2.2.2.1⟩)
  obtain ⟨-, -, h3, h4, h5, -⟩ := hh
  rw [hn] at hm
  clear hn
  subst hm
  go_enter Tryd.func11, Tryd.ntmps11
  go_upto_region 1 with fail
  have BX : Hid (BkBox (w.alloc (.cells #[.int .i64 3, .int .i64 t, .slice oa 0 c, .int .i64 val] 25)) w.heap.size 3 t (.slice oa 0 c) val) := Lib.hid (obj_new _ _)
  refine abs_b (fun y => Hid (BkBox y w.heap.size 3 t (.slice oa 0 c) val) ∧ Hid (Below w.heap.size w y)) ⟨BX, KA⟩ ?_
  clear BX KA
  rintro y ⟨BX, KA⟩
  obtain ⟨c0, c1, c2, c3⟩ := BX.out.cells
  go_upto_region 10 with fail
  clear h7 h3 h4 h5
  go_upto_block 0 with fail
  go_cut [5] from 65 to 83 (fun _ z => Hid (BkBox z w.heap.size 3 t (.slice oa 0 c) val) ∧ Hid (Below w.heap.size w z))
  case first =>
    as_aux_lemma =>
    go_upto_region 11 with fail
    go_loopw [5] (fun s5 wr => s5 = .int .i64 1 ∧ Hid (BkBox wr w.heap.size 3 t (.slice oa 0 c) val) ∧ Hid (Below w.heap.size w wr)) (fun s5 _ => 0)
    case atStart => exact ⟨rfl, BX, KA⟩
    case round =>
      clear BX KA c0 c1 c2 c3
      obtain ⟨rfl, BX, KR⟩ := hrel
      obtain ⟨c0, c1, c2, c3⟩ := BX.out.cells
      go_wp2_with fail
      go_meet
      exact ⟨BX, KR⟩
  clear BX KA c0 c1 c2 c3
  obtain ⟨BX, KA⟩ := hcut
  have HP := Lib.hid (show A.Pairwise (fun x y => x < y) from by rw [List.eq_nil_of_length_eq_zero HNL.out]; exact List.Pairwise.nil)
  go_upto_region 15 with fail
  have FP := Lib.hid (FPP.out HP.out)
  clear HBad FPP
  refine abs_b (fun y => Hid (BkBox y w.heap.size 3 t (.slice oa 0 c) val) ∧ Hid (Below w.heap.size w y)) ⟨BX, KA⟩ ?_
  clear BX KA
  rintro z ⟨BX, KZ⟩
  obtain ⟨c0, c1, c2, c3⟩ := BX.out.cells
  by_cases hp : Pl.pairF A = 0
  case neg =>
    have PB := Lib.hid (rPairs_bad _ A hp z (HA.out.below KZ.out))
    have HPN := Lib.hid hp
    have d1 : (Pl.pairF A == 0) = false := beq_eq_false_iff_ne.2 hp
    have d2 : (Pl.pairF A != 0) = true := by simp [hp]
    clear hp
    generalize Pl.pairF A = pf at *
    go_wp2_with (go_at_call 4; (with_reducible refine PB.out.mono ?_); rintro e z3 ⟨rfl, k3⟩; have K3 := Lib.hid (KZ.out.trans (k3.mono KZ.out.size)))
    go_ret2
    exact RBB.bad K3.out _ FP.out HPN.out
  have PB := Lib.hid (rPairs_ok _ A hp z (HA.out.below KZ.out))
  have F0 := Lib.hid (FP.out.trans hp)
  have SQ := Lib.hid (Pl.pairF_all hp)
  have HL2 := Lib.hid hp
  clear hp FP
  go_upto_region 18 with (go_at_call 4; (with_reducible refine PB.out.mono ?_); rintro e z3 ⟨L, oL, cL, rfl, p1, p2, k3⟩; have PL := Lib.hid p1; have PO := Lib.hid p2; have BX3 := Lib.hid (show BkBox z3 w.heap.size 3 t (.slice oa 0 c) val from Below.heapAt (k3.mono (Nat.le_refl _)) BX.out (lt_of_block BX.out)); have K3 := Lib.hid (KZ.out.trans (k3.mono KZ.out.size)); clear p1 p2 k3)
  clear PB c0 c1 c2 c3
  have hL2 : L.length ≤ 200 := by
    have hle := (Pl.numsOf_len L).1
    have h2 : (Pl.numsOf L).length ≤ A.length := by
      have h3 : Pl.numsOf L = A := rises_eq (PO.out.rises) HP.out fun i => PO.out.mem i
      rw [h3]; exact Nat.le_refl _
    rcases Pl.pairF_cases A with ⟨q, _⟩ | ⟨_, q⟩
    · have := HL2.out; omega
    · omega
  refine abs_b (fun y => Hid (BkBox y w.heap.size 3 t (.slice oa 0 c) val) ∧ Hid (IsPrs y (.slice oL L.length cL) L) ∧ Hid (Below w.heap.size w y)) ⟨BX3, PL, K3⟩ ?_
  clear BX3 PL K3 BX KZ
  rintro y ⟨BX, PL, KY⟩
  obtain ⟨c0, c1, c2, c3⟩ := BX.out.cells
  obtain ⟨gy, hgy⟩ : ∃ gy, y.heap.size = gy := ⟨_, rfl⟩
  have BT : t = ((Pl.byteAt t 0).toNat : Int) := by have := HT.out; rw [Pl.byteAt_toNat, show (256 : Int) ^ 0 = 1 by decide]; omega
  have BK : (3 : Int) = ((Pl.byteAt 3 0).toNat : Int) := by rw [Pl.byteAt_toNat, show (256 : Int) ^ 0 = 1 by decide]; omega
  have kA : Below gy y (y.alloc (.cells #[.int .u8 3, .int .u8 t] 5)) := (Below.refl _ _).alloc (by omega) _
  have OW : Hid (OwnB (y.alloc (.cells #[.int .u8 3, .int .u8 t] 5)) gy (.slice (some ⟨gy, 0, none⟩) 2 2) [Pl.byteAt 3 0, Pl.byteAt t 0]) := Lib.hid (by rw [← hgy]; exact OwnB.lit y _ _ 2 rfl (by simp [encB, ← BT]; exact BK) (by simp) (Nat.le_refl _))
  have hwg : w.heap.size < gy := by have := lt_of_block BX.out; omega
  have BX4 : Hid (BkBox (y.alloc (.cells #[.int .u8 3, .int .u8 t] 5)) w.heap.size 3 t (.slice oa 0 c) val) := Lib.hid (Below.heapAt kA BX.out hwg)
  have KA := Lib.hid kA
  have HZS := Lib.hid (show gy ≤ (y.alloc (.cells #[.int .u8 3, .int .u8 t] 5)).heap.size from by simp; omega)
  have HWG := Lib.hid (Nat.le_of_lt hwg)
  clear kA BT BK hwg
  have wt : IntKind.u8.wrap t = t := by have := HT.out; show t % 256 = t; omega
  go_upto_region 19 with fail
  refine abs_b (fun z => Hid (OwnB z gy (.slice (some ⟨gy, 0, none⟩) 2 2) [Pl.byteAt 3 0, Pl.byteAt t 0]) ∧ Hid (BkBox z w.heap.size 3 t (.slice oa 0 c) val) ∧ Hid (Below gy y z) ∧ Hid (gy ≤ z.heap.size)) ⟨OW, BX4, KA, HZS⟩ ?_
  try rw [hgy]
  clear OW BX4 KA HZS BX c0 c1 c2 c3 wt
  rintro z ⟨OW, BX, KZ, HZS⟩
  obtain ⟨c0, c1, c2, c3⟩ := BX.out.cells
  have KF := Lib.hid (show ∀ (v : Value) (w' : World) (X : List UInt8), X = Pl.backBytes 3 t val L → OwnB w' gy v X → Below gy y w' → RBB w 3 t val A (.returned (.tuple #[v, .int .i64 0])) w' from fun v w' X hX h2 h3 => RBB.good (KY.out.trans (h3.mono HWG.out)) F0.out PO.out (by rw [← hX]; exact h2.mono HWG.out))
  clear F0 HP
  have hv4 : val ≤ 4294967295 := by have := HV.out; omega
  have P4 := Lib.hid (refBytes_four val HV.out.1 hv4 gy _ [Pl.byteAt 3 0, Pl.byteAt t 0] (by simp) z OW.out HZS.out)
  clear hv4
  go_wp2_with (go_at_call 24; (with_reducible refine P4.out.mono ?_); rintro e x2 ⟨v9, rfl, h1, k1⟩; have K2 := Lib.hid (KZ.out.trans k1); have HO := Lib.hid (show OwnB x2 gy v9 (Pl.backBytes 3 t val L) from h1); clear h1 k1)
  go_ret2
  exact KF.out _ _ _ rfl HO.out K2.out
end Go.Proofs.YthbcdpckckellaaDoor

/-! The reference's BackBytes. -/
namespace Go.Proofs.YthbcdpckckellaaDoor
open Go.RowKit
set_option linter.unusedVariables false
set_option linter.unusedSimpArgs false
theorem rBackBytes_any (k t val : Int) (oa : Option Addr) (c : Nat) (A : List Int) (w : World) (hA : Sl encI w (.slice oa A.length c) A) :
    Calls Tryd.prog 11 #[bkV k t (.slice oa A.length c) val] w (RBB w k t val A) := by
  by_cases hh : Pl.backHead k t val
  · have hk : k = 1 ∨ k = 2 ∨ k = 3 := by have h1 := hh.1; have h2 := hh.2.1; omega
    rcases Nat.eq_zero_or_pos A.length with hn | hn
    · rcases hk with rfl | rfl | rfl
      · exact rBackBytes_mis1 t val oa c A w hA hh hn
      · exact rBackBytes_2 t val oa c A w hA hh hn
      · exact rBackBytes_3 t val oa c A w hA hh hn
    · rcases hk with rfl | rfl | rfl
      · exact rBackBytes_1 t val oa c A w hA hh hn
      · exact rBackBytes_mis2 t val oa c A w hA hh hn
      · exact rBackBytes_mis3 t val oa c A w hA hh hn
  · exact rBackBytes_head k t val oa c A w hA hh
end Go.Proofs.YthbcdpckckellaaDoor

/-! A region that draws, operation by operation. -/
namespace Go.Proofs.YthbcdpckckellaaDoor
open Go.RowKit
set_option linter.unusedVariables false
set_option linter.unusedSimpArgs false
theorem region_to {P : Program} {c : Code} {Q : Exit → Act → World → Prop} {a : Act} {w : World} (h : ∀ K : Act → World → Prop, (∀ a' w', Q .normal a' w' → K a' w') → c.wp P (fun e a' w' => e = .normal ∧ K a' w') a w) : c.wp P Q a w :=
  wp_mono (h (fun a' w' => Q .normal a' w') (fun _ _ q => q)) (fun e a' w' ⟨h1, h2⟩ => by subst h1; exact h2)
theorem yields_free {P : Program} {ops : Array Oper} {o : Oper} {v : Value} {a : Act} (hg : o.guard = none) (h : ∀ w, (execOp a.eval o).run P w = .ok (.value v) w) : Yields P ops o v a := .inl ⟨by simp [Region.wanted, hg], h⟩
theorem wpAny_abs {P : Program} {md : Region.Mode} {ops : Array Oper} {Q : Exit → Act → World → Prop} {fuel : Nat} {listed : Array Bool} {a : Act} {w : World} (h : ∀ K : Act → Prop, (∀ a', wpAny P md ops Q fuel listed a' w → K a') → K a) : wpAny P md ops Q fuel listed a w := h _ (fun _ q => q)
theorem wpAny_one {P : Program} {md : Region.Mode} {ops : Array Oper} {Q : Exit → Act → World → Prop} {fuel : Nat} {listed : Array Bool} {a : Act} {w : World} {i : Nat} {o : Oper} (hr : Region.ready md ops listed = [i]) (ho : ops[i]? = some o)
    (h : ∀ K : Act → Prop, (∀ a, wpAny P md ops Q fuel (listed.setIfInBounds i true) a w → K a) → if Region.wanted o (yielded ops a.tmps) = true then o.still P a w K else K (a.put o.dst undef)) : wpAny P md ops Q (fuel + 1) listed a w := by
  refine ⟨(fun h0 => by rw [hr] at h0; cases h0), fun j hj => ?_⟩
  rw [hr] at hj
  obtain rfl : j = i := by simpa using hj
  refine wpOp_of_stOp (K := fun a' => wpAny P md ops Q fuel (listed.setIfInBounds j true) a' w) (fun _ q => q) ?_
  unfold stOp
  simp only [ho]
  exact h _ (fun _ q => q)
theorem stepS_append_run {P : Program} {ops : Array Oper} {o : Oper} {a : Act} {w : World} {K : Act → World → Prop} {Q : Exit → Act → World → Prop} {E : Prop} (hgd : o.guard = none) (s x : Operand) (t tn : TypeId)
    (hop : o.op = .call { callee := .builtin .append, args := #[s, x], argTypes := #[t, tn] }) (vs vx : Value) (hs : a.eval s = vs) (hx : a.eval x = vx)
    (v' : Value) (w' : World) (hr : (Builtin.append_ #[t, tn] o.type #[vs, vx]).run P w = .ok v' w') (h : K (a.put o.dst v') w') :
    if Region.wanted o (yielded ops a.tmps) = true then Oper.wp P o a w K Q else E := by
  have hw : Region.wanted o (yielded ops a.tmps) = true := by simp [Region.wanted, hgd]
  rw [if_pos hw]
  unfold Oper.wp
  simp [execOp, hop, resolve, invoke, builtin, hs, hx, hr, Result.andThen]
  exact h
end Go.Proofs.YthbcdpckckellaaDoor

/-! The reference's ReadBack. -/
namespace Go.Proofs.YthbcdpckckellaaDoor
open Go.RowKit
set_option linter.unusedVariables false
set_option linter.unusedSimpArgs false
/-- what ReadBack hands out -/
def RReadBE (n₀ : Nat) (l : List UInt8) (w : World) (e : Ending) (w' : World) : Prop :=
  Below n₀ w w' ∧ if l.length < Pl.rdSize l then e = .returned (.tuple #[bkV 0 0 (.slice none 0 0) 0, .int .i64 8]) else
    ∃ (k t : Int) (A : List Int) (val : Int), Pl.RdX l k t A val ∧
      (((Pl.backF k t val A ≠ 0 ∨ (Pl.backF k t val A = 0 ∧ ∃ L, Pl.PairsOf (· ∈ A) L ∧ Pl.backBytes k t val L ≠ l)) ∧ e = .returned (.tuple #[bkV 0 0 (.slice none 0 0) 0, .int .i64 2])) ∨
       (Pl.backF k t val A = 0 ∧ (∃ L, Pl.PairsOf (· ∈ A) L ∧ Pl.backBytes k t val L = l) ∧ ∃ (oa : Option Addr) (c : Nat), e = .returned (.tuple #[bkV k t (.slice oa A.length c) val, .int .i64 0]) ∧ Sl encI w' (.slice oa A.length c) A))
theorem RReadBE.short {n₀ : Nat} {l : List UInt8} {w w' : World} (hs : l.length < Pl.rdSize l) (hb : Below n₀ w w') : RReadBE n₀ l w (.returned (.tuple #[bkV 0 0 (.slice none 0 0) 0, .int .i64 8])) w' := ⟨hb, by rw [if_pos hs]⟩
theorem RReadBE.bad {n₀ : Nat} {l : List UInt8} {w w' : World} {k t val : Int} {A : List Int} (hs : ¬ l.length < Pl.rdSize l) (h : Pl.RdX l k t A val) (hb : Below n₀ w w') (hF : Pl.backF k t val A ≠ 0 ∨ (Pl.backF k t val A = 0 ∧ ∃ L, Pl.PairsOf (· ∈ A) L ∧ Pl.backBytes k t val L ≠ l)) : RReadBE n₀ l w (.returned (.tuple #[bkV 0 0 (.slice none 0 0) 0, .int .i64 2])) w' :=
  ⟨hb, by rw [if_neg hs]; exact ⟨k, t, A, val, h, .inl ⟨hF, rfl⟩⟩⟩
theorem RReadBE.good {n₀ : Nat} {l : List UInt8} {w w' : World} {k t val : Int} {A : List Int} (hs : ¬ l.length < Pl.rdSize l) (h : Pl.RdX l k t A val) (hb : Below n₀ w w') (hF : Pl.backF k t val A = 0) {L : List Pr} (hL : Pl.PairsOf (· ∈ A) L) (he : l = Pl.backBytes k t val L) (oa : Option Addr) (c : Nat) (hA : Sl encI w' (.slice oa A.length c) A) : RReadBE n₀ l w (.returned (.tuple #[bkV k t (.slice oa A.length c) val, .int .i64 0])) w' :=
  ⟨hb, by rw [if_neg hs]; exact ⟨k, t, A, val, h, .inr ⟨hF, ⟨L, hL, he.symm⟩, oa, c, rfl, hA⟩⟩⟩
theorem rNums_bad (v : Value) (L : List Pr) (hL : Pl.numF L ≠ 0) (w : World) (h : IsPrs w v L) :
    Calls Tryd.prog 8 #[v] w fun e w' => e = .returned (.tuple #[.slice none 0 0, .int .i64 (Pl.numF L)]) ∧ Below w.heap.size w w' := by
  rcases Pl.numF_cases L with ⟨h1, h2⟩ | ⟨h1, h2⟩
  · refine (rNums_full v L h2 w h).mono fun e w' ⟨a, b⟩ => ⟨by rw [a, h1], by subst b; exact Below.refl _ _⟩
  · refine (rNums_1 v L h2 w h).mono fun e w' ⟨a, b⟩ => ?_
    rcases b with ⟨b1, b2⟩ | ⟨b1, _⟩
    · exact ⟨by rw [b2, b1], a⟩
    · exact absurd b1 hL
theorem rNums_ok (v : Value) (L : List Pr) (hL : Pl.numF L = 0) (w : World) (h : IsPrs w v L) :
    Calls Tryd.prog 8 #[v] w fun e w' => ∃ (R : List Int) (oa : Option Addr) (c : Nat), e = .returned (.tuple #[.slice oa R.length c, .int .i64 0]) ∧ IRow w' w.heap.size (.slice oa R.length c) R ∧ Rises R ∧ (∀ i, i ∈ R ↔ i ∈ Pl.numsOf L) ∧ Below w.heap.size w w' := by
  rcases Pl.numF_cases L with ⟨h1, h2⟩ | ⟨h1, h2⟩
  · rw [h1] at hL; cases hL
  · refine (rNums_1 v L h2 w h).mono fun e w' ⟨a, b⟩ => ?_
    rcases b with ⟨b1, _⟩ | ⟨_, v', b2, R, b3, b4, b5⟩
    · rw [b1] at hL; cases hL
    · obtain ⟨oa, c, rfl, -⟩ := intRow_read b3
      exact ⟨R, oa, c, b2, b3, b4, b5, a⟩
theorem Pl.prsOf_len (l : List UInt8) : (Pl.prsOf l).length = (l.length - 2) / 4 := by unfold Pl.prsOf; simp
theorem Pl.prsOf_at (l : List UInt8) (j : Nat) (hj : j < (l.length - 2) / 4) : (Pl.prsOf l).take (j + 1) = (Pl.prsOf l).take j ++ [Pl.prAt l j] := by
  have h : j < (Pl.prsOf l).length := by rw [Pl.prsOf_len]; exact hj
  have e : (Pl.prsOf l)[j] = Pl.prAt l j := by simp [Pl.prsOf]
  rw [take_next _ j h, e]
theorem Pl.getB_two (l : List UInt8) (h : l.length ≤ 2) : 0 ≤ Pl.getB l ∧ Pl.getB l ≤ 65535 := by
  obtain ⟨h1, h2⟩ := Pl.getB_bd l
  have : (256 : Int) ^ l.length ≤ 65536 := by
    have h3 : l.length = 0 ∨ l.length = 1 ∨ l.length = 2 := by omega
    rcases h3 with h3 | h3 | h3 <;> rw [h3] <;> decide
  omega
theorem Pl.prsOf_num (l : List UInt8) : ∀ x ∈ Pl.prsOf l, x.Num := fun x hx => by
  unfold Pl.prsOf at hx
  obtain ⟨j, _, rfl⟩ := List.mem_map.1 hx
  have h1 := Pl.getB_two (((l.drop (2 + j * 4)).take 4).take 2) (by simp; omega)
  have h2 := Pl.getB_two (((l.drop (2 + j * 4)).take 4).drop 2) (by simp; omega)
  unfold Pr.Num Pl.prAt
  dsimp only
  omega
theorem ba_ne (a b : ByteArray) (h : a ≠ b) : (a.toList == b.toList) = false := by
  refine beq_eq_false_iff_ne.2 fun e => h ?_
  rw [ByteArray.toList_eq, ByteArray.toList_eq] at e
  have h2 : a.data = b.data := Array.toList_inj.1 e
  cases a; cases b; simp_all
theorem rset4_ne (w : World) (N D : Nat) (h : D ≠ N) (a b c d : Value) : ((((w.setCell ⟨N, 0, none⟩ a).setCell ⟨N, 1, none⟩ b).setCell ⟨N, 2, none⟩ c).setCell ⟨N, 3, none⟩ d).heap[D]? = w.heap[D]? := by
  rw [Below.heap_setCell _ _ _ _ h, Below.heap_setCell _ _ _ _ h, Below.heap_setCell _ _ _ _ h, Below.heap_setCell _ _ _ _ h]
theorem rset4_sl {w : World} {N : Nat} {v : Value} {A : List Int} (h : Sl encI w v A) (hb : ∀ b f c, v = .slice (some ⟨b, f, none⟩) A.length c → A ≠ [] → b ≠ N) (a b c d : Value) : Sl encI ((((w.setCell ⟨N, 0, none⟩ a).setCell ⟨N, 1, none⟩ b).setCell ⟨N, 2, none⟩ c).setCell ⟨N, 3, none⟩ d) v A := by
  rcases h with h | ⟨b', f', c', rfl, h1, h2, h3⟩
  · exact .inl h
  · refine .inr ⟨b', f', c', rfl, h1, h2, fun i hi => ?_⟩
    have hne := hb b' f' c' rfl (by intro e; rw [e] at hi; simp at hi)
    rw [World.cell?_of_block (w := w) (a := ⟨b', f' + i, none⟩) (rset4_ne w N b' hne a b c d)]
    exact h3 i hi
/-- the results are stored, and the call returns -/
theorem rd_zero {w z : World} {N : Nat} (BZ : BkBox z N 0 0 (.slice none 0 0) 0) (KZ : Below N w z) :
    BkBox ((((z.setCell ⟨N, 0, none⟩ (.int .i64 0)).setCell ⟨N, 1, none⟩ (.int .i64 0)).setCell ⟨N, 2, none⟩ (.slice none 0 0)).setCell ⟨N, 3, none⟩ (.int .i64 0)) N 0 0 (.slice none 0 0) 0 ∧
    Below N w ((((z.setCell ⟨N, 0, none⟩ (.int .i64 0)).setCell ⟨N, 1, none⟩ (.int .i64 0)).setCell ⟨N, 2, none⟩ (.slice none 0 0)).setCell ⟨N, 3, none⟩ (.int .i64 0)) :=
  ⟨bk_zero BZ 0 0 _ 0, bk_kb KZ (Nat.le_refl N) _ _ _ _⟩
set_option maxRecDepth 100000 in
set_option maxHeartbeats 16000000 in
theorem rRead_long (v : Value) (l : List UInt8) (w : World) (hv : IsBytes w v l) (hl : l.length ≤ 2000000) (h2 : 2 ≤ l.length) :
    Calls Tryd.prog 13 #[v] w (RReadBE w.heap.size l w) := by
  obtain ⟨b, off, cap, rfl, hlc, hcm, _⟩ := bytes_long hv (by omega)
  unfold maxLen at hcm
  have kA : Below w.heap.size w (w.alloc (.cells #[.int .i64 0, .int .i64 0, .slice none 0 0, .int .i64 0] 25)) := (Below.refl _ _).alloc (Nat.le_refl _) _
  have HV := Lib.hid hv
  have e1 : ¬ (l.length : Int) < 2 := by omega
  clear hv
  go_enter Tryd.func13, Tryd.ntmps13
  go_upto_region 3 with fail
  obtain ⟨N, hN⟩ : ∃ N, w.heap.size = N := ⟨_, rfl⟩
  have BX : Hid (BkBox (w.alloc (.cells #[.int .i64 0, .int .i64 0, .slice none 0 0, .int .i64 0] 25)) N 0 0 (.slice none 0 0) 0) := Lib.hid (by rw [← hN]; exact obj_new _ _)
  refine abs_b (fun y => Hid (BkBox y N 0 0 (.slice none 0 0) 0) ∧ Hid (Below N w y)) ⟨BX, Lib.hid (by rw [← hN]; exact kA)⟩ ?_
  try rw [hN]
  have HN := Lib.hid hN
  clear BX kA hN e1
  rintro y ⟨BX, KY⟩
  have HVY := Lib.hid (HV.out.below (by rw [HN.out]; exact KY.out))
  have c0 := bytes_at HVY.out 0 (by omega)
  have c1 := bytes_at HVY.out 1 (by omega)
  rw [Nat.add_zero] at c0
  have i0 : (0 : Int) < (l.length : Int) := by omega
  have i1 : (1 : Int) < (l.length : Int) := by omega
  obtain ⟨x0, hx0⟩ : ∃ x, l.getD 0 0 = x := ⟨_, rfl⟩
  obtain ⟨x1, hx1⟩ : ∃ x, l.getD 1 0 = x := ⟨_, rfl⟩
  rw [hx0] at c0
  rw [hx1] at c1
  have HX0 := Lib.hid hx0
  have HX1 := Lib.hid hx1
  have z0 : encB x0 = .int .u8 (x0.toNat : Int) := rfl
  have z1 : encB x1 = .int .u8 (x1.toNat : Int) := rfl
  rw [z0] at c0
  rw [z1] at c1
  clear hx0 hx1 z0 z1
  have n0 : 0 < l.length := by omega
  have n1 : 1 < l.length := by omega
  have hbl : b < y.heap.size := Sl.lt c0
  have kB : Below y.heap.size y (y.alloc (.cells #[.int .i64 0, .int .i64 0, .slice none 0 0, .int .i64 0] 25)) := (Below.refl _ _).alloc (Nat.le_refl _) _
  have d0 : (y.alloc (.cells #[.int .i64 0, .int .i64 0, .slice none 0 0, .int .i64 0] 25)).cell? ⟨b, off, none⟩ = some (.int .u8 (x0.toNat : Int)) := (kB.cell (p := ⟨b, off, none⟩) hbl).trans c0
  have d1 : (y.alloc (.cells #[.int .i64 0, .int .i64 0, .slice none 0 0, .int .i64 0] 25)).cell? ⟨b, off + 1, none⟩ = some (.int .u8 (x1.toNat : Int)) := (kB.cell (p := ⟨b, off + 1, none⟩) hbl).trans c1
  clear hbl kB
  have W0 : wrap64 (x0.toNat : Int) = (x0.toNat : Int) := by have := x0.toNat_lt; unfold wrap64; omega
  have W1 : wrap64 (x1.toNat : Int) = (x1.toNat : Int) := by have := x1.toNat_lt; unfold wrap64; omega
  go_region
  rw [W0, W1]
  clear W0 W1 d0 d1 c0 c1 n0 n1 i0 i1
  obtain ⟨N2, hN2⟩ : ∃ N2, y.heap.size = N2 := ⟨_, rfl⟩
  have hNN : N < N2 := by rw [← hN2]; exact lt_of_block BX.out
  have kB : Below y.heap.size y (y.alloc (.cells #[.int .i64 (x0.toNat : Int), .int .i64 (x1.toNat : Int), .slice none 0 0, .int .i64 0] 25)).drew := Below.drewN ((Below.refl _ _).alloc (Nat.le_refl _) _) 1
  have BX2 : Hid (BkBox (y.alloc (.cells #[.int .i64 (x0.toNat : Int), .int .i64 (x1.toNat : Int), .slice none 0 0, .int .i64 0] 25)).drew N2 x0.toNat x1.toNat (.slice none 0 0) 0) := Lib.hid (by rw [← hN2]; exact obj_new _ _)
  have BX3 : Hid (BkBox (y.alloc (.cells #[.int .i64 (x0.toNat : Int), .int .i64 (x1.toNat : Int), .slice none 0 0, .int .i64 0] 25)).drew N 0 0 (.slice none 0 0) 0) := Lib.hid (Below.heapAt kB BX.out (lt_of_block BX.out))
  have HV3 := Lib.hid (HVY.out.below kB)
  have KY3 := Lib.hid (KY.out.trans (kB.mono (by omega)))
  go_upto_region 4 with fail
  refine abs_b (fun z => Hid (BkBox z N2 x0.toNat x1.toNat (.slice none 0 0) 0) ∧ Hid (BkBox z N 0 0 (.slice none 0 0) 0) ∧ Hid (IsBytes z (.slice (some ⟨b, off, none⟩) l.length cap) l) ∧ Hid (Below N w z)) ⟨BX2, BX3, HV3, KY3⟩ ?_
  try rw [hN2]
  clear BX2 BX3 HV3 KY3 kB hN2 BX KY HVY
  rintro y ⟨BX, BZ, HVY, KY⟩
  obtain ⟨c0, c1, c2, c3⟩ := BX.out.cells
  obtain ⟨k, hk⟩ : ∃ k : Int, (x0.toNat : Int) = k := ⟨_, rfl⟩
  obtain ⟨t, ht⟩ : ∃ t : Int, (x1.toNat : Int) = t := ⟨_, rfl⟩
  rw [hk] at BX c0
  rw [ht] at BX c1
  have KK := Lib.hid (show k = ((l.getD 0 0).toNat : Int) from by rw [HX0.out]; exact hk.symm)
  have TT := Lib.hid (show t = ((l.getD 1 0).toNat : Int) from by rw [HX1.out]; exact ht.symm)
  try rw [hk]
  try rw [ht]
  have BW := Lib.hid (show ∀ x, Below N w x → Below w.heap.size w x from fun x hx => by rw [HN.out]; exact hx)
  have SZ := Lib.hid (show (k = 1 → Pl.rdSize l = max 6 ((l.length + 1) / 4 * 4 + 2)) ∧ (k = 2 → Pl.rdSize l = 3) ∧ (k = 3 → Pl.rdSize l = 6) ∧ (k ≠ 1 → k ≠ 2 → k ≠ 3 → Pl.rdSize l = 2) from by
    have hkk := KK.out
    unfold Pl.rdSize
    rw [if_neg (by omega)]
    generalize (l.getD 0 0).toNat = kn at *
    refine ⟨fun e => ?_, fun e => ?_, fun e => ?_, fun a b c => ?_⟩
    · rw [if_pos (by omega)]
    · rw [if_neg (by omega), if_pos (by omega)]
    · rw [if_neg (by omega), if_neg (by omega), if_pos (by omega)]
    · rw [if_neg (by omega), if_neg (by omega), if_neg (by omega)])
  clear hk ht HX0 HX1
  go_upto_block 0 with fail
  go_cut [5, 6, 7, 8] from 26 to 91 (fun _ _ _ _ z => ∃ (A : List Int) (val : Int) (oa : Option Addr) (c : Nat), Hid (Pl.RdX l k t A val ∧ ¬ l.length < Pl.rdSize l) ∧ Hid (BkBox z N 0 0 (.slice none 0 0) 0) ∧ Hid (BkBox z N2 k t (.slice oa A.length c) val) ∧ Hid (Sl encI z (.slice oa A.length c) A ∧ ∀ g f c', (Value.slice oa A.length c) = .slice (some ⟨g, f, none⟩) A.length c' → A ≠ [] → g ≠ N) ∧ Hid (Below N w z))
  case first =>
    as_aux_lemma =>
    by_cases k1 : k = 1
    · subst k1
      have hsz := SZ.out.1 rfl
      by_cases h6 : l.length < 6
      · have e6 : (l.length : Int) < 6 := by omega
        obtain ⟨p0, p1, p2, p3⟩ := BZ.out.cells
        obtain ⟨f0, f1, f2, f3⟩ := BZ.out.free
        have Z2 := Lib.hid (rd_zero BZ.out KY.out)
        go_upto_region 7 with fail
        go_cut [3] (fun s3 x => s3 = .int .i64 8 ∧ Hid (BkBox x N 0 0 (.slice none 0 0) 0) ∧ Hid (Below N w x))
        case first =>
          go_wp2_with fail
          go_meet
          exact ⟨rfl, Lib.hid Z2.out.1, Lib.hid Z2.out.2⟩
        case rest =>
        clear p0 p1 p2 p3 f0 f1 f2 f3 Z2
        obtain ⟨rfl, BQ, KQ⟩ := hcut
        obtain ⟨p0, p1, p2, p3⟩ := BQ.out.cells
        go_wp2_with fail
        refine bodyPost_ret (v := .tuple #[bkV 0 0 (.slice none 0 0) 0, .int .i64 8]) (by simp [results, Tryd.results13, go_sem, p0, p1, p2, p3]) rfl ?_
        exact RReadBE.short (by omega) (BW.out _ KQ.out)
      · by_cases h4 : l.length % 4 = 2
        case neg =>
          have e6 : ¬ (l.length : Int) < 6 := by omega
          have t4 : (l.length : Int).tmod 4 = ((l.length % 4 : Nat) : Int) := by rw [Int.tmod_eq_emod_of_nonneg (by omega)]; omega
          have d4 : (((l.length % 4 : Nat) : Int) == 2) = false := beq_eq_false_iff_ne.2 (by omega)
          have HSS := Lib.hid (show l.length < Pl.rdSize l from by omega)
          obtain ⟨p0, p1, p2, p3⟩ := BZ.out.cells
          obtain ⟨f0, f1, f2, f3⟩ := BZ.out.free
          have Z2 := Lib.hid (rd_zero BZ.out KY.out)
          go_upto_region 7 with fail
          go_cut [3] (fun s3 x => s3 = .int .i64 8 ∧ Hid (BkBox x N 0 0 (.slice none 0 0) 0) ∧ Hid (Below N w x))
          case first =>
            go_wp2_with fail
            go_meet
            exact ⟨rfl, Lib.hid Z2.out.1, Lib.hid Z2.out.2⟩
          case rest =>
          clear p0 p1 p2 p3 f0 f1 f2 f3 Z2
          obtain ⟨rfl, BQ, KQ⟩ := hcut
          obtain ⟨p0, p1, p2, p3⟩ := BQ.out.cells
          go_wp2_with fail
          refine bodyPost_ret (v := .tuple #[bkV 0 0 (.slice none 0 0) 0, .int .i64 8]) (by simp [results, Tryd.results13, go_sem, p0, p1, p2, p3]) rfl ?_
          exact RReadBE.short HSS.out (BW.out _ KQ.out)
        have e6 : ¬ (l.length : Int) < 6 := by omega
        have t4 : (l.length : Int).tmod 4 = 2 := by rw [Int.tmod_eq_emod_of_nonneg (by omega)]; omega
        have HSS := Lib.hid (show ¬ l.length < Pl.rdSize l from by omega)
        obtain ⟨M, hM⟩ : ∃ M, y.heap.size = M := ⟨_, rfl⟩
        have O0 := Lib.hid (RecK.Own.nil (R := prK) y M)
        have K0 := Lib.hid (Below.refl M y)
        have HNM := Lib.hid (show N ≤ M ∧ N < M ∧ N2 < M from by have := lt_of_block BX.out; omega)
        go_upto_region 10 with fail
        go_loopw [5, 6] (fun s5 s6 z => ∃ j : Nat, j ≤ (l.length - 2) / 4 ∧ s6 = .int .i64 ((2 + 4 * j : Nat) : Int) ∧ Hid (prK.Own z M s5 ((Pl.prsOf l).take j)) ∧ Hid (Below M y z)) (fun _ s6 _ => l.length - (RowKit.intOf s6).toNat)
        case atStart => exact ⟨0, by omega, rfl, O0, K0⟩
        case round =>
          as_aux_lemma =>
          clear O0 K0 c0 c1 c2 c3
          obtain ⟨j, hj, rfl, OW, KR⟩ := hrel
          by_cases hlt : 2 + 4 * j < l.length
          · have hj2 : j < (l.length - 2) / 4 := by omega
            have PA := Lib.hid (Pl.prsOf_at l j hj2)
            obtain ⟨q, hq⟩ : ∃ q, 2 + 4 * j = q := ⟨_, rfl⟩
            obtain ⟨r, hr⟩ : ∃ r, q + 2 = r := ⟨_, rfl⟩
            obtain ⟨s, hs⟩ : ∃ s, q + 4 = s := ⟨_, rfl⟩
            rw [hq] at hlt ⊢
            have e1 : (q : Int) < (l.length : Int) := by omega
            have hsl : s ≤ l.length := by omega
            have i1 : IntKind.i64.wrap ((q : Int) + 2) = (r : Int) := by rw [IntKind.wrap_i64]; omega
            have i2 : IntKind.i64.wrap ((q : Int) + 4) = (s : Int) := by rw [IntKind.wrap_i64]; omega
            have HB := HVY.out.below (w' := wr) (by rw [hM]; exact KR.out)
            have G1 := refNumber_any (.slice (some ⟨b, off + q, none⟩) (r - q) (cap - q)) ((l.take r).drop q) wr.drew (bytes_part (w := wr) HB q r (by omega) (by omega) (cap - q) (by omega) (by unfold maxLen; omega)) (by simp; omega)
            have G2 := refNumber_any (.slice (some ⟨b, off + r, none⟩) (s - r) (cap - r)) ((l.take s).drop r) wr.drew (bytes_part (w := wr) HB r s (by omega) (by omega) (cap - r) (by omega) (by unfold maxLen; omega)) (by simp; omega)
            have b1 : (l.take r).drop q = ((l.drop (2 + j * 4)).take 4).take 2 := by
              rw [List.drop_take, List.take_take]
              have h1 : r - q = 2 := by omega
              have h2 : q = 2 + j * 4 := by omega
              rw [h1, h2]; rfl
            have b2 : (l.take s).drop r = ((l.drop (2 + j * 4)).take 4).drop 2 := by
              rw [List.drop_take, List.drop_take, List.drop_drop]
              have h1 : s - r = 2 := by omega
              have h2 : r = 2 + j * 4 + 2 := by omega
              rw [h1, h2]
            rw [b1] at G1
            rw [b2] at G2
            have hN := Pl.prsOf_num l
            have PA2 := PA.out
            unfold Pl.prAt at PA2
            generalize Pl.getB (((l.drop (2 + j * 4)).take 4).take 2) = vb at *
            generalize Pl.getB (((l.drop (2 + j * 4)).take 4).drop 2) = vm at *
            have G1' := Lib.hid (G1.mono fun e w'' ⟨a, b⟩ => show e = Ending.returned (.int .i64 vb) ∧ w'' = wr.drew from ⟨a, b.symm⟩)
            have G2' := Lib.hid (G2.mono fun e w'' ⟨a, b⟩ => show e = Ending.returned (.int .i64 vm) ∧ w'' = wr.drew from ⟨a, b.symm⟩)
            clear G1 G2 b1 b2 HB PA hN
            have i3 : (q : Int) ≤ (r : Int) := by omega
            have i4 : (r : Int) ≤ (cap : Int) := by omega
            have i5 : (r : Int) ≤ (s : Int) := by omega
            have i6 : (s : Int) ≤ (cap : Int) := by omega
            have j3 : q ≤ r := by omega
            have j4 : r ≤ cap := by omega
            have j5 : r ≤ s := by omega
            have j6 : s ≤ cap := by omega
            have hc1 : ¬ cap = q := by omega
            have hc2 : ¬ cap = r := by omega
            have hll : ((Pl.prsOf l).take j).length = j := by rw [List.length_take, Pl.prsOf_len]; omega
            obtain ⟨o5, c5, rfl, -⟩ := RecK.Own.read prK_ok OW.out
            obtain ⟨gN, capN, wN, hrun, ho, hk2⟩ := pr_more (W := wr.drew) (w0 := y) (show prK.Own wr.drew M _ _ from OW.out) ⟨vb, vm⟩ (by rw [hll]; omega) (Below.drewN KR.out 1) (by omega)
            rw [← PA2] at ho
            rw [hll] at hrun ho
            try rw [hll]
            have HRUN := Lib.hid hrun
            have HO := Lib.hid ho
            have HK := Lib.hid hk2
            clear hrun ho hk2 PA2
            go_upto_region 12 with fail
            refine region_to fun KK hKK => ?_
            refine wp_region_any (by kernel_rfl) ?_
            change wpAny _ _ _ _ _ _ _ (World.drew _)
            refine wpAny_take (i := 0) (v := ?_) rfl (by decide +kernel) (by decide +kernel) (by decide +kernel) (fun _ _ _ h => absurd h.1 (by simp)) (yields_free rfl ?_) ?_
            rotate_left
            · intro w; go_simp
              all_goals with_reducible rfl
            refine wpAny_abs (fun K hK => ?_)
            go_simp
            refine hK _ ?_
            clear hK K
            refine wpAny_take (i := 1) (v := ?_) rfl (by decide +kernel) (by decide +kernel) (by decide +kernel) (fun _ _ _ h => absurd h.1 (by simp)) (yields_free rfl ?_) ?_
            rotate_left
            · intro w; go_simp
              all_goals with_reducible rfl
            refine wpAny_abs (fun K hK => ?_)
            go_simp
            refine hK _ ?_
            clear hK K
            refine wpAny_take (i := 2) (v := ?_) rfl (by decide +kernel) (by decide +kernel) (by decide +kernel) (fun _ _ _ h => absurd h.1 (by simp)) (yields_free rfl ?_) ?_
            rotate_left
            · intro w; go_simp
              all_goals with_reducible rfl
            refine wpAny_abs (fun K hK => ?_)
            go_simp
            refine hK _ ?_
            clear hK K
            refine wpAny_take (i := 3) (v := ?_) rfl (by decide +kernel) (by decide +kernel) (by decide +kernel) (fun _ _ _ h => absurd h.1 (by simp)) (yields_free rfl ?_) ?_
            rotate_left
            · intro w; go_simp
              all_goals with_reducible rfl
            refine wpAny_abs (fun K hK => ?_)
            go_simp
            refine hK _ ?_
            clear hK K
            refine wpAny_take (i := 4) (v := ?_) rfl (by decide +kernel) (by decide +kernel) (by decide +kernel) (fun _ _ _ h => absurd h.1 (by simp)) (yields_free rfl ?_) ?_
            rotate_left
            · intro w; go_simp
              all_goals with_reducible rfl
            refine wpAny_abs (fun K hK => ?_)
            go_simp
            refine hK _ ?_
            clear hK K
            refine wpAny_take (i := 5) (v := ?_) rfl (by decide +kernel) (by decide +kernel) (by decide +kernel) (fun _ _ _ h => absurd h.1 (by simp)) (yields_free rfl ?_) ?_
            rotate_left
            · intro w; go_simp
              all_goals with_reducible rfl
            refine wpAny_abs (fun K hK => ?_)
            go_simp
            refine hK _ ?_
            clear hK K
            refine wpAny_take (i := 7) (v := ?_) rfl (by decide +kernel) (by decide +kernel) (by decide +kernel) (fun _ _ _ h => absurd h.1 (by simp)) (yields_free rfl ?_) ?_
            rotate_left
            · intro w; go_simp
              all_goals with_reducible rfl
            refine wpAny_abs (fun K hK => ?_)
            go_simp
            refine hK _ ?_
            clear hK K
            refine wpAny_take (i := 8) (v := ?_) rfl (by decide +kernel) (by decide +kernel) (by decide +kernel) (fun _ _ _ h => absurd h.1 (by simp)) (yields_free rfl ?_) ?_
            rotate_left
            · intro w; go_simp
              all_goals with_reducible rfl
            refine wpAny_abs (fun K hK => ?_)
            go_simp
            refine hK _ ?_
            clear hK K
            refine wpAny_take (i := 9) (v := ?_) rfl (by decide +kernel) (by decide +kernel) (by decide +kernel) (fun _ _ _ h => absurd h.1 (by simp)) (yields_free rfl ?_) ?_
            rotate_left
            · intro w; go_simp
              all_goals with_reducible rfl
            refine wpAny_abs (fun K hK => ?_)
            go_simp
            refine hK _ ?_
            clear hK K
            refine wpAny_take (i := 10) (v := ?_) rfl (by decide +kernel) (by decide +kernel) (by decide +kernel) (fun _ _ _ h => absurd h.1 (by simp)) (yields_free rfl ?_) ?_
            rotate_left
            · intro w; go_simp
              all_goals with_reducible rfl
            refine wpAny_abs (fun K hK => ?_)
            go_simp
            refine hK _ ?_
            clear hK K
            refine wpAny_take (i := 11) (v := ?_) rfl (by decide +kernel) (by decide +kernel) (by decide +kernel) (fun _ _ _ h => absurd h.1 (by simp)) (yields_free rfl ?_) ?_
            rotate_left
            · intro w; go_simp
              all_goals with_reducible rfl
            refine wpAny_abs (fun K hK => ?_)
            go_simp
            refine hK _ ?_
            clear hK K
            refine wpAny_take (i := 12) (v := ?_) rfl (by decide +kernel) (by decide +kernel) (by decide +kernel) (fun _ _ _ h => absurd h.1 (by simp)) (yields_free rfl ?_) ?_
            rotate_left
            · intro w; go_simp
              all_goals with_reducible rfl
            refine wpAny_abs (fun K hK => ?_)
            go_simp
            refine hK _ ?_
            clear hK K
            refine wpAny_one (i := 6) (by decide +kernel) rfl (fun K hK => ?_)
            go_simp
            refine ⟨_, G1'.out, hK _ ?_⟩
            clear hK K
            refine wpAny_one (i := 13) (by decide +kernel) rfl (fun K hK => ?_)
            go_simp
            refine ⟨_, G2'.out, hK _ ?_⟩
            clear hK K
            refine wpAny_take (i := 14) (v := ?_) rfl (by decide +kernel) (by decide +kernel) (by decide +kernel) (fun _ _ _ h => absurd h.1 (by simp)) (yields_free rfl ?_) ?_
            rotate_left
            · intro w; go_simp
              all_goals with_reducible rfl
            refine wpAny_abs (fun K hK => ?_)
            go_simp
            refine hK _ ?_
            clear hK K
            clear G1' G2'
            generalize wr.drew = z2 at *
            refine wpAny_ready (rs := [15]) (by decide +kernel) (by simp) ?_
            refine AllReady.cons rfl (fun K hK => ?_) AllReady.nil
            go_simp
            refine hK _ _ ?_
            clear hK K
            refine wpAny_ready (rs := [16]) (by decide +kernel) (by simp) ?_
            refine AllReady.cons rfl (fun K hK => ?_) AllReady.nil
            refine stepS_append_run rfl (.tmp 44) (.tmp 59) 23 23 rfl _ _ rfl rfl _ _ HRUN.out ?_
            refine hK _ _ ?_
            clear hK K
            refine wpAny_ready (rs := [17]) (by decide +kernel) (by simp) ?_
            refine AllReady.cons rfl (fun K hK => ?_) AllReady.nil
            go_simp
            refine hK _ _ ?_
            clear hK K
            refine wpAny_done (by decide +kernel) ⟨rfl, hKK _ _ ?_⟩ _
            go_wp2_with fail
            go_roundw
            case measure => simp only [RowKit.intOf]; omega
            case rel => exact ⟨j + 1, by omega, by congr 1; omega, HO, HK⟩
          · have e1 : ¬ ((2 + 4 * j : Nat) : Int) < (l.length : Int) := by omega
            have hje : j = (l.length - 2) / 4 := by omega
            have ht : (Pl.prsOf l).take j = Pl.prsOf l := List.take_of_length_le (by rw [Pl.prsOf_len]; omega)
            rw [ht] at OW
            have IP := prK_prs OW.out (Pl.prsOf_num l)
            obtain ⟨o5, c5, rfl, -⟩ := prs_read IP
            have hMs : M ≤ wr.heap.size := by have := KR.out.size; omega
            have BZ1 := Lib.hid (show BkBox wr N 0 0 (.slice none 0 0) 0 from Below.heapAt KR.out BZ.out HNM.out.2.1)
            have BX1 := Lib.hid (show BkBox wr N2 1 t (.slice none 0 0) 0 from Below.heapAt KR.out BX.out HNM.out.2.2)
            have KY1 := Lib.hid (KY.out.trans (KR.out.mono HNM.out.1))
            have LB := Lib.hid (show N < wr.heap.size ∧ N2 < wr.heap.size ∧ N ≤ wr.heap.size from by have := HNM.out; omega)
            clear hlt hje ht BX BZ KY
            by_cases hF : Pl.numF (Pl.prsOf l) = 0
            · have NC := Lib.hid (rNums_ok _ (Pl.prsOf l) hF wr IP)
              have HF := Lib.hid hF
              clear hF IP
              go_upto_region 16 with (go_at_call 8; (with_reducible refine NC.out.mono ?_); rintro e w3 ⟨R, oR, cR, rfl, h1, h2, h3, k3⟩; have IR := Lib.hid (IRow.sl h1); have RX := Lib.hid (show Pl.RdX l 1 t R 0 from ⟨KK.out, TT.out, by rw [if_pos rfl]; exact .inr ⟨HF.out, h2, h3⟩, by rw [if_neg (by decide)]⟩); have BZ2 := Lib.hid (show BkBox w3 N 0 0 (.slice none 0 0) 0 from Below.heapAt k3 BZ1.out LB.out.1); have BX2 := Lib.hid (show BkBox w3 N2 1 t (.slice none 0 0) 0 from Below.heapAt k3 BX1.out LB.out.2.1); have KY2 := Lib.hid (KY1.out.trans (k3.mono LB.out.2.2)); have HRL := Lib.hid (show ∀ g f c', (Value.slice oR R.length cR) = .slice (some ⟨g, f, none⟩) R.length c' → R ≠ [] → g ≠ N2 ∧ g ≠ N from fun g f c' e hne => by
                  rcases h1.2 with ⟨e2, e3⟩ | ⟨g2, cap2, cur, e2, hb, _⟩
                  · exact absurd (List.eq_nil_of_length_eq_zero e3) hne
                  · rw [e2] at e; cases e
                    have := LB.out; omega); clear h1 h2 h3 k3)
              obtain ⟨c0, c1, c2, c3⟩ := BX2.out.cells
              obtain ⟨f0, f1, f2, f3⟩ := BX2.out.free
              have BX3 := Lib.hid (show BkBox (w3.setCell ⟨N2, 2, none⟩ (.slice oR R.length cR)) N2 1 t (.slice oR R.length cR) 0 from obj_set BX2.out 2 _)
              have KS := Lib.hid (show Below N2 w3 (w3.setCell ⟨N2, 2, none⟩ (.slice oR R.length cR)) from Below.setCell (p := ⟨N2, 2, none⟩) (Below.refl N2 w3) (Nat.le_refl N2) _)
              have BZ3 := Lib.hid (show BkBox (w3.setCell ⟨N2, 2, none⟩ (.slice oR R.length cR)) N 0 0 (.slice none 0 0) 0 from Below.heapAt KS.out BZ2.out hNN)
              have KY3 := Lib.hid (show Below N w (w3.setCell ⟨N2, 2, none⟩ (.slice oR R.length cR)) from Below.setCell KY2.out (by show N ≤ N2; omega) _)
              have IR3 := Lib.hid (show Sl encI (w3.setCell ⟨N2, 2, none⟩ (.slice oR R.length cR)) (.slice oR R.length cR) R from by
                rcases IR.out with h | ⟨b', f', c', e, h1, h2, h3⟩
                · exact .inl h
                · refine .inr ⟨b', f', c', e, h1, h2, fun i hi => ?_⟩
                  have hne := (HRL.out b' f' c' e (by intro e; rw [e] at hi; simp at hi)).1
                  rw [World.cell?_of_block (w := w3) (a := ⟨b', f' + i, none⟩) (Below.heap_setCell _ _ _ _ hne)]
                  exact h3 i hi)
              clear NC BZ1 BX1 KY1 OW KR
              go_wp2_with fail
              go_meet
              exact ⟨R, 0, oR, cR, Lib.hid ⟨RX.out, HSS.out⟩, BZ3, BX3, Lib.hid ⟨IR3.out, fun g f c' e hne => (HRL.out g f c' e hne).2⟩, KY3⟩
            · have NC := Lib.hid (rNums_bad _ (Pl.prsOf l) hF wr IP)
              have RX := Lib.hid (show Pl.RdX l 1 t [] 0 from ⟨KK.out, TT.out, by rw [if_pos rfl]; exact .inl ⟨hF, rfl⟩, by rw [if_neg (by decide)]⟩)
              have d1 : (Pl.numF (Pl.prsOf l) == 0) = false := beq_eq_false_iff_ne.2 hF
              have d2 : (Pl.numF (Pl.prsOf l) != 0) = true := by simp [hF]
              have B0 := Lib.hid (show Pl.backF 1 t 0 [] ≠ 0 from by unfold Pl.backF; split <;> simp)
              clear hF IP
              generalize Pl.numF (Pl.prsOf l) = nf at *
              go_upto_region 15 with (go_at_call 8; (with_reducible refine NC.out.mono ?_); rintro e w3 ⟨rfl, k3⟩; have BZ2 := Lib.hid (show BkBox w3 N 0 0 (.slice none 0 0) 0 from Below.heapAt k3 BZ1.out LB.out.1); have KY2 := Lib.hid (KY1.out.trans (k3.mono LB.out.2.2)); clear k3)
              clear NC BZ1 BX1 KY1 OW KR d1 d2
              obtain ⟨p0, p1, p2, p3⟩ := BZ2.out.cells
              obtain ⟨f0, f1, f2, f3⟩ := BZ2.out.free
              have Z2 := Lib.hid (rd_zero BZ2.out KY2.out)
              go_cut [3] (fun s3 x => s3 = .int .i64 2 ∧ Hid (BkBox x N 0 0 (.slice none 0 0) 0) ∧ Hid (Below N w x))
              case first =>
                go_wp2_with fail
                go_meet
                exact ⟨rfl, Lib.hid Z2.out.1, Lib.hid Z2.out.2⟩
              case rest =>
              clear p0 p1 p2 p3 f0 f1 f2 f3 Z2
              obtain ⟨rfl, BQ, KQ⟩ := hcut
              obtain ⟨p0, p1, p2, p3⟩ := BQ.out.cells
              go_wp2_with fail
              refine bodyPost_ret (v := .tuple #[bkV 0 0 (.slice none 0 0) 0, .int .i64 2]) (by simp [results, Tryd.results13, go_sem, p0, p1, p2, p3]) rfl ?_
              exact RReadBE.bad HSS.out RX.out (BW.out _ KQ.out) (.inl B0.out)
    · have d1 : (k == 1) = false := beq_eq_false_iff_ne.2 k1
      by_cases k2 : k = 2
      · subst k2
        have hsz := SZ.out.2.1 rfl
        by_cases h3 : l.length < 3
        · have e3 : (l.length : Int) < 3 := by omega
          obtain ⟨p0, p1, p2, p3⟩ := BZ.out.cells
          obtain ⟨f0, f1, f2, f3⟩ := BZ.out.free
          have Z2 := Lib.hid (rd_zero BZ.out KY.out)
          go_upto_region 19 with fail
          go_cut [3] (fun s3 x => s3 = .int .i64 8 ∧ Hid (BkBox x N 0 0 (.slice none 0 0) 0) ∧ Hid (Below N w x))
          case first =>
            go_wp2_with fail
            go_meet
            exact ⟨rfl, Lib.hid Z2.out.1, Lib.hid Z2.out.2⟩
          case rest =>
          clear p0 p1 p2 p3 f0 f1 f2 f3 Z2
          obtain ⟨rfl, BQ, KQ⟩ := hcut
          obtain ⟨p0, p1, p2, p3⟩ := BQ.out.cells
          go_wp2_with fail
          refine bodyPost_ret (v := .tuple #[bkV 0 0 (.slice none 0 0) 0, .int .i64 8]) (by simp [results, Tryd.results13, go_sem, p0, p1, p2, p3]) rfl ?_
          exact RReadBE.short (by omega) (BW.out _ KQ.out)
        · have e3 : ¬ (l.length : Int) < 3 := by omega
          have HSS := Lib.hid (show ¬ l.length < Pl.rdSize l from by omega)
          have q2 := bytes_at HVY.out 2 (by omega)
          have hg2 : (l.take 3).drop 2 = [l.getD 2 0] := by
            match l, h3 with
            | [], h => simp at h
            | [_], h => simp at h
            | [_, _], h => simp at h
            | _ :: _ :: _ :: _, _ => rfl
          obtain ⟨x2, hx2⟩ : ∃ x, l.getD 2 0 = x := ⟨_, rfl⟩
          rw [hx2] at q2 hg2
          have z2 : encB x2 = .int .u8 (x2.toNat : Int) := rfl
          rw [z2] at q2
          have W2 : IntKind.i64.wrap (x2.toNat : Int) = (x2.toNat : Int) := by have := x2.toNat_lt; rw [IntKind.wrap_i64]; omega
          have RX := Lib.hid (show Pl.RdX l 2 t [] (x2.toNat : Int) from ⟨KK.out, TT.out, by rw [if_neg (by decide)], by rw [if_pos (.inl rfl), hsz, hg2, Pl.getB_cons]; simp [Pl.getB]⟩)
          have i2 : (2 : Int) < (l.length : Int) := by omega
          have n2 : 2 < l.length := by omega
          obtain ⟨f0, f1, f2, f3⟩ := BX.out.free
          obtain ⟨X2, hX2⟩ : ∃ X : Int, (x2.toNat : Int) = X := ⟨_, rfl⟩
          rw [hX2] at q2 W2 RX
          have BX3 := Lib.hid (show BkBox (y.setCell ⟨N2, 3, none⟩ (.int .i64 X2)) N2 2 t (.slice none 0 0) X2 from obj_set BX.out 3 _)
          have KS := Lib.hid (show Below N2 y (y.setCell ⟨N2, 3, none⟩ (.int .i64 X2)) from Below.setCell (p := ⟨N2, 3, none⟩) (Below.refl N2 y) (Nat.le_refl N2) _)
          have BZ3 := Lib.hid (show BkBox (y.setCell ⟨N2, 3, none⟩ (.int .i64 X2)) N 0 0 (.slice none 0 0) 0 from Below.heapAt KS.out BZ.out hNN)
          have KY3 := Lib.hid (show Below N w (y.setCell ⟨N2, 3, none⟩ (.int .i64 X2)) from Below.setCell KY.out (by show N ≤ N2; omega) _)
          clear hX2 hg2 z2 hx2
          go_wp2_with fail
          go_meet
          exact ⟨[], X2, none, 0, Lib.hid ⟨RX.out, HSS.out⟩, BZ3, BX3, Lib.hid ⟨Sl.nil _, fun g f c' e hne => absurd rfl hne⟩, KY3⟩
      · have d2 : (k == 2) = false := beq_eq_false_iff_ne.2 k2
        by_cases k3 : k = 3
        · subst k3
          have hsz := SZ.out.2.2.1 rfl
          by_cases h6 : l.length < 6
          · have e6 : (l.length : Int) < 6 := by omega
            obtain ⟨p0, p1, p2, p3⟩ := BZ.out.cells
            obtain ⟨f0, f1, f2, f3⟩ := BZ.out.free
            have Z2 := Lib.hid (rd_zero BZ.out KY.out)
            go_upto_region 23 with fail
            go_cut [3] (fun s3 x => s3 = .int .i64 8 ∧ Hid (BkBox x N 0 0 (.slice none 0 0) 0) ∧ Hid (Below N w x))
            case first =>
              go_wp2_with fail
              go_meet
              exact ⟨rfl, Lib.hid Z2.out.1, Lib.hid Z2.out.2⟩
            case rest =>
            clear p0 p1 p2 p3 f0 f1 f2 f3 Z2
            obtain ⟨rfl, BQ, KQ⟩ := hcut
            obtain ⟨p0, p1, p2, p3⟩ := BQ.out.cells
            go_wp2_with fail
            refine bodyPost_ret (v := .tuple #[bkV 0 0 (.slice none 0 0) 0, .int .i64 8]) (by simp [results, Tryd.results13, go_sem, p0, p1, p2, p3]) rfl ?_
            exact RReadBE.short (by omega) (BW.out _ KQ.out)
          · have e6 : ¬ (l.length : Int) < 6 := by omega
            have HSS := Lib.hid (show ¬ l.length < Pl.rdSize l from by omega)
            obtain ⟨X2, hX2⟩ : ∃ X : Int, Pl.getB ((l.take 6).drop 2) = X := ⟨_, rfl⟩
            have G1 := Lib.hid (show Calls Tryd.prog 28 #[.slice (some ⟨b, off + 2, none⟩) 4 (cap - 2)] y fun e w' => e = .returned (.int .i64 X2) ∧ y = w' from by
              rw [← hX2]
              exact refNumber_any _ _ y (bytes_part HVY.out 2 6 (by omega) (by omega) (cap - 2) (by omega) (by unfold maxLen; omega)) (by simp; omega))
            have RX := Lib.hid (show Pl.RdX l 3 t [] X2 from ⟨KK.out, TT.out, by rw [if_neg (by decide)], by rw [if_pos (.inr rfl), hsz, hX2]⟩)
            have hc2 : ¬ cap = 2 := by omega
            have i3 : (6 : Int) ≤ (cap : Int) := by omega
            have i4 : 6 ≤ cap := by omega
            obtain ⟨f0, f1, f2, f3⟩ := BX.out.free
            have BX3 := Lib.hid (show BkBox (y.setCell ⟨N2, 3, none⟩ (.int .i64 X2)) N2 3 t (.slice none 0 0) X2 from obj_set BX.out 3 _)
            have KS := Lib.hid (show Below N2 y (y.setCell ⟨N2, 3, none⟩ (.int .i64 X2)) from Below.setCell (p := ⟨N2, 3, none⟩) (Below.refl N2 y) (Nat.le_refl N2) _)
            have BZ3 := Lib.hid (show BkBox (y.setCell ⟨N2, 3, none⟩ (.int .i64 X2)) N 0 0 (.slice none 0 0) 0 from Below.heapAt KS.out BZ.out hNN)
            have KY3 := Lib.hid (show Below N w (y.setCell ⟨N2, 3, none⟩ (.int .i64 X2)) from Below.setCell KY.out (by show N ≤ N2; omega) _)
            clear hX2
            go_wp2_with (go_at_call 28; (with_reducible refine G1.out.mono ?_); rintro e w1 ⟨rfl, rfl⟩)
            go_meet
            exact ⟨[], X2, none, 0, Lib.hid ⟨RX.out, HSS.out⟩, BZ3, BX3, Lib.hid ⟨Sl.nil _, fun g f c' e hne => absurd rfl hne⟩, KY3⟩
        · have d3 : (k == 3) = false := beq_eq_false_iff_ne.2 k3
          have HSS := Lib.hid (show ¬ l.length < Pl.rdSize l from by have := SZ.out.2.2.2 k1 k2 k3; omega)
          have RX := Lib.hid (show Pl.RdX l k t [] 0 from ⟨KK.out, TT.out, by rw [if_neg k1], by rw [if_neg (by rintro (h | h); exact k2 h; exact k3 h)]⟩)
          go_wp2_with fail
          go_meet
          exact ⟨[], 0, none, 0, Lib.hid ⟨RX.out, HSS.out⟩, BZ, BX, Lib.hid ⟨Sl.nil _, fun g f c' e hne => absurd rfl hne⟩, KY⟩
  case rest =>
  as_aux_lemma =>
  clear BX BZ KY c0 c1 c2 c3 HVY
  obtain ⟨A, val, oA, cA, RX, BZ, BX, SA0, KY⟩ := hcut
  have SA := Lib.hid SA0.out.1
  have SN := Lib.hid SA0.out.2
  clear SA0
  go_upto_region 25 with fail
  refine abs_b (fun z => Hid (BkBox z N 0 0 (.slice none 0 0) 0) ∧ Hid (BkBox z N2 k t (.slice oA A.length cA) val) ∧ Hid (Sl encI z (.slice oA A.length cA) A) ∧ Hid (Below N w z)) ⟨BZ, BX, SA, KY⟩ ?_
  clear BX BZ SA KY
  rintro y ⟨BZ, BX, SA, KY⟩
  obtain ⟨c0, c1, c2, c3⟩ := BX.out.cells
  have EB := Lib.hid (rBackBytes_any k t val oA cA A y SA.out)
  have hNy : N ≤ y.heap.size := by have := lt_of_block BZ.out; omega
  have HNY := Lib.hid hNy
  clear hNy
  have EB2 : (Pl.backF k t val A ≠ 0 ∧ Hid (Calls Tryd.prog 11 #[bkV k t (.slice oA A.length cA) val] y fun e w' => Below y.heap.size y w' ∧ e = .returned (.tuple #[.slice none 0 0, .int .i64 (Pl.backF k t val A)]))) ∨ (Pl.backF k t val A = 0 ∧ Hid (Calls Tryd.prog 11 #[bkV k t (.slice oA A.length cA) val] y fun e w' => Below y.heap.size y w' ∧ ∃ (o1 : Option Addr) (n1 c1 : Nat) (L : List Pr), e = .returned (.tuple #[.slice o1 n1 c1, .int .i64 0]) ∧ Pl.PairsOf (· ∈ A) L ∧ IsBytes w' (.slice o1 n1 c1) (Pl.backBytes k t val L))) := by
    by_cases hF : Pl.backF k t val A = 0
    · refine .inr ⟨hF, Lib.hid (EB.out.mono fun e w' ⟨h1, h2⟩ => ⟨h1, ?_⟩)⟩
      rcases h2 with ⟨h2, _⟩ | ⟨_, v, L, h3, h4, h5⟩
      · exact absurd hF h2
      · have hb := h5.reads
        obtain ⟨o1, c1, rfl, -⟩ := bytes_slice hb
        exact ⟨o1, _, c1, L, h3, h4, hb⟩
    · refine .inl ⟨hF, Lib.hid (EB.out.mono fun e w' ⟨h1, h2⟩ => ⟨h1, ?_⟩)⟩
      rcases h2 with ⟨_, h2⟩ | ⟨h2, _⟩
      · exact h2
      · exact absurd h2 hF
  clear EB
  rcases EB2 with ⟨hF, EN⟩ | ⟨hF, EN⟩
  · have HF := Lib.hid hF
    have d1 : (Pl.backF k t val A == 0) = false := beq_eq_false_iff_ne.2 hF
    have d2 : (Pl.backF k t val A != 0) = true := by simp [hF]
    clear hF
    obtain ⟨bf, hbf⟩ : ∃ bf, Pl.backF k t val A = bf := ⟨_, rfl⟩
    rw [hbf] at d1 d2 EN
    clear hbf
    go_upto_region 27 with (go_at_call 11; (with_reducible refine EN.out.mono ?_); rintro e w3 ⟨k3, rfl⟩; have BZ2 := Lib.hid (show BkBox w3 N 0 0 (.slice none 0 0) 0 from Below.heapAt k3 BZ.out (lt_of_block BZ.out)); have KY2 := Lib.hid (KY.out.trans (k3.mono HNY.out)); clear k3)
    clear EN BZ BX SA KY c0 c1 c2 c3 d1 d2
    obtain ⟨p0, p1, p2, p3⟩ := BZ2.out.cells
    obtain ⟨f0, f1, f2, f3⟩ := BZ2.out.free
    have Z2 := Lib.hid (rd_zero BZ2.out KY2.out)
    go_cut [3] (fun s3 x => s3 = .int .i64 2 ∧ Hid (BkBox x N 0 0 (.slice none 0 0) 0) ∧ Hid (Below N w x))
    case first =>
      go_wp2_with fail
      go_meet
      exact ⟨rfl, Lib.hid Z2.out.1, Lib.hid Z2.out.2⟩
    case rest =>
    clear p0 p1 p2 p3 f0 f1 f2 f3 Z2
    obtain ⟨rfl, BQ, KQ⟩ := hcut
    obtain ⟨p0, p1, p2, p3⟩ := BQ.out.cells
    go_wp2_with fail
    refine bodyPost_ret (v := .tuple #[bkV 0 0 (.slice none 0 0) 0, .int .i64 2]) (by simp [results, Tryd.results13, go_sem, p0, p1, p2, p3]) rfl ?_
    exact RReadBE.bad RX.out.2 RX.out.1 (BW.out _ KQ.out) (.inl HF.out)
  · have HF := Lib.hid hF
    clear hF
    go_upto_region 26 with (go_at_call 11; (with_reducible refine EN.out.mono ?_); rintro e w3 ⟨k3, o1, n1, c1', L, rfl, hL, hB⟩; have BZ2 := Lib.hid (show BkBox w3 N 0 0 (.slice none 0 0) 0 from Below.heapAt k3 BZ.out (lt_of_block BZ.out)); have BX2 := Lib.hid (show BkBox w3 N2 k t (.slice oA A.length cA) val from Below.heapAt k3 BX.out (lt_of_block BX.out)); have SA2 := Lib.hid (SA.out.below k3); have KY2 := Lib.hid (KY.out.trans (k3.mono HNY.out)); have PO := Lib.hid hL; have HB2 := Lib.hid hB; clear k3 hL hB)
    clear EN BZ BX SA KY c0 c1 c2 c3
    have cv1 := conv_bytes HB2.out
    have cv2 := conv_bytes (HV.out.below (BW.out _ KY2.out))
    have HEQ := Lib.hid (@strB_inj (Pl.backBytes k t val L) l)
    obtain ⟨S1, hS1⟩ : ∃ S, strB (Pl.backBytes k t val L) = S := ⟨_, rfl⟩
    obtain ⟨S2, hS2⟩ : ∃ S, strB l = S := ⟨_, rfl⟩
    rw [hS1] at cv1
    rw [hS2] at cv2
    have HEQ2 := Lib.hid (show S1 = S2 ↔ Pl.backBytes k t val L = l from by rw [← hS1, ← hS2]; exact HEQ.out)
    clear HEQ hS1 hS2
    by_cases hq : S1 = S2
    · subst hq
      have HL := Lib.hid (HEQ2.out.1 rfl)
      obtain ⟨p0, p1, p2, p3⟩ := BZ2.out.cells
      obtain ⟨f0, f1, f2, f3⟩ := BZ2.out.free
      obtain ⟨r0, r1, r2, r3⟩ := BX2.out.cells
      have KF := Lib.hid (show ∀ (x : World), Sl encI x (.slice oA A.length cA) A → Below N w x → RReadBE w.heap.size l w (.returned (.tuple #[bkV k t (.slice oA A.length cA) val, .int .i64 0])) x from fun x q1 q2 => RReadBE.good RX.out.2 RX.out.1 (BW.out _ q2) HF.out PO.out HL.out.symm oA cA q1)
      have Z4 := Lib.hid (bk_zero BZ2.out k t (.slice oA A.length cA) val)
      have KY4 := Lib.hid (bk_kb KY2.out (Nat.le_refl N) (.int .i64 k) (.int .i64 t) (.slice oA A.length cA) (.int .i64 val))
      have SA4 := Lib.hid (rset4_sl SA2.out SN.out (.int .i64 k) (.int .i64 t) (.slice oA A.length cA) (.int .i64 val))
      go_upto_region 28 with fail
      go_cut [3] (fun s3 x => s3 = .int .i64 0 ∧ Hid (BkBox x N k t (.slice oA A.length cA) val) ∧ Hid (Sl encI x (.slice oA A.length cA) A) ∧ Hid (Below N w x))
      case first =>
        go_wp2_with fail
        go_meet
        exact ⟨rfl, Z4, SA4, KY4⟩
      case rest =>
      clear p0 p1 p2 p3 f0 f1 f2 f3 r0 r1 r2 r3 Z4 KY4 SA4
      obtain ⟨rfl, BQ, SQ, KQ⟩ := hcut
      obtain ⟨p0, p1, p2, p3⟩ := BQ.out.cells
      go_wp2_with fail
      refine bodyPost_ret (v := .tuple #[bkV k t (.slice oA A.length cA) val, .int .i64 0]) (by simp [results, Tryd.results13, go_sem, p0, p1, p2, p3]) rfl ?_
      exact KF.out _ SQ.out KQ.out
    · have HNE := Lib.hid (show Pl.backBytes k t val L ≠ l from fun h => hq (HEQ2.out.2 h))
      have d1 : (S1.toList == S2.toList) = false := ba_ne S1 S2 hq
      clear HEQ2
      obtain ⟨p0, p1, p2, p3⟩ := BZ2.out.cells
      obtain ⟨f0, f1, f2, f3⟩ := BZ2.out.free
      have Z2 := Lib.hid (rd_zero BZ2.out KY2.out)
      go_upto_region 27 with fail
      go_cut [3] (fun s3 x => s3 = .int .i64 2 ∧ Hid (BkBox x N 0 0 (.slice none 0 0) 0) ∧ Hid (Below N w x))
      case first =>
        go_wp2_with fail
        go_meet
        exact ⟨rfl, Lib.hid Z2.out.1, Lib.hid Z2.out.2⟩
      case rest =>
      clear p0 p1 p2 p3 f0 f1 f2 f3 Z2
      obtain ⟨rfl, BQ, KQ⟩ := hcut
      obtain ⟨p0, p1, p2, p3⟩ := BQ.out.cells
      go_wp2_with fail
      refine bodyPost_ret (v := .tuple #[bkV 0 0 (.slice none 0 0) 0, .int .i64 2]) (by simp [results, Tryd.results13, go_sem, p0, p1, p2, p3]) rfl ?_
      exact RReadBE.bad RX.out.2 RX.out.1 (BW.out _ KQ.out) (.inr ⟨HF.out, L, PO.out, HNE.out⟩)
set_option maxRecDepth 100000 in
set_option maxHeartbeats 4000000 in
theorem rRead_short (v : Value) (l : List UInt8) (w : World) (hv : IsBytes w v l) (h2 : l.length < 2) :
    Calls Tryd.prog 13 #[v] w (RReadBE w.heap.size l w) := by
  obtain ⟨oa, cap, rfl, hm⟩ := bytes_slice hv
  have e1 : (l.length : Int) < 2 := by omega
  have HSS := Lib.hid (show l.length < Pl.rdSize l from by unfold Pl.rdSize; rw [if_pos h2]; omega)
  clear hv hm
  obtain ⟨n, hn⟩ : ∃ n, l.length = n := ⟨_, rfl⟩
  rw [hn] at e1 ⊢
  clear hn h2
  obtain ⟨N, hN⟩ : ∃ N, w.heap.size = N := ⟨_, rfl⟩
  have kA : Below w.heap.size w (w.alloc (.cells #[.int .i64 0, .int .i64 0, .slice none 0 0, .int .i64 0] 25)) := (Below.refl _ _).alloc (Nat.le_refl _) _
  go_enter Tryd.func13, Tryd.ntmps13
  go_upto_region 2 with fail
  have BX : Hid (BkBox (w.alloc (.cells #[.int .i64 0, .int .i64 0, .slice none 0 0, .int .i64 0] 25)) N 0 0 (.slice none 0 0) 0) := Lib.hid (by rw [← hN]; exact obj_new _ _)
  refine abs_b (fun y => Hid (BkBox y N 0 0 (.slice none 0 0) 0) ∧ Hid (Below N w y)) ⟨BX, Lib.hid (by rw [← hN]; exact kA)⟩ ?_
  try rw [hN]
  have HN := Lib.hid hN
  clear BX kA hN e1
  rintro y ⟨BZ, KY⟩
  obtain ⟨p0, p1, p2, p3⟩ := BZ.out.cells
  obtain ⟨f0, f1, f2, f3⟩ := BZ.out.free
  have Z2 := Lib.hid (rd_zero BZ.out KY.out)
  go_cut [3] (fun s3 x => s3 = .int .i64 8 ∧ Hid (BkBox x N 0 0 (.slice none 0 0) 0) ∧ Hid (Below N w x))
  case first =>
    go_wp2_with fail
    go_meet
    exact ⟨rfl, Lib.hid Z2.out.1, Lib.hid Z2.out.2⟩
  case rest =>
  clear p0 p1 p2 p3 f0 f1 f2 f3 Z2
  obtain ⟨rfl, BQ, KQ⟩ := hcut
  obtain ⟨p0, p1, p2, p3⟩ := BQ.out.cells
  go_wp2_with fail
  refine bodyPost_ret (v := .tuple #[bkV 0 0 (.slice none 0 0) 0, .int .i64 8]) (by simp [results, Tryd.results13, go_sem, p0, p1, p2, p3]) rfl ?_
  exact RReadBE.short HSS.out (by rw [HN.out]; exact KQ.out)
theorem rRead_any (v : Value) (l : List UInt8) (w : World) (hv : IsBytes w v l) (hl : l.length ≤ 2000000) :
    Calls Tryd.prog 13 #[v] w (RReadBE w.heap.size l w) := by
  by_cases h2 : l.length < 2
  · exact rRead_short v l w hv h2
  · exact rRead_long v l w hv hl (by omega)
end Go.Proofs.YthbcdpckckellaaDoor

/-! Package back and its reference, both ways of each call in one. -/
namespace Go.Proofs.YthbcdpckckellaaDoor
open Go.RowKit
set_option linter.unusedVariables false
set_option linter.unusedSimpArgs false
theorem backReadW (v : Value) (l : List UInt8) (w : World) (hv : IsBytes w v l) (hl : l.length ≤ 2000000) :
    Calls Tryd.prog 14 #[v] w (ReadBE w.heap.size l w) := by
  by_cases h : l.length < Pl.rdSize l
  · exact backRead_short v l w hv (by omega) h
  · by_cases h1 : (l.getD 0 0).toNat = 1
    · exact backRead_1 v l w hv hl h h1
    · exact backRead_2 v l w hv (by omega) h h1
/-- the pairs, or none -/
def PR (A : List Int) (L : List Pr) : Prop := (Pl.pairF A ≠ 0 ∧ L = []) ∨ (Pl.pairF A = 0 ∧ Pl.PairsOf (· ∈ A) L)
theorem PR.eq {A : List Int} {L M : List Pr} (h : PR A L) (h' : PR A M) : L = M := by
  rcases h with ⟨a, rfl⟩ | ⟨a, b⟩ <;> rcases h' with ⟨c, rfl⟩ | ⟨c, d⟩
  · rfl
  · exact absurd c a
  · exact absurd a c
  · exact b.eq d
theorem pairs_w (v : Value) (A : List Int) (w : World) (h : Sl encI w v A) :
    Calls Tryd.prog 5 #[v] w fun e w' => ∃ (L : List Pr) (oa : Option Addr) (c : Nat), e = .returned (.tuple #[.slice oa L.length c, errV (Pl.pairF A)]) ∧ IsPrs w' (.slice oa L.length c) L ∧ PR A L ∧ Below w.heap.size w w' := by
  by_cases hp : Pl.pairF A = 0
  · refine (backPairs_ok v A hp w h).mono fun e w' ⟨L, oa, c, q1, q2, q3, _, _, _, q4⟩ => ⟨L, oa, c, by rw [q1, hp]; rfl, q2, .inr ⟨hp, q3⟩, q4⟩
  · refine (backPairs_bad v A hp w h).mono fun e w' ⟨q1, q2⟩ => ⟨[], none, 0, by rw [q1, errV_hit _ hp]; rfl, IsPrs.nil _, .inl ⟨hp, rfl⟩, q2⟩
theorem rpairs_w (v : Value) (A : List Int) (w : World) (h : Sl encI w v A) :
    Calls Tryd.prog 4 #[v] w fun e w' => ∃ (L : List Pr) (oa : Option Addr) (c : Nat), e = .returned (.tuple #[.slice oa L.length c, .int .i64 (Pl.pairF A)]) ∧ IsPrs w' (.slice oa L.length c) L ∧ PR A L ∧ Below w.heap.size w w' := by
  by_cases hp : Pl.pairF A = 0
  · refine (rPairs_ok v A hp w h).mono fun e w' ⟨L, oa, c, q1, q2, q3, q4⟩ => ⟨L, oa, c, by rw [q1, hp], q2, .inr ⟨hp, q3⟩, q4⟩
  · refine (rPairs_bad v A hp w h).mono fun e w' ⟨q1, q2⟩ => ⟨[], none, 0, by rw [q1]; rfl, IsPrs.nil _, .inl ⟨hp, rfl⟩, q2⟩
/-- the numbers, or none -/
def NR (L : List Pr) (R : List Int) : Prop := (Pl.numF L ≠ 0 ∧ R = []) ∨ (Pl.numF L = 0 ∧ R.Pairwise (fun x y => x < y) ∧ ∀ i, i ∈ R ↔ i ∈ Pl.numsOf L)
theorem NR.eq {L : List Pr} {R S : List Int} (h : NR L R) (h' : NR L S) : R = S := by
  rcases h with ⟨a, rfl⟩ | ⟨a, b, b2⟩ <;> rcases h' with ⟨c, rfl⟩ | ⟨c, d, d2⟩
  · rfl
  · exact absurd c a
  · exact absurd a c
  · exact Pl.rises_same b d fun i => (b2 i).trans (d2 i).symm
theorem nums_w (v : Value) (L : List Pr) (w : World) (h : IsPrs w v L) :
    Calls Tryd.prog 9 #[v] w fun e w' => ∃ (R : List Int) (oa : Option Addr) (c : Nat), e = .returned (.tuple #[.slice oa R.length c, errV (Pl.numF L)]) ∧ Sl encI w' (.slice oa R.length c) R ∧ NR L R ∧ Below w.heap.size w w' := by
  by_cases hp : Pl.numF L = 0
  · refine (backNums_ok v L hp w h).mono fun e w' ⟨R, oa, c, q1, q2, q3, q4, q5⟩ => ⟨R, oa, c, by rw [q1, hp]; rfl, q2.sl, .inr ⟨hp, q3, q4⟩, q5⟩
  · refine (backNums_bad v L hp w h).mono fun e w' ⟨q1, q2⟩ => ⟨[], none, 0, by rw [q1, errV_hit _ hp]; rfl, Sl.nil _, .inl ⟨hp, rfl⟩, q2⟩
theorem rnums_w (v : Value) (L : List Pr) (w : World) (h : IsPrs w v L) :
    Calls Tryd.prog 8 #[v] w fun e w' => ∃ (R : List Int) (oa : Option Addr) (c : Nat), e = .returned (.tuple #[.slice oa R.length c, .int .i64 (Pl.numF L)]) ∧ Sl encI w' (.slice oa R.length c) R ∧ NR L R ∧ Below w.heap.size w w' := by
  by_cases hp : Pl.numF L = 0
  · refine (rNums_ok v L hp w h).mono fun e w' ⟨R, oa, c, q1, q2, q3, q4, q5⟩ => ⟨R, oa, c, by rw [q1, hp], q2.sl, .inr ⟨hp, q3, q4⟩, q5⟩
  · refine (rNums_bad v L hp w h).mono fun e w' ⟨q1, q2⟩ => ⟨[], none, 0, by rw [q1]; rfl, Sl.nil _, .inl ⟨hp, rfl⟩, q2⟩
/-- the bytes, or none -/
def BR (k t val : Int) (A : List Int) (bs : List UInt8) : Prop := (Pl.backF k t val A ≠ 0 ∧ bs = []) ∨ (Pl.backF k t val A = 0 ∧ ∃ L, Pl.PairsOf (· ∈ A) L ∧ bs = Pl.backBytes k t val L)
theorem BR.eq {k t val : Int} {A : List Int} {a b : List UInt8} (h : BR k t val A a) (h' : BR k t val A b) : a = b := by
  rcases h with ⟨a, rfl⟩ | ⟨a, L, b, rfl⟩ <;> rcases h' with ⟨c, rfl⟩ | ⟨c, M, d, rfl⟩
  · rfl
  · exact absurd c a
  · exact absurd a c
  · rw [b.eq d]
theorem enc_w (k t val : Int) (oa : Option Addr) (c : Nat) (A : List Int) (w : World) (hA : Sl encI w (.slice oa A.length c) A) :
    Calls Tryd.prog 12 #[bkV k t (.slice oa A.length c) val] w fun e w' => ∃ (bs : List UInt8) (o1 : Option Addr) (c1 : Nat), e = .returned (.tuple #[.slice o1 bs.length c1, errV (Pl.backF k t val A)]) ∧ IsBytes w' (.slice o1 bs.length c1) bs ∧ BR k t val A bs ∧ Below w.heap.size w w' := by
  refine (backEnc_any k t val oa c A w hA).mono fun e w' ⟨h1, h2⟩ => ?_
  rcases h2 with ⟨h2, h3⟩ | ⟨h2, v, L, h3, h4, h5⟩
  · exact ⟨[], none, 0, by rw [h3, errV_hit _ h2]; rfl, Sl.nil _, .inl ⟨h2, rfl⟩, h1⟩
  · have hb := h5.reads
    obtain ⟨o1, c1, rfl, -⟩ := bytes_slice hb
    exact ⟨_, o1, c1, by rw [h3, h2]; rfl, hb, .inr ⟨h2, L, h4, rfl⟩, h1⟩
theorem renc_w (k t val : Int) (oa : Option Addr) (c : Nat) (A : List Int) (w : World) (hA : Sl encI w (.slice oa A.length c) A) :
    Calls Tryd.prog 11 #[bkV k t (.slice oa A.length c) val] w fun e w' => ∃ (bs : List UInt8) (o1 : Option Addr) (c1 : Nat), e = .returned (.tuple #[.slice o1 bs.length c1, .int .i64 (Pl.backF k t val A)]) ∧ IsBytes w' (.slice o1 bs.length c1) bs ∧ BR k t val A bs ∧ Below w.heap.size w w' := by
  refine (rBackBytes_any k t val oa c A w hA).mono fun e w' ⟨h1, h2⟩ => ?_
  rcases h2 with ⟨h2, h3⟩ | ⟨h2, v, L, h3, h4, h5⟩
  · exact ⟨[], none, 0, by rw [h3]; rfl, Sl.nil _, .inl ⟨h2, rfl⟩, h1⟩
  · have hb := h5.reads
    obtain ⟨o1, c1, rfl, -⟩ := bytes_slice hb
    exact ⟨_, o1, c1, by rw [h3, h2], hb, .inr ⟨h2, L, h4, rfl⟩, h1⟩
theorem RdX.uniq {l : List UInt8} {k t val k' t' val' : Int} {A A' : List Int} (h : Pl.RdX l k t A val) (h' : Pl.RdX l k' t' A' val') : k = k' ∧ t = t' ∧ A = A' ∧ val = val' := by
  have hk := h.kind.trans h'.kind.symm
  subst hk
  refine ⟨rfl, h.track.trans h'.track.symm, ?_, h.value.trans h'.value.symm⟩
  have a := h.lost
  have b := h'.lost
  by_cases e : k = 1
  · rw [if_pos e] at a b
    rcases a with ⟨a, rfl⟩ | ⟨a, a2, a3⟩ <;> rcases b with ⟨c, rfl⟩ | ⟨c, c2, c3⟩
    · rfl
    · exact absurd c a
    · exact absurd a c
    · exact Pl.rises_same a2 c2 fun i => (a3 i).trans (c3 i).symm
  · rw [if_neg e] at a b
    rw [a, b]
/-- what is read, and the fault -/
def RR (l : List UInt8) (f k t : Int) (A : List Int) (val : Int) : Prop :=
  (l.length < Pl.rdSize l ∧ f = 8 ∧ k = 0 ∧ t = 0 ∧ A = [] ∧ val = 0) ∨ (¬ l.length < Pl.rdSize l ∧ ∃ (k0 t0 : Int) (A0 : List Int) (val0 : Int), Pl.RdX l k0 t0 A0 val0 ∧
    (((Pl.backF k0 t0 val0 A0 ≠ 0 ∨ (Pl.backF k0 t0 val0 A0 = 0 ∧ ∃ L, Pl.PairsOf (· ∈ A0) L ∧ Pl.backBytes k0 t0 val0 L ≠ l)) ∧ f = 2 ∧ k = 0 ∧ t = 0 ∧ A = [] ∧ val = 0) ∨
     (Pl.backF k0 t0 val0 A0 = 0 ∧ (∃ L, Pl.PairsOf (· ∈ A0) L ∧ Pl.backBytes k0 t0 val0 L = l) ∧ f = 0 ∧ k = k0 ∧ t = t0 ∧ A = A0 ∧ val = val0)))
theorem RR.eq {l : List UInt8} {f k t val f' k' t' val' : Int} {A A' : List Int} (h : RR l f k t A val) (h' : RR l f' k' t' A' val') : f = f' ∧ k = k' ∧ t = t' ∧ A = A' ∧ val = val' := by
  rcases h with ⟨a, rfl, rfl, rfl, rfl, rfl⟩ | ⟨a, k0, t0, A0, v0, hx, b⟩ <;> rcases h' with ⟨c, rfl, rfl, rfl, rfl, rfl⟩ | ⟨c, k1, t1, A1, v1, hy, d⟩
  · exact ⟨rfl, rfl, rfl, rfl, rfl⟩
  · exact absurd a c
  · exact absurd c a
  · obtain ⟨rfl, rfl, rfl, rfl⟩ := RdX.uniq hx hy
    have no : (Pl.backF k0 t0 v0 A0 ≠ 0 ∨ (Pl.backF k0 t0 v0 A0 = 0 ∧ ∃ L, Pl.PairsOf (· ∈ A0) L ∧ Pl.backBytes k0 t0 v0 L ≠ l)) → Pl.backF k0 t0 v0 A0 = 0 → (∃ L, Pl.PairsOf (· ∈ A0) L ∧ Pl.backBytes k0 t0 v0 L = l) → False := by
      rintro (h | ⟨_, L, h1, h2⟩) h0 ⟨M, h3, h4⟩
      · exact h h0
      · exact h2 (by rw [h1.eq h3]; exact h4)
    rcases b with ⟨b1, rfl, rfl, rfl, rfl, rfl⟩ | ⟨b1, b2, rfl, rfl, rfl, rfl, rfl⟩ <;> rcases d with ⟨d1, rfl, rfl, rfl, rfl, rfl⟩ | ⟨d1, d2, rfl, rfl, rfl, rfl, rfl⟩
    · exact ⟨rfl, rfl, rfl, rfl, rfl⟩
    · exact (no b1 d1 d2).elim
    · exact (no d1 b1 b2).elim
    · exact ⟨rfl, rfl, rfl, rfl, rfl⟩
theorem read_w (v : Value) (l : List UInt8) (w : World) (hv : IsBytes w v l) (hl : l.length ≤ 2000000) :
    Calls Tryd.prog 14 #[v] w fun e w' => ∃ (f k t : Int) (A : List Int) (val : Int) (oa : Option Addr) (c : Nat), e = .returned (.tuple #[bkV k t (.slice oa A.length c) val, errV f]) ∧ Sl encI w' (.slice oa A.length c) A ∧ RR l f k t A val ∧ Below w.heap.size w w' := by
  refine (backReadW v l w hv hl).mono fun e w' ⟨h1, h2⟩ => ?_
  by_cases hs : l.length < Pl.rdSize l
  · rw [if_pos hs] at h2
    exact ⟨8, 0, 0, [], 0, none, 0, h2, Sl.nil _, .inl ⟨hs, rfl, rfl, rfl, rfl, rfl⟩, h1⟩
  · rw [if_neg hs] at h2
    obtain ⟨k', t', A', val', hr, h3⟩ := h2
    rcases h3 with ⟨h4, h5⟩ | ⟨h4, h5, oa, c, h6, h7⟩
    · exact ⟨2, 0, 0, [], 0, none, 0, h5, Sl.nil _, .inr ⟨hs, k', t', A', val', hr, .inl ⟨h4, rfl, rfl, rfl, rfl, rfl⟩⟩, h1⟩
    · exact ⟨0, k', t', A', val', oa, c, h6, h7, .inr ⟨hs, k', t', A', val', hr, .inr ⟨h4, h5, rfl, rfl, rfl, rfl, rfl⟩⟩, h1⟩
theorem rread_w (v : Value) (l : List UInt8) (w : World) (hv : IsBytes w v l) (hl : l.length ≤ 2000000) :
    Calls Tryd.prog 13 #[v] w fun e w' => ∃ (f k t : Int) (A : List Int) (val : Int) (oa : Option Addr) (c : Nat), e = .returned (.tuple #[bkV k t (.slice oa A.length c) val, .int .i64 f]) ∧ Sl encI w' (.slice oa A.length c) A ∧ RR l f k t A val ∧ Below w.heap.size w w' := by
  refine (rRead_any v l w hv hl).mono fun e w' ⟨h1, h2⟩ => ?_
  by_cases hs : l.length < Pl.rdSize l
  · rw [if_pos hs] at h2
    exact ⟨8, 0, 0, [], 0, none, 0, h2, Sl.nil _, .inl ⟨hs, rfl, rfl, rfl, rfl, rfl⟩, h1⟩
  · rw [if_neg hs] at h2
    obtain ⟨k', t', A', val', hr, h3⟩ := h2
    rcases h3 with ⟨h4, h5⟩ | ⟨h4, h5, oa, c, h6, h7⟩
    · exact ⟨2, 0, 0, [], 0, none, 0, h5, Sl.nil _, .inr ⟨hs, k', t', A', val', hr, .inl ⟨h4, rfl, rfl, rfl, rfl, rfl⟩⟩, h1⟩
    · exact ⟨0, k', t', A', val', oa, c, h6, h7, .inr ⟨hs, k', t', A', val', hr, .inr ⟨h4, h5, rfl, rfl, rfl, rfl, rfl⟩⟩, h1⟩
end Go.Proofs.YthbcdpckckellaaDoor

/-! choirsame.Pairs, of two that read as the same. -/
namespace Go.Proofs.YthbcdpckckellaaDoor
open Go.RowKit
set_option linter.unusedVariables false
set_option linter.unusedSimpArgs false
set_option maxRecDepth 100000 in
set_option maxHeartbeats 2000000 in
theorem samePrs_eq (v1 v2 : Value) (L : List Pr) (w : World) (h1 : IsPrs w v1 L) (h2 : IsPrs w v2 L) :
    Calls Tryd.prog 7 #[v1, v2] w fun e w' => e = .returned (.bool true) ∧ ∃ n, w' = w.drewN n := by
  obtain ⟨o1, c1, rfl, l1, m1, -, g1⟩ := prs_read h1
  obtain ⟨o2, c2, rfl, l2, m2, -, g2⟩ := prs_read h2
  have G1 := Lib.hid g1
  have G2 := Lib.hid g2
  unfold maxLen at m1 m2
  clear g1 g2 h1 h2
  go_enter Tryd.func7, Tryd.ntmps7
  go_wp2
  go_loopw [5] (fun i wr => ∃ k n : Nat, k ≤ L.length ∧ i = .int .i64 k ∧ wr = w.drewN n) (fun i _ => L.length - (RowKit.intOf i).toNat)
  case atStart => exact ⟨0, 0, by omega, rfl, rfl⟩
  case round =>
    obtain ⟨k, n, hk, rfl, rfl⟩ := hrel
    by_cases hlt : k < L.length
    · obtain ⟨g, f, rfl, _, q0, q1, _⟩ := G1.out k hlt
      obtain ⟨g', f', rfl, _, p0, p1, _⟩ := G2.out k hlt
      generalize L[k] = x at *
      obtain ⟨a0, a1⟩ := x
      dsimp only at q0 q1 p0 p1
      go_wp2_with fail
      go_quiet (fail)
      go_wp2
      go_roundw
      case measure => simp [RowKit.intOf]; omega
      case rel => exact ⟨k + 1, _, by omega, by go_num, rfl⟩
    · have : k = L.length := by omega
      subst this
      go_wp2
      go_ret
      exact ⟨rfl, _, rfl⟩
theorem samePrs_b (v1 v2 : Value) (L : List Pr) (w : World) (h1 : IsPrs w v1 L) (h2 : IsPrs w v2 L) :
    Calls Tryd.prog 7 #[v1, v2] w fun e w' => e = .returned (.bool true) ∧ Below w.heap.size w w' :=
  (samePrs_eq v1 v2 L w h1 h2).mono fun e w' ⟨h, n, hn⟩ => ⟨h, by rw [hn]; exact Below.drewN (Below.refl _ _) n⟩
end Go.Proofs.YthbcdpckckellaaDoor

/-! The walk of the law BackPairs. -/
namespace Go.Proofs.YthbcdpckckellaaDoor
open Go.RowKit
set_option linter.unusedVariables false
set_option linter.unusedSimpArgs false
set_option maxRecDepth 100000 in
set_option maxHeartbeats 2000000 in
theorem walk_BackPairs_run (w : World) (oa0 : Option Addr) (ca0 : Nat) (A0 : List Int) (o0 : Sl encI w (.slice oa0 A0.length ca0) A0) (op : Option Addr) (cp : Nat) (L0 : List Pr) (o1 : IsPrs w (.slice op L0.length cp) L0) (k t val : Int) (oB : Option Addr) (cB : Nat) (A : List Int) (o2 : Sl encI w (.slice oB A.length cB) A) (oC : Option Addr) (cC : Nat) (lc : List UInt8) (o3 : IsBytes w (.slice oC lc.length cC) lc) (hb : lc.length ≤ 2000000) (hE : Env w) :
    Calls Tryd.prog 3 #[.slice oa0 A0.length ca0, .slice op L0.length cp, bkV k t (.slice oB A.length cB) val, .slice oC lc.length cC] w fun e w' => e = .returned (.bool true) ∧ Below w.heap.size w w' := by
  have H0 := Lib.hid o0
  have H1 := Lib.hid o1
  have H2 := Lib.hid o2
  have H3 := Lib.hid o3
  have HE := Lib.hid hE
  have HB := Lib.hid hb
  clear o0 o1 o2 o3 hb hE
  go_enter Tryd.func3, Tryd.ntmps3
  go_upto_region 1 with fail
  have kA : Below w.heap.size w (w.alloc (.cells #[.int .i64 k, .int .i64 t, .slice oB A.length cB, .int .i64 val] 25)) := (Below.refl _ _).alloc (Nat.le_refl _) _
  have BX0 : Hid (BkBox (w.alloc (.cells #[.int .i64 k, .int .i64 t, .slice oB A.length cB, .int .i64 val] 25)) w.heap.size k t (.slice oB A.length cB) val) := Lib.hid (obj_new _ _)
  have KA := Lib.hid kA
  refine abs_b (fun y => Hid (BkBox y w.heap.size k t (.slice oB A.length cB) val) ∧ Hid (Below w.heap.size w y)) ⟨BX0, KA⟩ ?_
  clear BX0 KA kA
  rintro y ⟨BX, KY⟩
  have P1 := Lib.hid (rpairs_w _ A0 y (H0.out.below KY.out))
  go_upto_region 2 with (go_at_call 4; (with_reducible refine P1.out.mono ?_); rintro e w1 ⟨L, oL, cL, rfl, p1, p2, k1⟩; have K1 := Lib.hid (KY.out.trans (k1.mono KY.out.size)); have I1 := Lib.hid p1; have R1 := Lib.hid p2; have BX1 := Lib.hid (show BkBox w1 w.heap.size k t (.slice oB A.length cB) val from Below.heapAt k1 BX.out (lt_of_block BX.out)); clear p1 p2 k1)
  clear P1 BX KY
  have P2 := Lib.hid (pairs_w _ A0 w1 (H0.out.below K1.out))
  go_upto_region 3 with (go_at_call 5; (with_reducible refine P2.out.mono ?_); rintro e w2 ⟨L2, oL2, cL2, rfl, p1, p2, k2⟩; obtain rfl : L2 = L := p2.eq R1.out; have K2 := Lib.hid (K1.out.trans (k2.mono K1.out.size)); have I2 := Lib.hid p1; have I3 := Lib.hid (I1.out.below k2); have BX2 := Lib.hid (show BkBox w2 w.heap.size k t (.slice oB A.length cB) val from Below.heapAt k2 BX1.out (lt_of_block BX1.out)); clear p1 p2 k2)
  clear P2 BX1 I1 R1 K1
  have E1 := Lib.hid (error_same (Pl.pairF A0) w2 (HE.out.below K2.out))
  go_upto_region 4 with (go_at_call 6; (with_reducible refine E1.out.mono ?_); rintro e w3 ⟨rfl, k3⟩; have K3 := Lib.hid (K2.out.trans (k3.mono K2.out.size)); have S3 := Lib.hid (samePrs_b _ _ _ w3 (I2.out.below k3) (I3.out.below k3)); have BX3 := Lib.hid (show BkBox w3 w.heap.size k t (.slice oB A.length cB) val from Below.heapAt k3 BX2.out (lt_of_block BX2.out)); clear k3)
  clear E1 BX2 I2 I3 K2
  go_upto_region 5 with (go_at_call 7; (with_reducible refine S3.out.mono ?_); rintro e w4 ⟨rfl, k4⟩; have K4 := Lib.hid (K3.out.trans (k4.mono K3.out.size)); have BX4 := Lib.hid (show BkBox w4 w.heap.size k t (.slice oB A.length cB) val from Below.heapAt k4 BX3.out (lt_of_block BX3.out)); clear k4)
  clear S3 BX3 K3
  generalize errV (Pl.pairF A0) = er1 at *
  generalize Pl.pairF A0 = pf1 at *
  have P1 := Lib.hid (rnums_w _ L0 w4 (H1.out.below K4.out))
  go_upto_region 6 with (go_at_call 8; (with_reducible refine P1.out.mono ?_); rintro e w5 ⟨R, oR, cR, rfl, p1, p2, k1⟩; have K5 := Lib.hid (K4.out.trans (k1.mono K4.out.size)); have I1 := Lib.hid p1; have R1 := Lib.hid p2; have BX5 := Lib.hid (show BkBox w5 w.heap.size k t (.slice oB A.length cB) val from Below.heapAt k1 BX4.out (lt_of_block BX4.out)); clear p1 p2 k1)
  clear P1 BX4 K4
  have P2 := Lib.hid (nums_w _ L0 w5 (H1.out.below K5.out))
  go_upto_region 7 with (go_at_call 9; (with_reducible refine P2.out.mono ?_); rintro e w6 ⟨R2, oR2, cR2, rfl, p1, p2, k2⟩; obtain rfl : R2 = R := p2.eq R1.out; have K6 := Lib.hid (K5.out.trans (k2.mono K5.out.size)); have I2 := Lib.hid p1; have I3 := Lib.hid (I1.out.below k2); have BX6 := Lib.hid (show BkBox w6 w.heap.size k t (.slice oB A.length cB) val from Below.heapAt k2 BX5.out (lt_of_block BX5.out)); clear p1 p2 k2)
  clear P2 BX5 I1 R1 K5
  have E1 := Lib.hid (error_same (Pl.numF L0) w6 (HE.out.below K6.out))
  go_upto_region 8 with (go_at_call 6; (with_reducible refine E1.out.mono ?_); rintro e w7 ⟨rfl, k3⟩; have K7 := Lib.hid (K6.out.trans (k3.mono K6.out.size)); have S3 := Lib.hid (sameInts_eq _ _ _ w7 (I2.out.below k3) (I3.out.below k3)); have BX7 := Lib.hid (show BkBox w7 w.heap.size k t (.slice oB A.length cB) val from Below.heapAt k3 BX6.out (lt_of_block BX6.out)); clear k3)
  clear E1 BX6 I2 I3 K6
  go_upto_region 9 with (go_at_call 10; (with_reducible refine S3.out.mono ?_); rintro e w8' ⟨rfl, nn, rfl⟩; have K8 := Lib.hid (Below.drewN K7.out nn); have BX8 := Lib.hid (show BkBox (w7.drewN nn) w.heap.size k t (.slice oB A.length cB) val from BX7.out))
  clear S3 BX7 K7
  generalize errV (Pl.numF L0) = er2 at *
  generalize Pl.numF L0 = pf2 at *
  generalize w7.drewN nn = w8 at *
  obtain ⟨c0, c1, c2, c3⟩ := BX8.out.cells
  have P1 := Lib.hid (renc_w k t val oB cB A w8 (H2.out.below K8.out))
  go_upto_region 10 with (go_at_call 11; (with_reducible refine P1.out.mono ?_); rintro e w9 ⟨bs, o1, c1', rfl, p1, p2, k1⟩; have K9 := Lib.hid (K8.out.trans (k1.mono K8.out.size)); have I1 := Lib.hid p1; have R1 := Lib.hid p2; have BX9 := Lib.hid (show BkBox w9 w.heap.size k t (.slice oB A.length cB) val from Below.heapAt k1 BX8.out (lt_of_block BX8.out)); clear p1 p2 k1)
  clear P1 BX8 K8 c0 c1 c2 c3
  obtain ⟨c0, c1, c2, c3⟩ := BX9.out.cells
  have P2 := Lib.hid (enc_w k t val oB cB A w9 (H2.out.below K9.out))
  go_upto_region 11 with (go_at_call 12; (with_reducible refine P2.out.mono ?_); rintro e w10 ⟨bs2, o2, c2', rfl, p1, p2, k2⟩; obtain rfl : bs2 = bs := p2.eq R1.out; have K10 := Lib.hid (K9.out.trans (k2.mono K9.out.size)); have I2 := Lib.hid p1; have I3 := Lib.hid (I1.out.below k2); clear p1 p2 k2)
  clear P2 BX9 I1 R1 K9 c0 c1 c2 c3
  have E1 := Lib.hid (error_same (Pl.backF k t val A) w10 (HE.out.below K10.out))
  go_upto_region 12 with (go_at_call 6; (with_reducible refine E1.out.mono ?_); rintro e w11 ⟨rfl, k3⟩; have K11 := Lib.hid (K10.out.trans (k3.mono K10.out.size)); have I4 := Lib.hid (I2.out.below k3); have I5 := Lib.hid (I3.out.below k3); clear k3)
  clear E1 I2 I3 K10
  generalize errV (Pl.backF k t val A) = er3 at *
  generalize Pl.backF k t val A = pf3 at *
  have P1 := Lib.hid (rread_w _ lc w11 (H3.out.below K11.out) HB.out)
  go_upto_region 13 with (go_at_call 13; (with_reducible refine P1.out.mono ?_); rintro e w12 ⟨f, k4, t4, A4, val4, o4, c4, rfl, p1, p2, k1⟩; have K12 := Lib.hid (K11.out.trans (k1.mono K11.out.size)); have I1 := Lib.hid p1; have R1 := Lib.hid p2; have I6 := Lib.hid (I4.out.below k1); have I7 := Lib.hid (I5.out.below k1); clear p1 p2 k1)
  clear P1 I4 I5 K11
  have kA : Below w12.heap.size w12 (w12.alloc (.cells #[.int .i64 k4, .int .i64 t4, .slice o4 A4.length c4, .int .i64 val4] 25)) := (Below.refl _ _).alloc (Nat.le_refl _) _
  have DX := Lib.hid (show BkBox (w12.alloc (.cells #[.int .i64 k4, .int .i64 t4, .slice o4 A4.length c4, .int .i64 val4] 25)) w12.heap.size k4 t4 (.slice o4 A4.length c4) val4 from obj_new _ _)
  have IA := Lib.hid (I1.out.below kA)
  have I8 := Lib.hid (I6.out.below kA)
  have I9 := Lib.hid (I7.out.below kA)
  have K13 := Lib.hid (K12.out.trans (kA.mono K12.out.size))
  refine abs_b (fun y => Hid (BkBox y w12.heap.size k4 t4 (.slice o4 A4.length c4) val4) ∧ Hid (Sl encI y (.slice o4 A4.length c4) A4) ∧ Hid (IsBytes y (.slice o2 bs2.length c2') bs2) ∧ Hid (IsBytes y (.slice o1 bs2.length c1') bs2) ∧ Hid (Below w.heap.size w y)) ⟨DX, IA, I8, I9, K13⟩ ?_
  generalize w12.heap.size = N4
  clear DX IA I8 I9 K13 kA I1 I6 I7 K12
  rintro y ⟨DX, IA, I8, I9, KY⟩
  have P2 := Lib.hid (read_w _ lc y (H3.out.below KY.out) HB.out)
  go_upto_region 14 with (go_at_call 14; (with_reducible refine P2.out.mono ?_); rintro e w14 ⟨f', k5, t5, A5, val5, o5, c5, rfl, p1, p2, k2⟩; obtain ⟨rfl, rfl, rfl, rfl, rfl⟩ := p2.eq R1.out; have K14 := Lib.hid (KY.out.trans (k2.mono KY.out.size)); have IB := Lib.hid p1; have IA2 := Lib.hid (IA.out.below k2); have IX := Lib.hid (I8.out.below k2); have IY := Lib.hid (I9.out.below k2); have DX2 := Lib.hid (show BkBox w14 N4 _ _ _ _ from Below.heapAt k2 DX.out (lt_of_block DX.out)); clear p1 p2 k2)
  clear P2 DX IA I8 I9 KY R1
  have kA : Below w14.heap.size w14 (w14.alloc (.cells #[.int .i64 k5, .int .i64 t5, .slice o5 A5.length c5, .int .i64 val5] 25)) := (Below.refl _ _).alloc (Nat.le_refl _) _
  have DY := Lib.hid (show BkBox (w14.alloc (.cells #[.int .i64 k5, .int .i64 t5, .slice o5 A5.length c5, .int .i64 val5] 25)) w14.heap.size k5 t5 (.slice o5 A5.length c5) val5 from obj_new _ _)
  have DX3 := Lib.hid (show BkBox (w14.alloc (.cells #[.int .i64 k5, .int .i64 t5, .slice o5 A5.length c5, .int .i64 val5] 25)) N4 k5 t5 (.slice o4 A5.length c4) val5 from Below.heapAt kA DX2.out (lt_of_block DX2.out))
  have IB3 := Lib.hid (IB.out.below kA)
  have IA3 := Lib.hid (IA2.out.below kA)
  have IX3 := Lib.hid (IX.out.below kA)
  have IY3 := Lib.hid (IY.out.below kA)
  have K15 := Lib.hid (K14.out.trans (kA.mono K14.out.size))
  refine abs_b (fun y => Hid (BkBox y w14.heap.size k5 t5 (.slice o5 A5.length c5) val5) ∧ Hid (BkBox y N4 k5 t5 (.slice o4 A5.length c4) val5) ∧ Hid (Sl encI y (.slice o5 A5.length c5) A5) ∧ Hid (Sl encI y (.slice o4 A5.length c4) A5) ∧ Hid (IsBytes y (.slice o2 bs2.length c2') bs2) ∧ Hid (IsBytes y (.slice o1 bs2.length c1') bs2) ∧ Hid (Below w.heap.size w y)) ⟨DY, DX3, IB3, IA3, IX3, IY3, K15⟩ ?_
  generalize w14.heap.size = N5
  clear DY DX3 IB3 IA3 IX3 IY3 K15 kA DX2 IB IA2 IX IY K14
  rintro y ⟨DY, DX, IB, IA, IX, IY, KY⟩
  have E1 := Lib.hid (error_same f' y (HE.out.below KY.out))
  go_upto_region 15 with (go_at_call 6; (with_reducible refine E1.out.mono ?_); rintro e w16 ⟨rfl, k3⟩; have K16 := Lib.hid (KY.out.trans (k3.mono KY.out.size)); have DY2 := Lib.hid (show BkBox w16 N5 _ _ _ _ from Below.heapAt k3 DY.out (lt_of_block DY.out)); have DX2 := Lib.hid (show BkBox w16 N4 _ _ _ _ from Below.heapAt k3 DX.out (lt_of_block DX.out)); have SB := Lib.hid (sameBk_eq k5 t5 val5 _ _ A5 w16 (IB.out.below k3) (IA.out.below k3)); have IX2 := Lib.hid (IX.out.below k3); have IY2 := Lib.hid (IY.out.below k3); clear k3)
  clear E1 DY DX IB IA IX IY KY
  obtain ⟨c0, c1, c2, c3⟩ := DY2.out.cells
  obtain ⟨d0, d1, d2, d3⟩ := DX2.out.cells
  go_upto_region 16 with (go_at_call 15; (with_reducible refine SB.out.mono ?_); rintro e w17 ⟨rfl, k3⟩; have K17 := Lib.hid (K16.out.trans (k3.mono K16.out.size)); have cv1 := conv_bytes (IX2.out.below k3); have cv2 := conv_bytes (IY2.out.below k3); clear k3)
  clear SB DY2 DX2 IX2 IY2 K16 c0 c1 c2 c3 d0 d1 d2 d3
  generalize strB bs2 = S1 at *
  go_wp2_with fail
  go_ret
  exact ⟨by first | rfl | simp, K17.out⟩
theorem walk_BackPairs (w : World) (v0 : Value) (A0 : List Int) (o0 : IsInts w v0 A0) (v1 : Value) (L0 : List Pr) (o1 : IsPrs w v1 L0) (v2 : Value) (p2 : Bk) (o2 : v2 = p2.val ∧ p2.Good w) (v3 : Value) (lc : List UInt8) (o3 : IsBytes w v3 lc) (hE : Env w) (hb0 : A0.length ≤ 1048576) (hb1 : L0.length ≤ 1048576) (hb2 : p2.A.length ≤ 1048576) (hb3 : lc.length ≤ 1048576) :
    Calls Tryd.prog 3 #[v0, v1, v2, v3] w fun e w' => e = .returned (.bool true) ∧ Below w.heap.size w w' := by
  obtain ⟨rfl, h⟩ := o2
  obtain ⟨pk, pt, plv, pA, pv⟩ := p2
  have hA := h.2.2.1.1
  dsimp only at hA
  obtain ⟨oa0, c0, rfl⟩ := ints_form o0.1
  obtain ⟨op, cp, rfl, -⟩ := prs_read o1
  obtain ⟨oB, cB, rfl⟩ := ints_form hA
  obtain ⟨oC, cC, rfl, -⟩ := bytes_slice o3
  exact walk_BackPairs_run w oa0 c0 A0 o0.1 op cp L0 o1 pk pt pv oB cB pA hA oC cC lc o3 (by omega) hE
end Go.Proofs.YthbcdpckckellaaDoor
