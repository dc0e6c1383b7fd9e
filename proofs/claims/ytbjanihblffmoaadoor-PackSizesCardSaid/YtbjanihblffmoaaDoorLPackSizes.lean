import Derived.Test.YtbjanihblffmoaaDoorSplitC
import Derived.Test.YtbjanihblffmoaaDoorPackE
import Derived.Test.YtbjanihblffmoaaDoorErrV
import Derived.Deep.QuietTactic
import Derived.BigQuiet
import Derived.Deep.DeepCutAuto
import Derived.Deep.RegionHeld3
/-! The walk of the law PackSizes. -/
namespace Go.Proofs.YtbjanihblffmoaaDoor
open Go.RowKit
set_option linter.unusedVariables false
set_option linter.unusedSimpArgs false
set_option maxRecDepth 100000 in
set_option maxHeartbeats 4000000 in
theorem walk_PackSizes_bad (w : World) (hE : Env w) (s t l lv : Int) (st : Bool) (oa : Option Addr) (bc : Nat) (bs : List UInt8) (hv : Sl encB w (.slice oa bs.length bc) bs) (hp : ¬ Pl.pkOk s t l lv bs.length) (k : Int) :
    Calls Tryd.prog 3 #[pkV s t l lv st (.slice oa bs.length bc), .int .i64 k] w fun e w' => e = .returned (.bool true) ∧ Below w.heap.size w w' := by
  have HP := Lib.hid hp
  have BA : Below w.heap.size w (w.alloc (.cells #[.int .i64 s, .int .i64 t, .int .i64 l, .int .i64 lv, .bool st, .slice oa bs.length bc] 24)) := (Below.refl _ _).alloc (Nat.le_refl _) _
  have EN := Lib.hid (pencode_bad s t l lv st (.slice oa bs.length bc) bs (w.alloc (.cells #[.int .i64 s, .int .i64 t, .int .i64 l, .int .i64 lv, .bool st, .slice oa bs.length bc] 24)) (hv.below BA) hp)
  have hbn : bs.length ≤ maxLen := hv.len
  have HBA := Lib.hid BA
  clear hp hv BA
  go_enter Tryd.func3, Tryd.ntmps3
  go_upto_region 2 with (go_at_call 5; (with_reducible refine EN.out.mono ?_); rintro e w2 ⟨rfl, k2⟩)
  have PX : PkIn (w.alloc (.cells #[.int .i64 s, .int .i64 t, .int .i64 l, .int .i64 lv, .bool st, .slice oa bs.length bc] 24)) w.heap.size s t l lv st (.slice oa bs.length bc) := obj_new _ _
  refine abs_to (fun y => Hid (Below w.heap.size w y) ∧ Hid (PkIn y w.heap.size s t l lv st (.slice oa bs.length bc))) ⟨Lib.hid (HBA.out.trans (k2.mono (by simp))), Lib.hid (Below.heapAt k2 PX (by simp))⟩ ?_
  clear EN HBA k2 PX
  rintro y ⟨KB, PX⟩
  have q0 := obj_cell PX.out (k := 0) rfl
  have q1 := obj_cell PX.out (k := 1) rfl
  have q2 := obj_cell PX.out (k := 2) rfl
  have q3 := obj_cell PX.out (k := 3) rfl
  have q4 := obj_cell PX.out (k := 4) rfl
  have q5 := obj_cell PX.out (k := 5) rfl
  have CK := Lib.hid (check_bad s t l lv st oa bs.length bc hbn HP.out y.drew)
  have kd : Below w.heap.size w y.drew := Below.drewN KB.out 1
  have HPB := Lib.hid (fun z (k : Below y.drew.heap.size y.drew z) => Below.heapAt k (show PkIn y.drew w.heap.size s t l lv st (.slice oa bs.length bc) from PX.out) (lt_of_block PX.out))
  go_cut [19] (fun v z => v = .bool false ∧ Hid (Below w.heap.size w z) ∧ Hid (PkIn z w.heap.size s t l lv st (.slice oa bs.length bc)))
  case first =>
    go_region_held3 (fun w' => w'.cell? ⟨w.heap.size, 0, none⟩ = some (.int .i64 s) ∧ w'.cell? ⟨w.heap.size, 1, none⟩ = some (.int .i64 t) ∧ w'.cell? ⟨w.heap.size, 2, none⟩ = some (.int .i64 l) ∧ w'.cell? ⟨w.heap.size, 3, none⟩ = some (.int .i64 lv) ∧ w'.cell? ⟨w.heap.size, 4, none⟩ = some (.bool st) ∧ w'.cell? ⟨w.heap.size, 5, none⟩ = some (.slice oa bs.length bc))
      (first | (exact ⟨q0, q1, q2, q3, q4, q5⟩) | (exact ⟨r0, r1, r2, r3, r4, r5⟩))
      (first
      | (go_at_call 6; (with_reducible refine CK.out.mono ?_); rintro e z1 ⟨rfl, k1⟩; have PX1 := HPB.out z1 k1; have K1 := Lib.hid (kd.trans (k1.mono (by have := KB.out.size; simp; omega))); have r0 := obj_cell PX1 (k := 0) rfl; have r1 := obj_cell PX1 (k := 1) rfl; have r2 := obj_cell PX1 (k := 2) rfl; have r3 := obj_cell PX1 (k := 3) rfl; have r4 := obj_cell PX1 (k := 4) rfl; have r5 := obj_cell PX1 (k := 5) rfl))
    go_wp2_with fail
    go_meet
    exact ⟨rfl, K1, Lib.hid PX1⟩
  case rest =>
  obtain ⟨rfl, K1, P1⟩ := hcut
  clear q0 q1 q2 q3 q4 q5 CK kd HPB KB PX
  go_wp2_with fail
  go_ret
  exact ⟨rfl, K1.out⟩
set_option maxRecDepth 100000 in
set_option maxHeartbeats 4000000 in
theorem walk_PackSizes_ok (w : World) (hE : Env w) (s t l lv : Int) (st : Bool) (oa : Option Addr) (bc : Nat) (bs : List UInt8) (hv : Sl encB w (.slice oa bs.length bc) bs) (hp : Pl.pkOk s t l lv bs.length) (k : Int) (hk' : -9223372036854775808 ≤ k ∧ k ≤ 9223372036854775807) :
    Calls Tryd.prog 3 #[pkV s t l lv st (.slice oa bs.length bc), .int .i64 k] w fun e w' => e = .returned (.bool true) ∧ Below w.heap.size w w' := by
  have HP := Lib.hid hp
  have BA : Below w.heap.size w (w.alloc (.cells #[.int .i64 s, .int .i64 t, .int .i64 l, .int .i64 lv, .bool st, .slice oa bs.length bc] 24)) := (Below.refl _ _).alloc (Nat.le_refl _) _
  have EN := Lib.hid (pencode_ok s t l lv st (.slice oa bs.length bc) bs (w.alloc (.cells #[.int .i64 s, .int .i64 t, .int .i64 l, .int .i64 lv, .bool st, .slice oa bs.length bc] 24)) (hv.below BA) hp)
  have hbn : bs.length ≤ 1000 := hp.2.2.2.2.2.2.2.2
  have HV := Lib.hid hv
  have HE := Lib.hid hE
  have HBA := Lib.hid BA
  clear hp hv BA hE
  go_enter Tryd.func3, Tryd.ntmps3
  go_upto_region 2 with (go_at_call 5; (with_reducible refine EN.out.mono ?_); rintro e w2 ⟨oe, ce, rfl, -, k2⟩)
  have PX : PkIn (w.alloc (.cells #[.int .i64 s, .int .i64 t, .int .i64 l, .int .i64 lv, .bool st, .slice oa bs.length bc] 24)) w.heap.size s t l lv st (.slice oa bs.length bc) := obj_new _ _
  refine abs_to (fun y => Hid (Below w.heap.size w y) ∧ Hid (PkIn y w.heap.size s t l lv st (.slice oa bs.length bc))) ⟨Lib.hid (HBA.out.trans (k2.mono (by simp))), Lib.hid (Below.heapAt k2 PX (by simp))⟩ ?_
  clear EN HBA k2 PX
  rintro y ⟨KB, PX⟩
  have q0 := obj_cell PX.out (k := 0) rfl
  have q1 := obj_cell PX.out (k := 1) rfl
  have q2 := obj_cell PX.out (k := 2) rfl
  have q3 := obj_cell PX.out (k := 3) rfl
  have q4 := obj_cell PX.out (k := 4) rfl
  have q5 := obj_cell PX.out (k := 5) rfl
  have CK := Lib.hid (check_ok s t l lv st oa bs.length bc HP.out y.drew)
  have kd : Below w.heap.size w y.drew := Below.drewN KB.out 1
  have HPB := Lib.hid (fun z (k : Below y.drew.heap.size y.drew z) => Below.heapAt k (show PkIn y.drew w.heap.size s t l lv st (.slice oa bs.length bc) from PX.out) (lt_of_block PX.out))
  go_cut [19] (fun v z => v = .bool false ∧ Hid (Below w.heap.size w z) ∧ Hid (PkIn z w.heap.size s t l lv st (.slice oa bs.length bc)))
  case first =>
    go_region_held3 (fun w' => w'.cell? ⟨w.heap.size, 0, none⟩ = some (.int .i64 s) ∧ w'.cell? ⟨w.heap.size, 1, none⟩ = some (.int .i64 t) ∧ w'.cell? ⟨w.heap.size, 2, none⟩ = some (.int .i64 l) ∧ w'.cell? ⟨w.heap.size, 3, none⟩ = some (.int .i64 lv) ∧ w'.cell? ⟨w.heap.size, 4, none⟩ = some (.bool st) ∧ w'.cell? ⟨w.heap.size, 5, none⟩ = some (.slice oa bs.length bc))
      (first | (exact ⟨q0, q1, q2, q3, q4, q5⟩) | (exact ⟨r0, r1, r2, r3, r4, r5⟩))
      (first
      | (go_at_call 6; (with_reducible refine CK.out.mono ?_); rintro e z1 ⟨rfl, k1⟩; have PX1 := HPB.out z1 k1; have K1 := Lib.hid (kd.trans (k1.mono (by have := KB.out.size; simp; omega))); have r0 := obj_cell PX1 (k := 0) rfl; have r1 := obj_cell PX1 (k := 1) rfl; have r2 := obj_cell PX1 (k := 2) rfl; have r3 := obj_cell PX1 (k := 3) rfl; have r4 := obj_cell PX1 (k := 4) rfl; have r5 := obj_cell PX1 (k := 5) rfl))
    go_wp2_with fail
    go_meet
    exact ⟨rfl, K1, Lib.hid PX1⟩
  case rest =>
  obtain ⟨rfl, K1, P1⟩ := hcut
  clear q0 q1 q2 q3 q4 q5 CK kd HPB KB PX y
  have q0 := obj_cell P1.out (k := 0) rfl
  have q1 := obj_cell P1.out (k := 1) rfl
  have q2 := obj_cell P1.out (k := 2) rfl
  have q3 := obj_cell P1.out (k := 3) rfl
  have q4 := obj_cell P1.out (k := 4) rfl
  have q5 := obj_cell P1.out (k := 5) rfl
  have EQ8 : (((8 + bs.length : Nat) : Int) != 8 + (bs.length : Int)) = false := by simp
  have ERR := Lib.hid (fun (f : Int) z (k : Below w.heap.size w z) => (error_same f z (HE.out.below k)).mono (fun e w' ⟨h1, h2⟩ => (show e = Ending.returned (.bool true) ∧ Below w.heap.size w w' from ⟨h1, k.trans (h2.mono k.size)⟩)))
  by_cases hk : 1 ≤ k ∧ k ≤ 1000
  case neg =>
    have HK := Lib.hid hk
    have SZ := Lib.hid (split_size s t l lv st oa bs.length bc k hk wc)
    have ER := Lib.hid (fun z (k : Below w.heap.size w z) => ERR.out 1 z k)
    rw [show errV 1 = .iface 48 (.int .i64 1) from rfl] at ER
    clear hk ERR
    go_wp2_with (first
      | (go_at_call 7; (with_reducible refine SZ.out.mono ?_); rintro e z2 ⟨rfl, k2⟩; have K2 := Lib.hid (K1.out.trans (k2.mono K1.out.size)); clear k2)
      | (go_at_call 8; (with_reducible refine (ER.out _ K2.out).mono ?_); rintro e z3 ⟨rfl, k3⟩; have K3 := Lib.hid k3; clear k3))
    all_goals first
      | (exfalso; have := HK.out; omega)
      | (go_ret; exact ⟨rfl, K3.out⟩)
  obtain ⟨hk1, hk2⟩ := hk
  obtain ⟨kn, hkn⟩ : ∃ kn : Nat, k = kn := ⟨k.toNat, by omega⟩
  subst hkn
  obtain ⟨N, hN⟩ : ∃ N, chunkN kn bs.length = N := ⟨_, rfl⟩
  have hcn : N ≤ bs.length + kn - 1 := by rw [← hN]; exact Nat.div_le_self _ _
  have Z1 : IntKind.i64.wrap ((bs.length : Int) + (kn : Int)) = (bs.length : Int) + (kn : Int) := by rw [IntKind.wrap_i64]; omega
  have Z2 : IntKind.i64.wrap ((bs.length : Int) + (kn : Int) - 1) = (bs.length : Int) + (kn : Int) - 1 := by rw [IntKind.wrap_i64]; omega
  have e3 : Int.tdiv ((bs.length : Int) + (kn : Int) - 1) (kn : Int) = (N : Int) := by
    rw [← hN]
    unfold chunkN
    rw [show (bs.length : Int) + (kn : Int) - 1 = ((bs.length + kn - 1 : Nat) : Int) by omega, ← Int.ofNat_tdiv]
  have Z3 : IntKind.i64.wrap (Int.tdiv ((bs.length : Int) + (kn : Int) - 1) (kn : Int)) = (N : Int) := by rw [e3, IntKind.wrap_i64]; omega
  have Z4 : wrap64 (N : Int) = (N : Int) := by unfold wrap64; omega
  have zk : ((kn : Int) == 0) = false := by simp; omega
  by_cases hfull : 200 < max 1 N
  · have SP := Lib.hid (split_full s t l lv st oa bc bs HP.out kn (by omega) (by rw [hN]; exact hfull) wc (HV.out.below K1.out))
    have ER := Lib.hid (fun z (k : Below w.heap.size w z) => ERR.out 4 z k)
    rw [show errV 4 = .iface 48 (.int .i64 4) from rfl] at ER
    have HF : 200 < N := by omega
    clear ERR hN hfull hcn
    go_upto_region 9 with (go_at_call 7; (with_reducible refine SP.out.mono ?_); rintro e z2 ⟨rfl, k2⟩; have K2 := Lib.hid (K1.out.trans (k2.mono K1.out.size)); have P2 := Lib.hid (Below.heapAt k2 P1.out (lt_of_block P1.out)); clear k2)
    have r5 : z2.cell? ⟨w.heap.size, 5, none⟩ = some (.slice oa bs.length bc) := obj_cell P2.out (k := 5) rfl
    clear q0 q1 q2 q3 q4 q5 SP P1 K1
    go_wp2_with (go_at_call 8; (with_reducible refine (ER.out _ K2.out).mono ?_); rintro e z3 ⟨rfl, k3⟩; have K3 := Lib.hid k3; clear k3)
    all_goals first
      | (exfalso; omega)
      | (go_ret; exact ⟨rfl, K3.out⟩)
  · have SP := Lib.hid (split_fits s t l lv st oa bc bs HP.out kn (by omega) (by rw [hN]; exact hfull) wc (HV.out.below K1.out))
    rw [hN] at SP
    clear ERR hN
    go_upto_region 9 with (go_at_call 7; (with_reducible refine SP.out.mono ?_); rintro e z2 ⟨v, P, rfl, hr, hl, -, k2⟩; have K2 := Lib.hid (K1.out.trans (k2.mono K1.out.size)); have P2 := Lib.hid (Below.heapAt k2 P1.out (lt_of_block P1.out)); have HL := Lib.hid hl; clear hl; obtain ⟨oP, cP, rfl, -⟩ := hr.read pktK_ok; clear k2 hr)
    have r5 : z2.cell? ⟨w.heap.size, 5, none⟩ = some (.slice oa bs.length bc) := obj_cell P2.out (k := 5) rfl
    clear q0 q1 q2 q3 q4 q5 SP P1 K1
    by_cases hN1 : N < 1
    · have hP1 : P.length = 1 := by have := HL.out; omega
      rw [hP1]
      go_wp2_with fail
      all_goals first
        | (exfalso; omega)
        | (go_ret; exact ⟨by first | rfl | simp, K2.out⟩)
    · have hP1 : P.length = N := by have := HL.out; omega
      rw [hP1]
      have hn2 : ¬ 200 < N := by omega
      go_wp2_with fail
      all_goals first
        | (exfalso; omega)
        | (go_ret; exact ⟨by first | rfl | simp, K2.out⟩)
theorem walk_PackSizes (w : World) (v0 : Value) (l0 : Pk) (o0 : v0 = l0.val ∧ l0.Good w) (a1 : Int) (wf1 : (Lit.int .i64 a1).wf = true) (hE : Env w) :
    Calls Tryd.prog 3 #[v0, .int .i64 a1] w fun e w' => e = .returned (.bool true) ∧ Below w.heap.size w w' := by
  obtain ⟨rfl, g⟩ := o0
  have hb : IsBytes w l0.bv l0.body := g.2.2.2.2
  obtain ⟨oa, c, e, _⟩ := bytes_slice hb
  have ev : l0.val = pkV l0.s l0.t l0.l l0.lv l0.st (.slice oa l0.body.length c) := by rw [← e]; rfl
  rw [ev]
  rw [e] at hb
  have hw : -9223372036854775808 ≤ a1 ∧ a1 ≤ 9223372036854775807 := by
    have := wf1
    simp [Lit.wf, IntKind.min, IntKind.max, IntKind.signed, IntKind.bits] at this
    omega
  by_cases hp : Pl.pkOk l0.s l0.t l0.l l0.lv l0.body.length
  · exact walk_PackSizes_ok w hE _ _ _ _ _ _ _ _ hb hp a1 hw
  · exact walk_PackSizes_bad w hE _ _ _ _ _ _ _ _ hb hp a1
end Go.Proofs.YtbjanihblffmoaaDoor
