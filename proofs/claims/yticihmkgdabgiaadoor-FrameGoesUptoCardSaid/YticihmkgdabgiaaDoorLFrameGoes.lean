import Derived.Test.YticihmkgdabgiaaDoorFrameAny
import Derived.Test.YticihmkgdabgiaaDoorOpenFr
import Derived.Deep.DeepCutAuto
/-! The walk of the law FrameGoes. -/
namespace Go.Proofs.YticihmkgdabgiaaDoor
open Go.RowKit
set_option linter.unusedVariables false
set_option linter.unusedSimpArgs false
theorem refFrameBytes_any' (t o1 ep h : Int) (bv : Value) (l : List UInt8) (w : World) (hv : IsBytes w bv l) (hf : Pl.frFault t o1 ep h l = 0) :
    Calls Tryd.prog 16 #[frV t o1 ep h bv] w fun e w' => ∃ oa n c, e = .returned (.slice oa n c) ∧ IsBytes w' (.slice oa n c) (Pl.frBytes t o1 ep h l) ∧ Below w.heap.size w w' :=
  (refFrameBytes_any t o1 ep h bv l w hv hf).mono fun e w' ⟨oa, c, h1, h2, h3⟩ => ⟨oa, _, c, h1, h2.reads, h3⟩
structure FG (N : Nat) (w : World) (t o ep h : Int) (bv s6 : Value) (X : List UInt8) (z : World) : Prop where
  m : FrMem z N t o ep h bv
  b6 : IsBytes z s6 X
  kb : Below N w z
namespace FG
variable {N : Nat} {w : World} {t o ep h : Int} {bv s6 : Value} {X : List UInt8} {z z' : World}
theorem next (g : FG N w t o ep h bv s6 X z) (k : Below z.heap.size z z') : FG N w t o ep h bv s6 X z' :=
  ⟨Below.heapAt k g.m (lt_of_block g.m), g.b6.below k, g.kb.trans (k.mono (Nat.le_of_lt (lt_of_block g.m)))⟩
end FG
set_option maxRecDepth 100000 in
set_option maxHeartbeats 4000000 in
theorem walk_FrameGoes_run (w : World) (t o ep h : Int) (ob : Option Addr) (cb : Nat) (body : List UInt8) (hv : IsBytes w (.slice ob body.length cb) body) (o1 : Option Addr) (c1 : Nat) (l : List UInt8) (hl : IsBytes w (.slice o1 l.length c1) l) (hb : l.length ≤ 100000000) (hE : Env w)
    (k kr kp rt ro re rh : Int) (X rx P : List UInt8) (hk : Pl.frFault t o ep h body = k) (hX : Pl.encX t o ep h body = X)
    (hkr : Pl.frReadFault l = kr) (hrt : Pl.rdT l = rt) (hro : Pl.rdO l = ro) (hre : Pl.rdE l = re) (hrh : Pl.rdH l = rh) (hrx : Pl.rdX l = rx)
    (hkp : Pl.passFault l = kp) (hP : Pl.passX l = P) (hr0 : -9223372036854775808 ≤ rh) (hr1 : rh < 9223372036854775807) :
    Calls Tryd.prog 4 #[frV t o ep h (.slice ob body.length cb), .slice o1 l.length c1] w fun e w' => e = .returned (.bool true) ∧ Below w.heap.size w w' := by
  have HV := Lib.hid hv
  have HL := Lib.hid hl
  have HE := Lib.hid hE
  have HX0 := Lib.hid (show k = 0 → Pl.frFault t o ep h body = 0 ∧ X = Pl.frBytes t o ep h body from fun e => by
    rw [hk]; refine ⟨e, ?_⟩; rw [← hX]; unfold Pl.encX; rw [hk, if_pos e])
  have HX1 := Lib.hid (show k ≠ 0 → X = [] from fun e => by rw [← hX]; unfold Pl.encX; rw [hk, if_neg e])
  have HKP := Lib.hid (show kp = if kr = 0 then (if rh = 64 then 6 else 0) else kr from by rw [← hkp, ← hkr, ← hrh]; rfl)
  have HP0 := Lib.hid (show kp = 0 → Pl.frFault rt ro re (rh + 1) rx = 0 ∧ P = Pl.frBytes rt ro re (rh + 1) rx from fun e => by
    have h1 : Pl.passFault l = 0 := hkp.trans e
    refine ⟨?_, ?_⟩
    · unfold Pl.passFault at h1
      by_cases q : Pl.frReadFault l = 0
      · rw [if_pos q] at h1
        have f := Pl.rd_ok q
        rw [hrt, hro, hre, hrh, hrx] at f
        refine Pl.hop_ok f ?_
        intro q2
        rw [hrh, if_pos q2] at h1
        cases h1
      · rw [if_neg q] at h1; exact absurd h1 q
    · rw [← hP, ← hrt, ← hro, ← hre, ← hrh, ← hrx]; unfold Pl.passX; rw [if_pos h1])
  have HP1 := Lib.hid (show kp ≠ 0 → P = [] from fun e => by rw [← hP]; unfold Pl.passX; rw [hkp, if_neg e])
  have RF := Lib.hid (fun y (hh : Below w.heap.size w y) => by have q := refFrame_any t o ep h _ body y (hv.below hh); rw [hk] at q; exact q)
  have RB := Lib.hid (fun y (hh : Below w.heap.size w y) => refFrameBytes_any' t o ep h _ body y (hv.below hh))
  have FC := Lib.hid (fun y (hh : Below w.heap.size w y) => by have q := fcheck_any t o ep h _ body y (hv.below hh); rw [hk] at q; exact q)
  have FE := Lib.hid (fun y (hh : Below w.heap.size w y) => by have q := fencode_any t o ep h _ body y (hv.below hh); rw [hk, hX] at q; exact q)
  have RR := Lib.hid (fun y (hh : Below w.heap.size w y) => by have q := refReadFrame_any _ l y (hl.below hh); rw [hkr, hrt, hro, hre, hrh, hrx] at q; exact q)
  have FR := Lib.hid (fun y (hh : Below w.heap.size w y) => by have q := fread_any _ l y (hl.below hh) hb; rw [hkr, hrt, hro, hre, hrh, hrx] at q; exact q)
  have FP := Lib.hid (fun y (hh : Below w.heap.size w y) => by have q := fpass_any _ l y (hl.below hh) hb; rw [hkp, hP] at q; exact q)
  have ES := Lib.hid (fun (j : Int) y (hh : Below w.heap.size w y) => errK_same j y (hE.below hh))
  clear hv hl hE hk hX hkr hrt hro hre hrh hrx hkp hP
  have hN : ∃ N, N = w.heap.size := ⟨_, rfl⟩
  obtain ⟨N, hN⟩ := hN
  have HN := Lib.hid hN
  rw [← hN] at RF RB FC FE RR FR FP ES
  clear hN
  go_enter Tryd.func4, Tryd.ntmps4
  go_upto_region 1 with fail
  refine abs_k (fun y => FrMem y w.heap.size t o ep h (.slice ob body.length cb) ∧ Hid (Below w.heap.size w y)) ⟨obj_new _ _, Lib.hid ((Below.refl _ _).alloc (Nat.le_refl _) _)⟩ ?_
  rw [← HN.out]
  rintro y1 ⟨m1, K1⟩
  have M1 := Lib.hid m1
  have p0 := obj_cell m1 (k := 0) rfl
  have p1 := obj_cell m1 (k := 1) rfl
  have p2 := obj_cell m1 (k := 2) rfl
  have p3 := obj_cell m1 (k := 3) rfl
  have p4 := obj_cell m1 (k := 4) rfl
  clear m1
  have RFy := Lib.hid (RF.out y1 K1.out)
  go_upto_region 3 with (go_at_call 15; (with_reducible refine RFy.out.mono ?_); rintro e y2 ⟨rfl, k2⟩)
  refine abs_k (fun y => FrMem y N t o ep h (.slice ob body.length cb) ∧ Hid (Below N w y)) ⟨Below.heapAt k2 M1.out (lt_of_block M1.out), Lib.hid (K1.out.trans (k2.mono (Nat.le_of_lt (lt_of_block M1.out))))⟩ ?_
  clear p0 p1 p2 p3 p4 k2 M1 K1 RFy RF
  rintro y3 ⟨m1, K1⟩
  have M1 := Lib.hid m1
  have p0 := obj_cell m1 (k := 0) rfl
  have p1 := obj_cell m1 (k := 1) rfl
  have p2 := obj_cell m1 (k := 2) rfl
  have p3 := obj_cell m1 (k := 3) rfl
  have p4 := obj_cell m1 (k := 4) rfl
  clear m1
  go_upto_if 21 with fail
  go_cut [6] (fun s6 z => ∃ oa n c, s6 = .slice oa n c ∧ FrMem z N t o ep h (.slice ob body.length cb) ∧ Hid (IsBytes z (.slice oa n c) X) ∧ Hid (Below N w z))
  case first =>
    by_cases h0 : k = 0
    · obtain ⟨e1, e2⟩ := HX0.out h0
      subst h0
      have RBy := Lib.hid (RB.out y3 K1.out e1)
      rw [← e2] at RBy
      clear e1 e2
      go_wp2_with (go_at_call 16; (with_reducible refine RBy.out.mono ?_); rintro e z ⟨oa, n, c, rfl, b2, k2⟩)
      go_meet
      exact ⟨oa, n, c, rfl, Below.heapAt k2 M1.out (lt_of_block M1.out), Lib.hid b2, Lib.hid (K1.out.trans (k2.mono (Nat.le_of_lt (lt_of_block M1.out))))⟩
    · have d : (k == 0) = false := by rw [beq_eq_false_iff_ne]; exact h0
      have e := HX1.out h0
      clear h0
      go_wp2_with fail
      go_meet
      exact ⟨none, 0, 0, rfl, M1.out, Lib.hid (by rw [e]; exact Sl.nil _), K1⟩
  case rest =>
  clear p0 p1 p2 p3 p4 M1 K1 RB HX0 HX1
  obtain ⟨o6, n6, c6, rfl, m1, R6, K1⟩ := hcut
  go_upto_region 5 with fail
  have G := Lib.hid (show FG N w t o ep h (.slice ob body.length cb) (.slice o6 n6 c6) X _ from ⟨m1, R6.out, K1.out⟩)
  clear m1 R6 K1
  have p0 := obj_cell G.out.m (k := 0) rfl
  have p1 := obj_cell G.out.m (k := 1) rfl
  have p2 := obj_cell G.out.m (k := 2) rfl
  have p3 := obj_cell G.out.m (k := 3) rfl
  have p4 := obj_cell G.out.m (k := 4) rfl
  go_upto_region 8 with (first
    | (go_at_call 17; (with_reducible refine (FC.out _ G.out.kb).mono ?_); rintro e z ⟨rfl, kk⟩; have G := Lib.hid (G.out.next kk); clear kk; have p0 := obj_cell G.out.m (k := 0) rfl; have p1 := obj_cell G.out.m (k := 1) rfl; have p2 := obj_cell G.out.m (k := 2) rfl; have p3 := obj_cell G.out.m (k := 3) rfl; have p4 := obj_cell G.out.m (k := 4) rfl)
    | (go_at_call 13; (with_reducible refine (ES.out k _ G.out.kb).mono ?_); rintro e z ⟨rfl, kk⟩; have G := Lib.hid (G.out.next kk); have R8 := Lib.hid (R8.out.below kk); clear kk; have p0 := obj_cell G.out.m (k := 0) rfl; have p1 := obj_cell G.out.m (k := 1) rfl; have p2 := obj_cell G.out.m (k := 2) rfl; have p3 := obj_cell G.out.m (k := 3) rfl; have p4 := obj_cell G.out.m (k := 4) rfl)
    | (go_at_call 13; (with_reducible refine (ES.out k _ G.out.kb).mono ?_); rintro e z ⟨rfl, kk⟩; have G := Lib.hid (G.out.next kk); clear kk; have p0 := obj_cell G.out.m (k := 0) rfl; have p1 := obj_cell G.out.m (k := 1) rfl; have p2 := obj_cell G.out.m (k := 2) rfl; have p3 := obj_cell G.out.m (k := 3) rfl; have p4 := obj_cell G.out.m (k := 4) rfl)
    | (go_at_call 10; (with_reducible refine (FE.out _ G.out.kb).mono ?_); rintro e z ⟨o8, n8, c8, rfl, b8, kk⟩; have G := Lib.hid (G.out.next kk); have R8 := Lib.hid b8; clear kk b8; have p0 := obj_cell G.out.m (k := 0) rfl; have p1 := obj_cell G.out.m (k := 1) rfl; have p2 := obj_cell G.out.m (k := 2) rfl; have p3 := obj_cell G.out.m (k := 3) rfl; have p4 := obj_cell G.out.m (k := 4) rfl)
    | fail)
  clear p0 p1 p2 p3 p4 FC FE
  have FGy := Lib.hid (RR.out _ G.out.kb)
  go_upto_region 9 with (go_at_call 18; (with_reducible refine FGy.out.mono ?_); rintro e z ⟨ox, nx, cx, rfl, bx, kk⟩; have G := Lib.hid (G.out.next kk); have R8 := Lib.hid (R8.out.below kk); have RX := Lib.hid bx; clear kk bx)
  have hB : ∃ B, B = z.heap.size := ⟨_, rfl⟩
  obtain ⟨B, hB⟩ := hB
  refine abs_k (fun y => FG N w t o ep h (.slice ob body.length cb) (.slice o6 n6 c6) X y ∧ IsBytes y (.slice o8 n8 c8) X ∧ IsBytes y (.slice ox nx cx) rx ∧ FrMem y z.heap.size rt ro re rh (.slice ox nx cx) ∧ Below z.heap.size z y) ⟨G.out.next (Below.alloc (Below.refl _ _) (Nat.le_refl _) _), R8.out.below (Below.alloc (Below.refl _ _) (Nat.le_refl _) _), RX.out.below (Below.alloc (Below.refl _ _) (Nat.le_refl _) _), obj_new _ _, Below.alloc (Below.refl _ _) (Nat.le_refl _) _⟩ ?_
  have GB := G
  have R8B := R8
  have RXB := RX
  have HNB := Lib.hid (show N < B by rw [hB]; exact lt_of_block G.out.m)
  rw [← hB]
  have HBZ := Lib.hid hB
  clear hB G R8 RX FGy RR
  rintro y4 ⟨G, R8, RX, mx, kb⟩
  have KB := Lib.hid kb
  clear kb
  have G := Lib.hid G
  have R8 := Lib.hid R8
  have RX := Lib.hid RX
  have MX := Lib.hid mx
  clear mx
  have FGy := Lib.hid (FR.out _ G.out.kb)
  go_upto_region 10 with (go_at_call 11; (with_reducible refine FGy.out.mono ?_); rintro e z5 ⟨oy, ny, cy, rfl, by_, kk⟩; have KB := Lib.hid (KB.out.trans (kk.mono (Nat.le_of_lt (lt_of_block MX.out)))); have G := Lib.hid (G.out.next kk); have R8 := Lib.hid (R8.out.below kk); have RX := Lib.hid (RX.out.below kk); have MX := Lib.hid (Below.heapAt kk MX.out (lt_of_block MX.out)); have RY := Lib.hid by_; clear kk by_)
  have hC : ∃ C, C = z5.heap.size := ⟨_, rfl⟩
  obtain ⟨C, hC⟩ := hC
  refine abs_k (fun y => FG N w t o ep h (.slice ob body.length cb) (.slice o6 n6 c6) X y ∧ IsBytes y (.slice o8 n8 c8) X ∧ IsBytes y (.slice ox nx cx) rx ∧ FrMem y B rt ro re rh (.slice ox nx cx) ∧ IsBytes y (.slice oy ny cy) rx ∧ FrMem y z5.heap.size rt ro re rh (.slice oy ny cy) ∧ Below B z y) ⟨G.out.next (Below.alloc (Below.refl _ _) (Nat.le_refl _) _), R8.out.below (Below.alloc (Below.refl _ _) (Nat.le_refl _) _), RX.out.below (Below.alloc (Below.refl _ _) (Nat.le_refl _) _), obj_old MX.out _, RY.out.below (Below.alloc (Below.refl _ _) (Nat.le_refl _) _), obj_new _ _, KB.out.alloc (Nat.le_of_lt (lt_of_block MX.out)) _⟩ ?_
  rw [← hC]
  clear hC G R8 RX FGy FR MX RY KB
  rintro y5 ⟨G, R8, RX, mx, RY, my, kb⟩
  have KB := Lib.hid kb
  clear kb
  have G := Lib.hid G
  have R8 := Lib.hid R8
  have RX := Lib.hid RX
  have RY := Lib.hid RY
  have MX := Lib.hid mx
  have MY := Lib.hid my
  clear mx my
  go_upto_region 11 with (go_at_call 13; (with_reducible refine (ES.out kr _ G.out.kb).mono ?_); rintro e z6 ⟨rfl, kk⟩; have KB := Lib.hid (KB.out.trans (kk.mono (Nat.le_of_lt (lt_of_block MX.out)))); have G := Lib.hid (G.out.next kk); have R8 := Lib.hid (R8.out.below kk); have RX := Lib.hid (RX.out.below kk); have RY := Lib.hid (RY.out.below kk); have MX := Lib.hid (Below.heapAt kk MX.out (lt_of_block MX.out)); have MY := Lib.hid (Below.heapAt kk MY.out (lt_of_block MY.out)); clear kk)
  have p0 := obj_cell MX.out (k := 0) rfl; have p1 := obj_cell MX.out (k := 1) rfl; have p2 := obj_cell MX.out (k := 2) rfl; have p3 := obj_cell MX.out (k := 3) rfl; have p4 := obj_cell MX.out (k := 4) rfl
  have q0 := obj_cell MY.out (k := 0) rfl; have q1 := obj_cell MY.out (k := 1) rfl; have q2 := obj_cell MY.out (k := 2) rfl; have q3 := obj_cell MY.out (k := 3) rfl; have q4 := obj_cell MY.out (k := 4) rfl
  have SF := Lib.hid (by have q := sameFr_any rt ro re rh rt ro re rh _ _ rx rx z6 RY.out RX.out; rw [show Pl.sameFr rt ro re rh rx rt ro re rh rx = true by simp [Pl.sameFr]] at q; exact q)
  go_upto_region 13 with (go_at_call 12; (with_reducible refine SF.out.mono ?_); rintro e z2 ⟨rfl, kk⟩; have KB := Lib.hid (KB.out.trans (kk.mono (Nat.le_of_lt (lt_of_block MX.out)))); have G := Lib.hid (G.out.next kk); have R8 := Lib.hid (R8.out.below kk); have RX := Lib.hid (RX.out.below kk); have MX := Lib.hid (Below.heapAt kk MX.out (lt_of_block MX.out)); clear kk)
  clear SF RY MY q0 q1 q2 q3 q4 p0 p1 p2 p3 p4
  refine abs_k (fun y => FG N w t o ep h (.slice ob body.length cb) (.slice o6 n6 c6) X y ∧ IsBytes y (.slice o8 n8 c8) X ∧ IsBytes y (.slice ox nx cx) rx ∧ FrMem y B rt ro re rh (.slice ox nx cx) ∧ Below B z y) ⟨G.out, R8.out, RX.out, MX.out, KB.out⟩ ?_
  clear G R8 RX MX KB
  rintro y6 ⟨G, R8, RX, mx, kb⟩
  have KB := Lib.hid kb
  clear kb
  have G := Lib.hid G
  have R8 := Lib.hid R8
  have RX := Lib.hid RX
  have MX := Lib.hid mx
  have q3 := obj_cell mx (k := 3) rfl
  clear mx
  go_cut [58] (fun s58 y => s58 = .bool (decide (kr = 0 ∧ rh = 64)) ∧ y6 = y)
  case first =>
    by_cases h0 : kr = 0
    · subst h0
      by_cases h1 : rh = 64
      · subst h1
        go_wp2_with fail
        go_meet
        exact ⟨rfl, rfl⟩
      · have d : (rh == 64) = false := by rw [beq_eq_false_iff_ne]; exact h1
        have E := Lib.hid h1
        clear h1
        go_wp2_with fail
        go_meet
        exact ⟨by simp [E.out], rfl⟩
    · have d : (kr == 0) = false := by rw [beq_eq_false_iff_ne]; exact h0
      have E := Lib.hid h0
      clear h0
      go_wp2_with fail
      go_meet
      exact ⟨by simp [E.out], rfl⟩
  case rest =>
  obtain ⟨rfl, rfl⟩ := hcut
  obtain ⟨g, hg⟩ : ∃ g, g = decide (kr = 0 ∧ rh = 64) := ⟨_, rfl⟩
  have HG := Lib.hid hg
  rw [← hg]
  clear hg
  go_upto_if 58 with fail
  go_cut [5] (fun s5 y => s5 = .int .i64 kp ∧ y6 = y)
  case first =>
    cases g
    · have E := Lib.hid (show kr = kp by
        have h1 : ¬ (kr = 0 ∧ rh = 64) := of_decide_eq_false HG.out.symm
        rw [HKP.out]
        by_cases h0 : kr = 0
        · rw [if_pos h0, if_neg (fun h2 => h1 ⟨h0, h2⟩)]; exact h0
        · rw [if_neg h0])
      go_wp2_with fail
      go_meet
      exact ⟨by rw [E.out], rfl⟩
    · have E := Lib.hid (show 6 = kp by
        have h1 : (kr = 0 ∧ rh = 64) := of_decide_eq_true HG.out.symm
        rw [HKP.out, if_pos h1.1, if_pos h1.2])
      go_wp2_with fail
      go_meet
      exact ⟨by rw [← E.out], rfl⟩
  case rest =>
  obtain ⟨rfl, rfl⟩ := hcut
  clear HG
  go_upto_if 60 with fail
  go_cut [15] (fun s15 y => ∃ oa n c, s15 = .slice oa n c ∧ Hid (FG N w t o ep h (.slice ob body.length cb) (.slice o6 n6 c6) X y) ∧ Hid (IsBytes y (.slice o8 n8 c8) X) ∧ Hid (IsBytes y (.slice oa n c) P))
  case first =>
    by_cases h0 : kp = 0
    · obtain ⟨e1, e2⟩ := HP0.out h0
      have E1 := Lib.hid e1
      have E2 := Lib.hid e2
      subst h0
      clear e1 e2
      have f3 := obj_free MX.out 3
      go_upto_region 17 with fail
      refine abs_k (fun y => FrMem y B rt ro re (rh + 1) (.slice ox nx cx) ∧ Below B z y) ⟨obj_set MX.out 3 (.int .i64 (rh + 1)), Below.setCell KB.out (Nat.le_refl _) _⟩ ?_
      clear q3 f3 G R8 RX MX KB
      rintro y7 ⟨mx, kb⟩
      have kb' : Below z.heap.size z y7 := by rw [← HBZ.out]; exact kb
      have G := Lib.hid (GB.out.next kb')
      have R8 := Lib.hid (R8B.out.below kb')
      have RX := Lib.hid (RXB.out.below kb')
      have q0 := obj_cell mx (k := 0) rfl
      have q1 := obj_cell mx (k := 1) rfl
      have q2 := obj_cell mx (k := 2) rfl
      have q3 := obj_cell mx (k := 3) rfl
      have q4 := obj_cell mx (k := 4) rfl
      clear kb kb' mx
      have RBy := Lib.hid (by have q := refFrameBytes_any' rt ro re (rh + 1) _ rx y7 RX.out E1.out; rw [← E2.out] at q; exact q)
      go_wp2_with (go_at_call 16; (with_reducible refine RBy.out.mono ?_); rintro e z9 ⟨oa, n, c, rfl, b2, k2⟩)
      go_meet
      exact ⟨oa, n, c, rfl, Lib.hid (G.out.next k2), Lib.hid (R8.out.below k2), Lib.hid b2⟩
    · have d : (kp == 0) = false := by rw [beq_eq_false_iff_ne]; exact h0
      have e := HP1.out h0
      clear h0
      go_wp2_with fail
      go_meet
      exact ⟨none, 0, 0, rfl, G, R8, Lib.hid (by rw [e]; exact Sl.nil _)⟩
  case rest =>
  clear q3 G R8 RX MX HP0 HP1
  obtain ⟨o15, n15, c15, rfl, G, R8, R15⟩ := hcut
  go_upto_region 20 with (first
    | (go_at_call 14; (with_reducible refine (FP.out _ G.out.kb).mono ?_); rintro e z ⟨o16, n16, c16, rfl, b16, kk⟩; have G := Lib.hid (G.out.next kk); have R8 := Lib.hid (R8.out.below kk); have R15 := Lib.hid (R15.out.below kk); have R16 := Lib.hid b16; clear kk b16)
    | (go_at_call 13; (with_reducible refine (ES.out kp _ G.out.kb).mono ?_); rintro e z ⟨rfl, kk⟩; have G := Lib.hid (G.out.next kk); have R8 := Lib.hid (R8.out.below kk); have R15 := Lib.hid (R15.out.below kk); have R16 := Lib.hid (R16.out.below kk); clear kk)
    | fail)
  have u6 := conv_bytes G.out.b6
  have u8 := conv_bytes R8.out
  have u15 := conv_bytes R15.out
  have u16 := conv_bytes R16.out
  have K := Lib.hid G.out.kb
  generalize strB X = sX at *
  generalize strB P = sP at *
  clear G R8 R15 R16 FP ES
  go_wp2_with fail
  go_ret
  exact ⟨by simp, by have h := K.out; rw [HN.out] at h; exact h⟩
theorem Pl.rdH_bd (l : List UInt8) : 0 ≤ Pl.rdH l ∧ Pl.rdH l ≤ 255 := by
  unfold Pl.rdH
  split
  · have := (Pl.bAt (Pl.opened l) 3).toNat_lt
    omega
  · omega
theorem walk_FrameGoes (w : World) (v0 : Value) (l0 : Fr) (o0 : v0 = l0.val ∧ l0.Good w) (v1 : Value) (l1 : List UInt8) (o1 : IsBytes w v1 l1) (hE : Env w) (h1 : l0.body.length ≤ 1048576) (h2 : l1.length ≤ 1048576) :
    Calls Tryd.prog 4 #[v0, v1] w fun e w' => e = .returned (.bool true) ∧ Below w.heap.size w w' := by
  obtain ⟨rfl, _, _, _, _, hv⟩ := o0
  obtain ⟨t, o, ep, h, bv, body⟩ := l0
  obtain ⟨ob, cb, e2, _⟩ := bytes_slice hv
  dsimp only at e2 hv h1
  subst e2
  obtain ⟨oc, cc, rfl, _⟩ := bytes_slice o1
  have hd := Pl.rdH_bd l1
  exact walk_FrameGoes_run w t o ep h ob cb body hv oc cc l1 o1 (by omega) hE _ _ _ _ _ _ _ _ _ _ rfl rfl rfl rfl rfl rfl rfl rfl rfl rfl (by omega) (by omega)
end Go.Proofs.YticihmkgdabgiaaDoor
