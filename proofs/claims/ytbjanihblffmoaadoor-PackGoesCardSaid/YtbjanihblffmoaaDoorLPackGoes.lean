import Derived.Test.YtbjanihblffmoaaDoorRefFm
import Derived.Test.YtbjanihblffmoaaDoorPackE
import Derived.Test.YtbjanihblffmoaaDoorPkIn
import Derived.Test.YtbjanihblffmoaaDoorRecs
import Derived.Test.YtbjanihblffmoaaDoorSplitI
import Derived.Test.YtbjanihblffmoaaDoorSame
import Derived.Deep.QuietTactic
import Derived.BigQuiet
import Derived.Deep.DeepCutAuto
import Derived.Deep.RegionHeld3
import Derived.Test.YtbjanihblffmoaaDoorRefSplit
import Derived.Test.YtbjanihblffmoaaDoorSplitC
import Derived.Test.YtbjanihblffmoaaDoorRefRd
import Derived.Test.YtbjanihblffmoaaDoorReadGood
import Derived.Test.YtbjanihblffmoaaDoorErrV
import Derived.Test.YtbjanihblffmoaaDoorOpenPk
/-! The reference's PackBytes. -/
namespace Go.Proofs.YtbjanihblffmoaaDoor
open Go.RowKit
set_option linter.unusedVariables false
set_option linter.unusedSimpArgs false
set_option maxRecDepth 100000 in
set_option maxHeartbeats 4000000 in
theorem refPackBytes_aux (s t l lv : Int) (st : Bool) (u : Bool) (hu : u = st) (bv : Value) (b : List UInt8) (w : World) (hv : IsBytes w bv b) (h : Pl.pkOk s t l lv b.length) :
    Calls Tryd.prog 10 #[pkV s t l lv st bv] w fun e w' => ∃ oa c, e = .returned (.slice oa (8 + b.length) c) ∧ OwnB w' w.heap.size (.slice oa (8 + b.length) c) (Pl.pkBytes s t l lv u b) ∧ Below w.heap.size w w' := by
  obtain ⟨oa, c, rfl, hm⟩ := bytes_slice hv
  obtain ⟨h1, h2, h3, h4, h5, h6, h7, h8, h9⟩ := h
  have HV := Lib.hid hv
  have L2 := Lib.hid h9
  have HU := Lib.hid hu
  clear hv hu
  cases st
  all_goals
    have E0 := Lib.hid (show (Pl.pkHead l u) % 256 = ((Pl.byteAt (Pl.pkHead l u) 0).toNat : Int) from by rw [Pl.byteAt_toNat, show (256 : Int) ^ 0 = 1 by decide]; omega)
    rw [HU.out] at E0
    have E1 := Lib.hid (Pl.byte_lv lv h7 h8)
    go_enter Tryd.func10, Tryd.ntmps10
    go_upto_region 1 with fail
    refine abs_to (fun y => Hid (PkIn y w.heap.size s t l lv _ (.slice oa b.length c)) ∧ Hid (Below w.heap.size w y)) ⟨Lib.hid (obj_new _ _), Lib.hid ((Below.refl _ _).alloc (Nat.le_refl _) _)⟩ ?_
    obtain ⟨N, HN⟩ : ∃ N, w.heap.size = N := ⟨_, rfl⟩
    rw [HN]
    have HN' := Lib.hid HN
    clear HN
    rintro y ⟨PX, K1⟩
    have q2 := obj_cell PX.out (k := 2) rfl
    have q3 := obj_cell PX.out (k := 3) rfl
    have q4 := obj_cell PX.out (k := 4) rfl
    go_upto_region 5 with fail
    clear q2 q3 q4
    refine abs_to (fun z => Hid (PkIn z N s t l lv _ (.slice oa b.length c)) ∧ Hid (Below N w z) ∧ Hid (OwnB z (N + 1) (.slice (some ⟨y.heap.size, 0, none⟩) 2 2) [Pl.byteAt (Pl.pkHead l u) 0, Pl.byteAt lv 0]) ∧ Hid (N + 1 ≤ z.heap.size))
      ⟨Lib.hid (obj_old PX.out _), Lib.hid (K1.out.alloc (Nat.le_of_lt (lt_of_block PX.out)) _), Lib.hid (lit2 _ _ _ _ (by rw [HU.out]; have e0 := E0.out; rw [← e0]; simp [Pl.pkHead] <;> omega) E1.out (lt_of_block PX.out)), Lib.hid (by have := lt_of_block PX.out; simp; omega)⟩ ?_
    generalize Value.slice (some ⟨y.heap.size, 0, none⟩) 2 2 = v5 at *
    clear K1 PX E0 E1
    rintro z ⟨PX, K1, OB, HS⟩
    have q0 := obj_cell PX.out (k := 0) rfl
    have q1 := obj_cell PX.out (k := 1) rfl
    have PUT1 := Lib.hid (refBytes_two s h1 (by omega) (N + 1) v5 _ (by simp) z OB.out HS.out)
    go_upto_region 6 with (go_at_call 23; (with_reducible refine PUT1.out.mono ?_); rintro e z1 ⟨v1, rfl, o1, k1⟩; have O1 := Lib.hid o1; have K2 := Lib.hid (K1.out.trans (k1.mono (Nat.le_succ N))); have PX1 := Lib.hid (Below.heapAt k1 PX.out (Nat.lt_succ_self N)); have HS1 := Lib.hid (Nat.le_trans HS.out k1.size); clear o1 k1)
    clear q0 q1 PUT1 K1 OB HS PX
    have q1 := obj_cell PX1.out (k := 1) rfl
    have PUT2 := Lib.hid (refBytes_four t h3 h4 (N + 1) v1 _ (by simp [Pl.putB]) z1 O1.out HS1.out)
    go_upto_region 7 with (go_at_call 23; (with_reducible refine PUT2.out.mono ?_); rintro e z2 ⟨v2, rfl, o2, k2⟩; have O2 := Lib.hid o2; have K3 := Lib.hid (K2.out.trans (k2.mono (Nat.le_succ N))); have PX2 := Lib.hid (Below.heapAt k2 PX1.out (Nat.lt_succ_self N)); have HS2 := Lib.hid (Nat.le_trans HS1.out k2.size); clear o2 k2)
    clear q1 PUT2 K2 O1 HS1 PX1
    have q5 := obj_cell PX2.out (k := 5) rfl
    obtain ⟨v', w', hr, ho, hg⟩ := run_append_bytes z2 O2.out (HV.out.below (by rw [HN'.out]; exact K3.out)) HS2.out (by have := L2.out; simp [Pl.putB]; omega)
    have kk := Lib.hid (K3.out.trans ((below_row O2.out hg (Nat.le_refl _) HS2.out).mono (Nat.le_succ N)))
    have HO := Lib.hid ho
    clear ho hg
    go_wp2_with (at_builtin; refine Lib.wpList_append_run _ rfl (.tmp 26) (.tmp 28) 22 22 rfl _ _ rfl rfl _ _ hr ?_)
    have E := Pl.pkBytes_length s t l lv u b
    have q : OwnB w' N v' (Pl.pkBytes s t l lv u b) := HO.out.mono (Nat.le_succ N)
    obtain ⟨ob, c4, rfl, -⟩ := bytes_slice q.reads
    refine bodyPost_ret (v := .slice ob (Pl.pkBytes s t l lv u b).length c4) (by simp [results, Tryd.results10, go_sem]) rfl ?_
    have kq := kk.out
    rw [E] at q ⊢
    rw [HN'.out]
    exact ⟨ob, c4, rfl, q, kq⟩
theorem refPackBytes_any (s t l lv : Int) (st : Bool) (bv : Value) (b : List UInt8) (w : World) (hv : IsBytes w bv b) (h : Pl.pkOk s t l lv b.length) :
    Calls Tryd.prog 10 #[pkV s t l lv st bv] w fun e w' => ∃ oa c, e = .returned (.slice oa (8 + b.length) c) ∧ OwnB w' w.heap.size (.slice oa (8 + b.length) c) (Pl.pkBytes s t l lv st b) ∧ Below w.heap.size w w' :=
  refPackBytes_aux s t l lv st st rfl bv b w hv h
end Go.Proofs.YtbjanihblffmoaaDoor

/-! choirsame.Packets of what is the same. -/
namespace Go.Proofs.YtbjanihblffmoaaDoor
open Go.RowKit
set_option linter.unusedVariables false
set_option linter.unusedSimpArgs false
/-- two packets that read the same -/
def PkSame (w : World) (x y : PkR) : Prop := x.s = y.s ∧ x.t = y.t ∧ x.l = y.l ∧ x.lv = y.lv ∧ x.st = y.st ∧ ∃ body, IsBytes w (.slice x.oa x.bn x.bc) body ∧ IsBytes w (.slice y.oa y.bn y.bc) body
theorem samePk_rf (s t l lv : Int) (st : Bool) (v v' : Value) (b : List UInt8) (w : World) (h : IsBytes w v b) (h' : IsBytes w v' b) :
    Calls Tryd.prog 13 #[pkV s t l lv st v, pkV s t l lv st v'] w fun e w' => e = .returned (.bool true) ∧ Below w.heap.size w w' := by
  have := samePk_any s t l lv s t l lv st st v v' b b w h h'
  rw [show Pl.samePk s t l lv st b s t l lv st b = true from by simp [Pl.samePk]] at this
  exact this
set_option maxRecDepth 100000 in
set_option maxHeartbeats 4000000 in
theorem samePks_eq (M1 M2 : Nat) (v1 v2 : Value) (A B : List PkR) (hA : A.length ≤ 100000) (hl : A.length = B.length) (w : World) (h1 : pktK.Own w M1 v1 A) (h2 : pktK.Own w M2 v2 B) (hs : ∀ (k : Nat) (x y : PkR), A[k]? = some x → B[k]? = some y → PkSame w x y) :
    Calls Tryd.prog 15 #[v1, v2] w fun e w' => e = .returned (.bool true) ∧ Below w.heap.size w w' := by
  obtain ⟨o1, c1, rfl, -⟩ := h1.read pktK_ok
  obtain ⟨o2, c2, ev2, -⟩ := h2.read pktK_ok
  rw [← hl] at ev2
  subst ev2
  have HL := Lib.hid hl
  clear hl
  have H1 := Lib.hid h1
  have H2 := Lib.hid h2
  have HS := Lib.hid hs
  clear h1 h2 hs
  go_enter Tryd.func15, Tryd.ntmps15
  go_upto_region 4 with fail
  go_loopw [5] (fun s5 wr => ∃ i : Nat, i ≤ A.length ∧ s5 = .int .i64 i ∧ Hid (Below w.heap.size w wr)) (fun s5 _ => A.length - (RowKit.intOf s5).toNat)
  case atStart => exact ⟨0, by omega, rfl, Lib.hid (Below.refl _ _)⟩
  case round =>
    obtain ⟨i, hi, rfl, kb⟩ := hrel
    by_cases hlt : i < A.length
    · have hlt2 : i < B.length := by have := HL.out; omega
      obtain ⟨_, _, e1, r1⟩ := (H1.out.below kb.out).read pktK_ok
      cases e1
      obtain ⟨g1, rfl, _, _, q⟩ := r1 i A[i] (by simp [hlt])
      obtain ⟨_, _, e2, r2⟩ := (H2.out.below kb.out).read pktK_ok
      simp only [Value.slice.injEq] at e2
      obtain ⟨rfl, -, rfl⟩ := e2
      obtain ⟨g2, rfl, _, _, p⟩ := r2 i B[i] (by simp [hlt2])
      have hsm := HS.out i A[i] B[i] (by simp [hlt]) (by simp [hlt2])
      obtain ⟨x, hx⟩ : ∃ x, x = A[i] := ⟨_, rfl⟩
      obtain ⟨y, hy⟩ : ∃ y, y = B[i] := ⟨_, rfl⟩
      rw [← hx] at q hsm
      rw [← hy] at p hsm
      clear hx hy r1 r2 hlt2
      obtain ⟨xs, xt, xl, xv, xst, xo, xb, xc⟩ := x
      obtain ⟨ys, yt, yl, yv, yst, yo, yb, yc⟩ := y
      obtain ⟨e3, e4, e5, e6, e7, body, hb1, hb2⟩ := hsm
      simp only at e3 e4 e5 e6 e7 hb1 hb2
      subst e3 e4 e5 e6 e7
      have a2 : wr.cell? ⟨g1, i * 6, none⟩ = some (.int .i64 xs) := q 0 _ rfl
      have a3 : wr.cell? ⟨g1, i * 6 + 1, none⟩ = some (.int .i64 xt) := q 1 _ rfl
      have a4 : wr.cell? ⟨g1, i * 6 + 2, none⟩ = some (.int .i64 xl) := q 2 _ rfl
      have a5 : wr.cell? ⟨g1, i * 6 + 3, none⟩ = some (.int .i64 xv) := q 3 _ rfl
      have a6 : wr.cell? ⟨g1, i * 6 + 4, none⟩ = some (.bool xst) := q 4 _ rfl
      have a7 : wr.cell? ⟨g1, i * 6 + 5, none⟩ = some (.slice xo xb xc) := q 5 _ rfl
      have b2 : wr.cell? ⟨g2, i * 6, none⟩ = some (.int .i64 xs) := p 0 _ rfl
      have b3 : wr.cell? ⟨g2, i * 6 + 1, none⟩ = some (.int .i64 xt) := p 1 _ rfl
      have b4 : wr.cell? ⟨g2, i * 6 + 2, none⟩ = some (.int .i64 xl) := p 2 _ rfl
      have b5 : wr.cell? ⟨g2, i * 6 + 3, none⟩ = some (.int .i64 xv) := p 3 _ rfl
      have b6 : wr.cell? ⟨g2, i * 6 + 4, none⟩ = some (.bool xst) := p 4 _ rfl
      have b7 : wr.cell? ⟨g2, i * 6 + 5, none⟩ = some (.slice yo yb yc) := p 5 _ rfl
      have HC := Lib.hid (show ∀ w', Below wr.heap.size wr w' → w'.cell? ⟨g1, i * 6, none⟩ = some (.int .i64 xs) ∧ w'.cell? ⟨g1, i * 6 + 1, none⟩ = some (.int .i64 xt) ∧ w'.cell? ⟨g1, i * 6 + 2, none⟩ = some (.int .i64 xl) ∧ w'.cell? ⟨g1, i * 6 + 3, none⟩ = some (.int .i64 xv) ∧ w'.cell? ⟨g1, i * 6 + 4, none⟩ = some (.bool xst) ∧ w'.cell? ⟨g1, i * 6 + 5, none⟩ = some (.slice xo xb xc) ∧ w'.cell? ⟨g2, i * 6, none⟩ = some (.int .i64 xs) ∧ w'.cell? ⟨g2, i * 6 + 1, none⟩ = some (.int .i64 xt) ∧ w'.cell? ⟨g2, i * 6 + 2, none⟩ = some (.int .i64 xl) ∧ w'.cell? ⟨g2, i * 6 + 3, none⟩ = some (.int .i64 xv) ∧ w'.cell? ⟨g2, i * 6 + 4, none⟩ = some (.bool xst) ∧ w'.cell? ⟨g2, i * 6 + 5, none⟩ = some (.slice yo yb yc) from fun z k => ⟨(k.cell (Sl.lt a2)).trans a2, (k.cell (Sl.lt a3)).trans a3, (k.cell (Sl.lt a4)).trans a4, (k.cell (Sl.lt a5)).trans a5, (k.cell (Sl.lt a6)).trans a6, (k.cell (Sl.lt a7)).trans a7, (k.cell (Sl.lt b2)).trans b2, (k.cell (Sl.lt b3)).trans b3, (k.cell (Sl.lt b4)).trans b4, (k.cell (Sl.lt b5)).trans b5, (k.cell (Sl.lt b6)).trans b6, (k.cell (Sl.lt b7)).trans b7⟩)
      have P := Lib.hid (fun z (k : Below w.heap.size w z) => samePk_rf xs xt xl xv xst (.slice xo xb xc) (.slice yo yb yc) body z (Sl.below hb1 k) (Sl.below hb2 k))
      have kd : Below w.heap.size w wr.drew := Below.drewN kb.out 1
      clear q p hb1 hb2
      go_upto_region 6 with fail
      go_cut [6] (fun v z => v = .bool true ∧ Hid (Below w.heap.size w z))
      case first =>
        go_region_held3 (fun w' => w'.cell? ⟨g1, i * 6, none⟩ = some (.int .i64 xs) ∧ w'.cell? ⟨g1, i * 6 + 1, none⟩ = some (.int .i64 xt) ∧ w'.cell? ⟨g1, i * 6 + 2, none⟩ = some (.int .i64 xl) ∧ w'.cell? ⟨g1, i * 6 + 3, none⟩ = some (.int .i64 xv) ∧ w'.cell? ⟨g1, i * 6 + 4, none⟩ = some (.bool xst) ∧ w'.cell? ⟨g1, i * 6 + 5, none⟩ = some (.slice xo xb xc) ∧ w'.cell? ⟨g2, i * 6, none⟩ = some (.int .i64 xs) ∧ w'.cell? ⟨g2, i * 6 + 1, none⟩ = some (.int .i64 xt) ∧ w'.cell? ⟨g2, i * 6 + 2, none⟩ = some (.int .i64 xl) ∧ w'.cell? ⟨g2, i * 6 + 3, none⟩ = some (.int .i64 xv) ∧ w'.cell? ⟨g2, i * 6 + 4, none⟩ = some (.bool xst) ∧ w'.cell? ⟨g2, i * 6 + 5, none⟩ = some (.slice yo yb yc))
          (first | (exact ⟨a2, a3, a4, a5, a6, a7, b2, b3, b4, b5, b6, b7⟩) | (with_reducible exact s12) | (with_reducible assumption))
          (first
          | (go_at_call 13; (with_reducible refine (P.out _ kd).mono ?_); rintro e z1 ⟨rfl, k1⟩; have K1 := Lib.hid (kd.trans (k1.mono (by have := kb.out.size; simp; omega))); have K2 := Lib.hid (show Below wr.heap.size wr z1 from Below.trans (Below.drewN (Below.refl _ _) 1) k1); have s12 := HC.out z1 K2.out; clear k1))
        go_wp2_with fail
        go_meet
        exact ⟨rfl, K1⟩
      case rest =>
      obtain ⟨rfl, K1⟩ := hcut
      clear a2 a3 a4 a5 a6 a7 b2 b3 b4 b5 b6 b7 HC P kd kb
      go_wp2_with fail
      go_roundw
      case measure => simp [RowKit.intOf]; omega
      case rel => exact ⟨i + 1, by omega, by go_num, K1⟩
    · go_wp2_with fail
      go_ret
      exact ⟨rfl, kb.out⟩
end Go.Proofs.YtbjanihblffmoaaDoor

/-! The law PackGoes: its callees' contracts, both sides by one plain fault. -/
namespace Go.Proofs.YtbjanihblffmoaaDoor
open Go.RowKit
set_option linter.unusedVariables false
set_option linter.unusedSimpArgs false
theorem Pl.pkFault_zero {s t l lv : Int} {n : Nat} : Pl.pkFault s t l lv n = 0 ↔ Pl.pkOk s t l lv n := by
  unfold Pl.pkFault Pl.pkOk
  by_cases h : 0 ≤ s ∧ s ≤ 65535 ∧ 0 ≤ t ∧ t ≤ 4294967295 ∧ 0 ≤ l ∧ l ≤ 3 ∧ 0 ≤ lv ∧ lv ≤ 127
  · rw [if_pos h]
    by_cases h2 : n ≤ 1000
    · rw [if_pos h2]; simp; omega
    · rw [if_neg h2]; simp; omega
  · rw [if_neg h]; simp; omega
/-- the bytes of a packet; none of one that is not right -/
def Pl.pkX (s t l lv : Int) (st : Bool) (b : List UInt8) : List UInt8 := if Pl.pkFault s t l lv b.length = 0 then Pl.pkBytes s t l lv st b else []
theorem check_errV (s t l lv : Int) (st : Bool) (oa : Option Addr) (n c : Nat) (hn : n ≤ maxLen) (w : World) :
    Calls Tryd.prog 6 #[pkV s t l lv st (.slice oa n c)] w fun e w' => e = .returned (errV (Pl.pkFault s t l lv n)) ∧ Below w.heap.size w w' := by
  by_cases h : Pl.pkFault s t l lv n = 0
  · rw [h]; exact check_ok s t l lv st oa n c (Pl.pkFault_zero.1 h) w
  · rw [errV_hit _ h]; exact check_bad s t l lv st oa n c hn (fun q => h (Pl.pkFault_zero.2 q)) w
theorem pencode_errV (s t l lv : Int) (st : Bool) (bv : Value) (b : List UInt8) (w : World) (hv : IsBytes w bv b) :
    Calls Tryd.prog 5 #[pkV s t l lv st bv] w fun e w' => ∃ oa n c, e = .returned (.tuple #[.slice oa n c, errV (Pl.pkFault s t l lv b.length)]) ∧ IsBytes w' (.slice oa n c) (Pl.pkX s t l lv st b) ∧ Below w.heap.size w w' := by
  unfold Pl.pkX
  by_cases h : Pl.pkFault s t l lv b.length = 0
  · rw [if_pos h, h]
    exact (pencode_ok s t l lv st bv b w hv (Pl.pkFault_zero.1 h)).mono fun e w' ⟨oa, c, h1, h2, h3⟩ => ⟨oa, _, c, h1, h2.reads, h3⟩
  · rw [if_neg h, errV_hit _ h]
    exact (pencode_bad s t l lv st bv b w hv (fun q => h (Pl.pkFault_zero.2 q))).mono fun e w' ⟨h1, h2⟩ => ⟨none, 0, 0, h1, Sl.nil _, h2⟩
/-- what a packet's bytes read as -/
def Pl.rS (l : List UInt8) : Int := if Pl.readFault l = 0 then Pl.getB ((l.drop 2).take 2) else 0
def Pl.rT (l : List UInt8) : Int := if Pl.readFault l = 0 then Pl.getB ((l.drop 4).take 4) else 0
def Pl.rL (l : List UInt8) : Int := if Pl.readFault l = 0 then Pl.rdLayer (Pl.bAt l 0) else 0
def Pl.rV (l : List UInt8) : Int := if Pl.readFault l = 0 then ((Pl.bAt l 1).toNat : Int) else 0
def Pl.rSt (l : List UInt8) : Bool := if Pl.readFault l = 0 then Pl.rdStart (Pl.bAt l 0) else false
def Pl.rB (l : List UInt8) : List UInt8 := if Pl.readFault l = 0 then l.drop 8 else []
theorem rread_plain (v : Value) (l : List UInt8) (w : World) (hv : IsBytes w v l) :
    Calls Tryd.prog 11 #[v] w fun e w' => ∃ oa n c, e = .returned (.tuple #[pkV (Pl.rS l) (Pl.rT l) (Pl.rL l) (Pl.rV l) (Pl.rSt l) (.slice oa n c), .int .i64 (Pl.readFault l)]) ∧ IsBytes w' (.slice oa n c) (Pl.rB l) ∧ Below w.heap.size w w' := by
  refine (rread_any v l w hv).mono fun e w' ⟨s, t, ly, lv, st, oa, n, c, he, H, hk⟩ => ?_
  obtain ⟨h0, h1⟩ := H.out
  unfold Pl.rS Pl.rT Pl.rL Pl.rV Pl.rSt Pl.rB
  by_cases h : Pl.readFault l = 0
  · obtain ⟨rfl, rfl, rfl, rfl, rfl, q⟩ := h1 h
    simp only [if_pos h]
    exact ⟨oa, n, c, he, q.below hk, hk⟩
  · obtain ⟨rfl, rfl, rfl, rfl, rfl, rfl, rfl, rfl⟩ := h0 h
    simp only [if_neg h]
    exact ⟨none, 0, 0, he, Sl.nil _, hk⟩
theorem read_plain (v : Value) (l : List UInt8) (w : World) (hv : IsBytes w v l) :
    Calls Tryd.prog 12 #[v] w fun e w' => ∃ oa n c, e = .returned (.tuple #[pkV (Pl.rS l) (Pl.rT l) (Pl.rL l) (Pl.rV l) (Pl.rSt l) (.slice oa n c), errV (Pl.readFault l)]) ∧ IsBytes w' (.slice oa n c) (Pl.rB l) ∧ Below w.heap.size w w' := by
  unfold Pl.rS Pl.rT Pl.rL Pl.rV Pl.rSt Pl.rB
  by_cases h : Pl.readFault l = 0
  · simp only [if_pos h]
    rw [h]
    obtain ⟨h8, h1008, hhb⟩ := Pl.read_ok h
    exact (read_good v l w hv h8 h1008 hhb).mono fun e w' ⟨oa, n, c, h1, h2, h3⟩ => ⟨oa, n, c, h1, h2.reads, h3⟩
  · simp only [if_neg h]
    rw [errV_hit _ h]
    exact (read_bad v l w hv h).mono fun e w' ⟨h1, h2⟩ => ⟨none, 0, 0, h1, Sl.nil _, h2⟩
/-- the fault of a split; how many parts -/
def Pl.spF (pf : Int) (k : Int) (len : Nat) : Int := if 1 ≤ k ∧ k ≤ 1000 then (if pf = 0 then (if 200 < max 1 (chunkN k.toNat len) then 4 else 0) else pf) else 1
def Pl.spN (pf : Int) (k : Int) (len : Nat) : Nat := if Pl.spF pf k len = 0 then max 1 (chunkN k.toNat len) else 0
/-- parts of a packet -/
def SpP (W : World) (s t l lv : Int) (st : Bool) (k : Nat) (bs : List UInt8) (P : List PkR) : Prop := ∀ (i : Nat) (p : PkR), P[i]? = some p → p.s = (s + i) % 65536 ∧ p.t = t ∧ p.l = l ∧ p.lv = lv ∧ p.st = (st && decide (i = 0)) ∧ Sl encB W (.slice p.oa p.bn p.bc) (chunkAt k bs i)
theorem SpP.below {W W' : World} {s t l lv : Int} {st : Bool} {k : Nat} {bs : List UInt8} {P : List PkR} (h : SpP W s t l lv st k bs P) (kk : Below W.heap.size W W') : SpP W' s t l lv st k bs P := fun i p hp => by
  obtain ⟨q1, q2, q3, q4, q5, q6⟩ := h i p hp
  exact ⟨q1, q2, q3, q4, q5, q6.below kk⟩
theorem SpP.nil {W : World} {s t l lv : Int} {st : Bool} {k : Nat} {bs : List UInt8} : SpP W s t l lv st k bs [] := fun i p hp => by simp at hp
theorem split_errV (s t l lv : Int) (st : Bool) (oa : Option Addr) (bc : Nat) (bs : List UInt8) (k : Int) (w : World) (hv : Sl encB w (.slice oa bs.length bc) bs) :
    Calls Tryd.prog 7 #[pkV s t l lv st (.slice oa bs.length bc), .int .i64 k] w fun e w' => ∃ (v : Value) (P : List PkR), e = .returned (.tuple #[v, errV (Pl.spF (Pl.pkFault s t l lv bs.length) k bs.length)]) ∧ pktK.Own w' w.heap.size v P ∧ P.length = Pl.spN (Pl.pkFault s t l lv bs.length) k bs.length ∧ SpP w' s t l lv st k.toNat bs P ∧ Below w.heap.size w w' := by
  unfold Pl.spN Pl.spF
  by_cases hk : 1 ≤ k ∧ k ≤ 1000
  · simp only [if_pos hk]
    obtain ⟨kn, rfl⟩ : ∃ kn : Nat, k = kn := ⟨k.toNat, by omega⟩
    simp only [Int.toNat_natCast]
    have hkn : 1 ≤ kn ∧ kn ≤ 1000 := by omega
    by_cases hp : Pl.pkFault s t l lv bs.length = 0
    · simp only [if_pos hp]
      by_cases hN : 200 < max 1 (chunkN kn bs.length)
      · simp only [if_pos hN]
        exact (split_full s t l lv st oa bc bs (Pl.pkFault_zero.1 hp) kn hkn hN w hv).mono fun e w' ⟨h1, h2⟩ => ⟨_, [], h1, RecK.Own.nil _ _, by simp, SpP.nil, h2⟩
      · simp only [if_neg hN]
        exact (split_fits s t l lv st oa bc bs (Pl.pkFault_zero.1 hp) kn hkn hN w hv).mono fun e w' ⟨v, P, h1, h2, h3, h4, h5⟩ => ⟨v, P, h1, h2, by simp [h3], h4, h5⟩
    · simp only [if_neg hp]
      rw [errV_hit _ hp]
      exact (split_bad s t l lv st oa bs.length bc hv.len (fun q => hp (Pl.pkFault_zero.2 q)) kn (by omega) w).mono fun e w' ⟨h1, h2⟩ => ⟨_, [], h1, RecK.Own.nil _ _, by simp, SpP.nil, h2⟩
  · simp only [if_neg hk]
    exact (split_size s t l lv st oa bs.length bc k hk w).mono fun e w' ⟨h1, h2⟩ => ⟨_, [], h1, RecK.Own.nil _ _, by simp, SpP.nil, h2⟩
theorem rsplit_plain (s t l lv : Int) (st : Bool) (oa : Option Addr) (bc : Nat) (bs : List UInt8) (k : Int) (w : World) (hv : Sl encB w (.slice oa bs.length bc) bs) :
    Calls Tryd.prog 14 #[pkV s t l lv st (.slice oa bs.length bc), .int .i64 k] w fun e w' => ∃ (v : Value) (P : List PkR), e = .returned (.tuple #[v, .int .i64 (Pl.spF (Pl.pkFault s t l lv bs.length) k bs.length)]) ∧ pktK.Own w' w.heap.size v P ∧ P.length = Pl.spN (Pl.pkFault s t l lv bs.length) k bs.length ∧ SpP w' s t l lv st k.toNat bs P ∧ Below w.heap.size w w' := by
  unfold Pl.spN Pl.spF
  by_cases hk : 1 ≤ k ∧ k ≤ 1000
  · simp only [if_pos hk]
    obtain ⟨kn, rfl⟩ : ∃ kn : Nat, k = kn := ⟨k.toNat, by omega⟩
    simp only [Int.toNat_natCast]
    have hkn : 1 ≤ kn ∧ kn ≤ 1000 := by omega
    by_cases hp : Pl.pkFault s t l lv bs.length = 0
    · simp only [if_pos hp]
      refine (rsplit_run s t l lv st oa bc bs (Pl.pkFault_zero.1 hp) kn hkn w hv).mono fun e w' h => ?_
      unfold RSplitE at h
      by_cases hN : 200 < max 1 (chunkN kn bs.length)
      · rw [if_pos hN] at h
        simp only [if_pos hN]
        exact ⟨_, [], h.2, RecK.Own.nil _ _, by simp, SpP.nil, h.1⟩
      · rw [if_neg hN] at h
        simp only [if_neg hN]
        obtain ⟨h0, v, P, h1, h2, h3, h4⟩ := h
        exact ⟨v, P, h1, h2, by simp [h3], h4, h0⟩
    · simp only [if_neg hp]
      exact (rsplit_bad s t l lv st oa bs.length bc hv.len _ rfl hp kn (by omega) w).mono fun e w' ⟨h1, h2⟩ => ⟨_, [], h1, RecK.Own.nil _ _, by simp, SpP.nil, h2⟩
  · simp only [if_neg hk]
    exact (rsplit_size s t l lv st oa bs.length bc k hk w).mono fun e w' ⟨h1, h2⟩ => ⟨_, [], h1, RecK.Own.nil _ _, by simp, SpP.nil, h2⟩
/-- both sides' parts are the same -/
theorem sp_same (s t l lv : Int) (st : Bool) (k : Nat) (bs : List UInt8) (M1 M2 : Nat) (v1 v2 : Value) (A B : List PkR) (hA : A.length ≤ 100000) (hl : A.length = B.length) (w : World) (h1 : pktK.Own w M1 v1 A) (h2 : pktK.Own w M2 v2 B) (a1 : SpP w s t l lv st k bs A) (a2 : SpP w s t l lv st k bs B) :
    Calls Tryd.prog 15 #[v1, v2] w fun e w' => e = .returned (.bool true) ∧ Below w.heap.size w w' :=
  samePks_eq M1 M2 v1 v2 A B hA hl w h1 h2 fun i x y hx hy => by
    obtain ⟨p1, p2, p3, p4, p5, p6⟩ := a1 i x hx
    obtain ⟨q1, q2, q3, q4, q5, q6⟩ := a2 i y hy
    exact ⟨p1.trans q1.symm, p2.trans q2.symm, p3.trans q3.symm, p4.trans q4.symm, p5.trans q5.symm, _, p6, q6⟩
theorem Pl.spN_le (pf : Int) (k : Int) (len : Nat) : Pl.spN pf k len ≤ 200 := by
  unfold Pl.spN Pl.spF
  by_cases hk : 1 ≤ k ∧ k ≤ 1000
  · simp only [if_pos hk]
    by_cases hp : pf = 0
    · simp only [if_pos hp]
      by_cases hN : 200 < max 1 (chunkN k.toNat len)
      · simp only [if_pos hN]; simp
      · simp only [if_neg hN]; simp; omega
    · simp only [if_neg hp]; simp
  · simp only [if_neg hk]; simp
end Go.Proofs.YtbjanihblffmoaaDoor

/-! The walk of the law PackGoes. -/
namespace Go.Proofs.YtbjanihblffmoaaDoor
open Go.RowKit
set_option linter.unusedVariables false
set_option linter.unusedSimpArgs false
structure PGs (N : Nat) (w : World) (s t l lv : Int) (st : Bool) (bv s8 : Value) (X : List UInt8) (z : World) : Prop where
  m : PkIn z N s t l lv st bv
  b8 : IsBytes z s8 X
  kb : Below N w z
namespace PGs
variable {N : Nat} {w : World} {s t l lv : Int} {st : Bool} {bv s8 : Value} {X : List UInt8} {z z' : World}
theorem next (g : PGs N w s t l lv st bv s8 X z) (k : Below z.heap.size z z') : PGs N w s t l lv st bv s8 X z' :=
  ⟨Below.heapAt k g.m (lt_of_block g.m), g.b8.below k, g.kb.trans (k.mono (Nat.le_of_lt (lt_of_block g.m)))⟩
theorem p0 (g : PGs N w s t l lv st bv s8 X z) : z.cell? ⟨N, 0, none⟩ = some (.int .i64 s) ∧ z.cell? ⟨N, 1, none⟩ = some (.int .i64 t) ∧ z.cell? ⟨N, 2, none⟩ = some (.int .i64 l) ∧ z.cell? ⟨N, 3, none⟩ = some (.int .i64 lv) ∧ z.cell? ⟨N, 4, none⟩ = some (.bool st) ∧ z.cell? ⟨N, 5, none⟩ = some bv :=
  ⟨obj_cell g.m rfl, obj_cell g.m rfl, obj_cell g.m rfl, obj_cell g.m rfl, obj_cell g.m rfl, obj_cell g.m rfl⟩
end PGs
set_option maxRecDepth 100000 in
set_option maxHeartbeats 4000000 in
theorem walk_PackGoes_run (w : World) (s t l lv : Int) (st : Bool) (ob : Option Addr) (cb : Nat) (body : List UInt8) (hv : IsBytes w (.slice ob body.length cb) body) (o1 : Option Addr) (c1 : Nat) (lb : List UInt8) (hl : IsBytes w (.slice o1 lb.length c1) lb) (k : Int) (hE : Env w)
    (pf rf rs rt rl rv sf : Int) (rst : Bool) (X rx : List UInt8) (hpf : Pl.pkFault s t l lv body.length = pf) (hX : Pl.pkX s t l lv st body = X)
    (hrf : Pl.readFault lb = rf) (hrs : Pl.rS lb = rs) (hrt : Pl.rT lb = rt) (hrl : Pl.rL lb = rl) (hrv : Pl.rV lb = rv) (hrst : Pl.rSt lb = rst) (hrx : Pl.rB lb = rx) (hsf : Pl.spF pf k body.length = sf) :
    Calls Tryd.prog 4 #[pkV s t l lv st (.slice ob body.length cb), .slice o1 lb.length c1, .int .i64 k] w fun e w' => e = .returned (.bool true) ∧ Below w.heap.size w w' := by
  have HX1 := Lib.hid (show pf ≠ 0 → X = [] from fun e => by rw [← hX]; unfold Pl.pkX; rw [hpf, if_neg e])
  have RF := Lib.hid (fun y (hh : Below w.heap.size w y) => by have q := refPk_any s t l lv st ob body.length cb hv.len y; rw [hpf] at q; exact q)
  have RB := Lib.hid (fun y (hh : Below w.heap.size w y) (e : pf = 0) => by
    have q := refPackBytes_any s t l lv st _ body y (hv.below hh) (Pl.pkFault_zero.1 (hpf.trans e))
    have q2 : X = Pl.pkBytes s t l lv st body := by rw [← hX]; unfold Pl.pkX; rw [hpf, if_pos e]
    rw [← q2] at q; exact q)
  have FC := Lib.hid (fun y (hh : Below w.heap.size w y) => by have q := check_errV s t l lv st ob body.length cb hv.len y; rw [hpf] at q; exact q)
  have FE := Lib.hid (fun y (hh : Below w.heap.size w y) => by have q := pencode_errV s t l lv st _ body y (hv.below hh); rw [hpf, hX] at q; exact q)
  have RR := Lib.hid (fun y (hh : Below w.heap.size w y) => by have q := rread_plain _ lb y (hl.below hh); rw [hrf, hrs, hrt, hrl, hrv, hrst, hrx] at q; exact q)
  have FR := Lib.hid (fun y (hh : Below w.heap.size w y) => by have q := read_plain _ lb y (hl.below hh); rw [hrf, hrs, hrt, hrl, hrv, hrst, hrx] at q; exact q)
  have RS := Lib.hid (fun y (hh : Below w.heap.size w y) => by have q := rsplit_plain s t l lv st ob cb body k y (hv.below hh); rw [hpf, hsf] at q; exact q)
  have FS := Lib.hid (fun y (hh : Below w.heap.size w y) => by have q := split_errV s t l lv st ob cb body k y (hv.below hh); rw [hpf, hsf] at q; exact q)
  have ES := Lib.hid (fun (j : Int) y (hh : Below w.heap.size w y) => error_same j y (hE.below hh))
  have HSN := Lib.hid (Pl.spN_le pf k body.length)
  obtain ⟨sn, hsn⟩ : ∃ sn, Pl.spN pf k body.length = sn := ⟨_, rfl⟩
  rw [hsn] at RS FS HSN
  clear hv hl hE hpf hX hrf hrs hrt hrl hrv hrst hrx hsf hsn
  have hN : ∃ N, N = w.heap.size := ⟨_, rfl⟩
  obtain ⟨N, hN⟩ := hN
  have HN := Lib.hid hN
  rw [← hN] at RF RB FC FE RR FR RS FS ES
  clear hN
  go_enter Tryd.func4, Tryd.ntmps4
  go_upto_region 1 with fail
  refine abs_to (fun y => Hid (PGs N w s t l lv st (.slice ob body.length cb) (.slice none 0 0) [] y)) (Lib.hid ⟨by rw [HN.out]; exact obj_new _ _, Sl.nil _, by rw [HN.out]; exact (Below.refl _ _).alloc (Nat.le_refl _) _⟩) ?_
  rw [← HN.out]
  rintro y1 G
  obtain ⟨p0, p1, p2, p3, p4, p5⟩ := G.out.p0
  go_upto_region 3 with (go_at_call 9; (with_reducible refine (RF.out _ G.out.kb).mono ?_); rintro e y2 ⟨rfl, k2⟩)
  refine abs_to (fun y => Hid (PGs N w s t l lv st (.slice ob body.length cb) (.slice none 0 0) [] y)) (Lib.hid (G.out.next k2)) ?_
  clear p0 p1 p2 p3 p4 p5 k2 G RF
  rintro y3 G
  obtain ⟨p0, p1, p2, p3, p4, p5⟩ := G.out.p0
  go_upto_if 24 with fail
  go_cut [8] (fun s8 z => ∃ oa n c, s8 = .slice oa n c ∧ Hid (PGs N w s t l lv st (.slice ob body.length cb) (.slice oa n c) X z))
  case first =>
    by_cases h0 : pf = 0
    · have RBy := Lib.hid (RB.out _ G.out.kb h0)
      subst h0
      go_wp2_with (go_at_call 10; (with_reducible refine RBy.out.mono ?_); rintro e z ⟨oa, c, rfl, b2, k2⟩)
      go_meet
      exact ⟨oa, _, c, rfl, Lib.hid ⟨(G.out.next k2).m, b2.reads, (G.out.next k2).kb⟩⟩
    · have d : (pf == 0) = false := by rw [beq_eq_false_iff_ne]; exact h0
      have e := HX1.out h0
      clear h0
      go_wp2_with fail
      go_meet
      exact ⟨none, 0, 0, rfl, by rw [e]; exact G⟩
  case rest =>
  clear p0 p1 p2 p3 p4 p5 G RB HX1
  obtain ⟨o6, n6, c6, rfl, G⟩ := hcut
  go_upto_region 5 with fail
  obtain ⟨p0, p1, p2, p3, p4, p5⟩ := G.out.p0
  go_upto_region 6 with (first
    | (go_at_call 6; (with_reducible refine (FC.out _ G.out.kb).mono ?_); rintro e z ⟨rfl, kk⟩; have G := Lib.hid (G.out.next kk); clear kk)
    | (go_at_call 8; (with_reducible refine (ES.out pf _ G.out.kb).mono ?_); rintro e z ⟨rfl, kk⟩; have G := Lib.hid (G.out.next kk); clear kk)
    | fail)
  clear p0 p1 p2 p3 p4 p5 FC
  obtain ⟨p0, p1, p2, p3, p4, p5⟩ := G.out.p0
  go_upto_region 8 with (first
    | (go_at_call 5; (with_reducible refine (FE.out _ G.out.kb).mono ?_); rintro e z ⟨o8, n8, c8, rfl, b8, kk⟩; have G := Lib.hid (G.out.next kk); have R8 := Lib.hid b8; clear kk b8)
    | (go_at_call 8; (with_reducible refine (ES.out pf _ G.out.kb).mono ?_); rintro e z ⟨rfl, kk⟩; have G := Lib.hid (G.out.next kk); have R8 := Lib.hid (R8.out.below kk); clear kk)
    | fail)
  clear p0 p1 p2 p3 p4 p5 FE
  have FGy := Lib.hid (RR.out _ G.out.kb)
  go_upto_region 9 with (go_at_call 11; (with_reducible refine FGy.out.mono ?_); rintro e z ⟨ox, nx, cx, rfl, bx, kk⟩; have G := Lib.hid (G.out.next kk); have R8 := Lib.hid (R8.out.below kk); have RX := Lib.hid bx; clear kk bx)
  obtain ⟨B, hB⟩ : ∃ B, z.heap.size = B := ⟨_, rfl⟩
  refine abs_to (fun y => Hid (PGs N w s t l lv st (.slice ob body.length cb) (.slice o6 n6 c6) X y) ∧ Hid (IsBytes y (.slice o8 n8 c8) X) ∧ Hid (IsBytes y (.slice ox nx cx) rx) ∧ Hid (PkIn y z.heap.size rs rt rl rv rst (.slice ox nx cx))) ⟨Lib.hid (G.out.next (Below.alloc (Below.refl _ _) (Nat.le_refl _) _)), Lib.hid (R8.out.below (Below.alloc (Below.refl _ _) (Nat.le_refl _) _)), Lib.hid (RX.out.below (Below.alloc (Below.refl _ _) (Nat.le_refl _) _)), Lib.hid (obj_new _ _)⟩ ?_
  rw [hB]
  clear hB G R8 RX FGy RR
  rintro y4 ⟨G, R8, RX, MX⟩
  have FGy := Lib.hid (FR.out _ G.out.kb)
  go_upto_region 10 with (go_at_call 12; (with_reducible refine FGy.out.mono ?_); rintro e z5 ⟨oy, ny, cy, rfl, by_, kk⟩; have G := Lib.hid (G.out.next kk); have R8 := Lib.hid (R8.out.below kk); have RX := Lib.hid (RX.out.below kk); have MX := Lib.hid (Below.heapAt kk MX.out (lt_of_block MX.out)); have RY := Lib.hid by_; clear kk by_)
  obtain ⟨C, hC⟩ : ∃ C, z5.heap.size = C := ⟨_, rfl⟩
  refine abs_to (fun y => Hid (PGs N w s t l lv st (.slice ob body.length cb) (.slice o6 n6 c6) X y) ∧ Hid (IsBytes y (.slice o8 n8 c8) X) ∧ Hid (IsBytes y (.slice ox nx cx) rx) ∧ Hid (PkIn y B rs rt rl rv rst (.slice ox nx cx)) ∧ Hid (IsBytes y (.slice oy ny cy) rx) ∧ Hid (PkIn y z5.heap.size rs rt rl rv rst (.slice oy ny cy))) ⟨Lib.hid (G.out.next (Below.alloc (Below.refl _ _) (Nat.le_refl _) _)), Lib.hid (R8.out.below (Below.alloc (Below.refl _ _) (Nat.le_refl _) _)), Lib.hid (RX.out.below (Below.alloc (Below.refl _ _) (Nat.le_refl _) _)), Lib.hid (obj_old MX.out _), Lib.hid (RY.out.below (Below.alloc (Below.refl _ _) (Nat.le_refl _) _)), Lib.hid (obj_new _ _)⟩ ?_
  rw [hC]
  clear hC G R8 RX FGy FR MX RY
  rintro y5 ⟨G, R8, RX, MX, RY, MY⟩
  go_upto_region 11 with (go_at_call 8; (with_reducible refine (ES.out rf _ G.out.kb).mono ?_); rintro e z6 ⟨rfl, kk⟩; have G := Lib.hid (G.out.next kk); have R8 := Lib.hid (R8.out.below kk); have RX := Lib.hid (RX.out.below kk); have RY := Lib.hid (RY.out.below kk); have MX := Lib.hid (Below.heapAt kk MX.out (lt_of_block MX.out)); have MY := Lib.hid (Below.heapAt kk MY.out (lt_of_block MY.out)); clear kk)
  have p0 := obj_cell MX.out (k := 0) rfl; have p1 := obj_cell MX.out (k := 1) rfl; have p2 := obj_cell MX.out (k := 2) rfl; have p3 := obj_cell MX.out (k := 3) rfl; have p4 := obj_cell MX.out (k := 4) rfl; have p5 := obj_cell MX.out (k := 5) rfl
  have q0 := obj_cell MY.out (k := 0) rfl; have q1 := obj_cell MY.out (k := 1) rfl; have q2 := obj_cell MY.out (k := 2) rfl; have q3 := obj_cell MY.out (k := 3) rfl; have q4 := obj_cell MY.out (k := 4) rfl; have q5 := obj_cell MY.out (k := 5) rfl
  have SF := Lib.hid (samePk_rf rs rt rl rv rst _ _ rx z6 RY.out RX.out)
  go_upto_region 12 with (go_at_call 13; (with_reducible refine SF.out.mono ?_); rintro e z2 ⟨rfl, kk⟩; have G := Lib.hid (G.out.next kk); have R8 := Lib.hid (R8.out.below kk); clear kk)
  clear SF RY MY RX MX q0 q1 q2 q3 q4 q5 p0 p1 p2 p3 p4 p5
  refine abs_to (fun y => Hid (PGs N w s t l lv st (.slice ob body.length cb) (.slice o6 n6 c6) X y) ∧ Hid (IsBytes y (.slice o8 n8 c8) X)) ⟨G, R8⟩ ?_
  clear G R8
  rintro y6 ⟨G, R8⟩
  obtain ⟨p0, p1, p2, p3, p4, p5⟩ := G.out.p0
  have FGy := Lib.hid (RS.out _ G.out.kb)
  go_upto_region 13 with (go_at_call 14; (with_reducible refine FGy.out.mono ?_); rintro e z7 ⟨v1, P1, rfl, ow1, len1, sp1, kk⟩; have OW1 := Lib.hid ow1; have LEN1 := Lib.hid len1; have SP1 := Lib.hid sp1; have G := Lib.hid (G.out.next kk); have R8 := Lib.hid (R8.out.below kk); clear kk ow1 len1 sp1)
  clear FGy p0 p1 p2 p3 p4 p5 RS
  obtain ⟨p0, p1, p2, p3, p4, p5⟩ := G.out.p0
  have FGy := Lib.hid (FS.out _ G.out.kb)
  go_upto_region 14 with (go_at_call 7; (with_reducible refine FGy.out.mono ?_); rintro e z8 ⟨v2, P2, rfl, ow2, len2, sp2, kk⟩; have OW2 := Lib.hid ow2; have LEN2 := Lib.hid len2; have SP2 := Lib.hid sp2; have OW1 := Lib.hid (OW1.out.below kk); have SP1 := Lib.hid (SP1.out.below kk); have G := Lib.hid (G.out.next kk); have R8 := Lib.hid (R8.out.below kk); clear kk ow2 len2 sp2)
  clear FGy p0 p1 p2 p3 p4 p5 FS
  go_upto_region 15 with (go_at_call 8; (with_reducible refine (ES.out sf _ G.out.kb).mono ?_); rintro e z9 ⟨rfl, kk⟩; have G := Lib.hid (G.out.next kk); have R8 := Lib.hid (R8.out.below kk); have OW1 := Lib.hid (OW1.out.below kk); have SP1 := Lib.hid (SP1.out.below kk); have OW2 := Lib.hid (OW2.out.below kk); have SP2 := Lib.hid (SP2.out.below kk); clear kk)
  have SQ := Lib.hid (sp_same s t l lv st k.toNat body _ _ v2 v1 P2 P1 (by rw [LEN2.out]; have := HSN.out; omega) (LEN2.out.trans LEN1.out.symm) z9 OW2.out OW1.out SP2.out SP1.out)
  go_upto_region 16 with (go_at_call 15; (with_reducible refine SQ.out.mono ?_); rintro e z10 ⟨rfl, kk⟩; have G := Lib.hid (G.out.next kk); have R8 := Lib.hid (R8.out.below kk); clear kk)
  clear SQ OW1 OW2 SP1 SP2 LEN1 LEN2
  have u8 := conv_bytes R8.out
  have u6 := conv_bytes G.out.b8
  have K := Lib.hid G.out.kb
  generalize strB X = sX at *
  clear G R8 ES
  go_wp2_with fail
  go_ret
  exact ⟨by simp, by have h := K.out; rw [HN.out] at h; exact h⟩
theorem walk_PackGoes (w : World) (v0 : Value) (l0 : Pk) (o0 : v0 = l0.val ∧ l0.Good w) (v1 : Value) (l1 : List UInt8) (o1 : IsBytes w v1 l1) (k : Int) (hk : (Lit.int .i64 k).wf = true) (hE : Env w) :
    Calls Tryd.prog 4 #[v0, v1, .int .i64 k] w fun e w' => e = .returned (.bool true) ∧ Below w.heap.size w w' := by
  obtain ⟨rfl, _, _, _, _, hv⟩ := o0
  obtain ⟨s, t, l, lv, st, bv, body⟩ := l0
  obtain ⟨ob, cb, e2, _⟩ := bytes_slice hv
  dsimp only at e2 hv
  subst e2
  obtain ⟨oc, cc, rfl, _⟩ := bytes_slice o1
  exact walk_PackGoes_run w s t l lv st ob cb body hv oc cc l1 o1 k hE _ _ _ _ _ _ _ _ _ _ rfl rfl rfl rfl rfl rfl rfl rfl rfl rfl
end Go.Proofs.YtbjanihblffmoaaDoor
