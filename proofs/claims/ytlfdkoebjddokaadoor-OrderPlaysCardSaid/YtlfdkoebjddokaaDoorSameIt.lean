import Derived.Test.YtlfdkoebjddokaaDoorItm
import Derived.Test.YtlfdkoebjddokaaDoorSame
import Derived.Deep.QuietTactic
import Derived.BigQuiet
import Derived.Deep.DeepCutAuto
import Derived.Deep.RegionHeld3
/-! choirsame.Items of what is the same. -/
namespace Go.Proofs.YtlfdkoebjddokaaDoor
open Go.RowKit
set_option linter.unusedVariables false
set_option linter.unusedSimpArgs false
/-- two items that read the same -/
def ItmSame (w : World) (x y : Itm) : Prop := x.num = y.num ∧ x.gone = y.gone ∧ x.s = y.s ∧ x.t = y.t ∧ x.l = y.l ∧ x.lv = y.lv ∧ x.st = y.st ∧ ∃ body, IsBytes w (.slice x.oa x.bn x.bc) body ∧ IsBytes w (.slice y.oa y.bn y.bc) body
theorem samePk_refl (s t l lv : Int) (st : Bool) (v v' : Value) (b : List UInt8) (w : World) (h : IsBytes w v b) (h' : IsBytes w v' b) :
    Calls Tryd.prog 37 #[pkV s t l lv st v, pkV s t l lv st v'] w fun e w' => e = .returned (.bool true) ∧ Below w.heap.size w w' := by
  have := samePk_any s t l lv s t l lv st st v v' b b w h h'
  rw [show Pl.samePk s t l lv st b s t l lv st b = true from by simp [Pl.samePk]] at this
  exact this
set_option maxRecDepth 100000 in
set_option maxHeartbeats 4000000 in
theorem sameItems_eq (M1 M2 : Nat) (v1 v2 : Value) (A B : List Itm) (hA : A.length ≤ 100000) (hl : A.length = B.length) (w : World) (h1 : itemK.Own w M1 v1 A) (h2 : itemK.Own w M2 v2 B) (hs : ∀ (k : Nat) (x y : Itm), A[k]? = some x → B[k]? = some y → ItmSame w x y) :
    Calls Tryd.prog 13 #[v1, v2] w fun e w' => e = .returned (.bool true) ∧ Below w.heap.size w w' := by
  obtain ⟨o1, c1, rfl, -⟩ := h1.read itemK_ok
  obtain ⟨o2, c2, ev2, -⟩ := h2.read itemK_ok
  rw [← hl] at ev2
  subst ev2
  have HL := Lib.hid hl
  clear hl
  have H1 := Lib.hid h1
  have H2 := Lib.hid h2
  have HS := Lib.hid hs
  clear h1 h2 hs
  go_enter Tryd.func13, Tryd.ntmps13
  go_upto_region 4 with fail
  go_loopw [5] (fun s5 wr => ∃ i : Nat, i ≤ A.length ∧ s5 = .int .i64 i ∧ Hid (Below w.heap.size w wr)) (fun s5 _ => A.length - (RowKit.intOf s5).toNat)
  case atStart => exact ⟨0, by omega, rfl, Lib.hid (Below.refl _ _)⟩
  case round =>
    obtain ⟨i, hi, rfl, kb⟩ := hrel
    by_cases hlt : i < A.length
    · have hlt2 : i < B.length := by have := HL.out; omega
      obtain ⟨_, _, e1, r1⟩ := (H1.out.below kb.out).read itemK_ok
      cases e1
      obtain ⟨g1, rfl, _, _, q⟩ := r1 i A[i] (by simp [hlt])
      obtain ⟨_, _, e2, r2⟩ := (H2.out.below kb.out).read itemK_ok
      simp only [Value.slice.injEq] at e2
      obtain ⟨rfl, -, rfl⟩ := e2
      obtain ⟨g2, rfl, _, _, p⟩ := r2 i B[i] (by simp [hlt2])
      have hsm := HS.out i A[i] B[i] (by simp [hlt]) (by simp [hlt2])
      obtain ⟨x, hx⟩ : ∃ x, x = A[i] := ⟨_, rfl⟩
      obtain ⟨y, hy⟩ : ∃ y, y = B[i] := ⟨_, rfl⟩
      rw [← hx] at q hsm
      rw [← hy] at p hsm
      clear hx hy r1 r2 hlt2
      obtain ⟨xn, xg, xs, xt, xl, xv, xst, xo, xb, xc⟩ := x
      obtain ⟨yn, yg, ys, yt, yl, yv, yst, yo, yb, yc⟩ := y
      obtain ⟨e1, e2, e3, e4, e5, e6, e7, body, hb1, hb2⟩ := hsm
      simp only at e1 e2 e3 e4 e5 e6 e7 hb1 hb2
      subst e1 e2 e3 e4 e5 e6 e7
      have a0 : wr.cell? ⟨g1, i * 8, none⟩ = some (.int .i64 xn) := q 0 _ rfl
      have a1 : wr.cell? ⟨g1, i * 8 + 1, none⟩ = some (.bool xg) := q 1 _ rfl
      have a2 : wr.cell? ⟨g1, i * 8 + 2, none⟩ = some (.int .i64 xs) := q 2 _ rfl
      have a3 : wr.cell? ⟨g1, i * 8 + 2 + 1, none⟩ = some (.int .i64 xt) := q 3 _ rfl
      have a4 : wr.cell? ⟨g1, i * 8 + 2 + 2, none⟩ = some (.int .i64 xl) := q 4 _ rfl
      have a5 : wr.cell? ⟨g1, i * 8 + 2 + 3, none⟩ = some (.int .i64 xv) := q 5 _ rfl
      have a6 : wr.cell? ⟨g1, i * 8 + 2 + 4, none⟩ = some (.bool xst) := q 6 _ rfl
      have a7 : wr.cell? ⟨g1, i * 8 + 2 + 5, none⟩ = some (.slice xo xb xc) := q 7 _ rfl
      have b0 : wr.cell? ⟨g2, i * 8, none⟩ = some (.int .i64 xn) := p 0 _ rfl
      have b1 : wr.cell? ⟨g2, i * 8 + 1, none⟩ = some (.bool xg) := p 1 _ rfl
      have b2 : wr.cell? ⟨g2, i * 8 + 2, none⟩ = some (.int .i64 xs) := p 2 _ rfl
      have b3 : wr.cell? ⟨g2, i * 8 + 2 + 1, none⟩ = some (.int .i64 xt) := p 3 _ rfl
      have b4 : wr.cell? ⟨g2, i * 8 + 2 + 2, none⟩ = some (.int .i64 xl) := p 4 _ rfl
      have b5 : wr.cell? ⟨g2, i * 8 + 2 + 3, none⟩ = some (.int .i64 xv) := p 5 _ rfl
      have b6 : wr.cell? ⟨g2, i * 8 + 2 + 4, none⟩ = some (.bool xst) := p 6 _ rfl
      have b7 : wr.cell? ⟨g2, i * 8 + 2 + 5, none⟩ = some (.slice yo yb yc) := p 7 _ rfl
      have HQ := Lib.hid (show ∀ z, Below wr.heap.size wr z → z.cell? ⟨g1, i * 8, none⟩ = some (.int .i64 xn) ∧ z.cell? ⟨g1, i * 8 + 1, none⟩ = some (.bool xg) ∧ z.cell? ⟨g2, i * 8, none⟩ = some (.int .i64 xn) ∧ z.cell? ⟨g2, i * 8 + 1, none⟩ = some (.bool xg) from fun z k => ⟨(k.cell (Sl.lt a0)).trans a0, (k.cell (Sl.lt a1)).trans a1, (k.cell (Sl.lt b0)).trans b0, (k.cell (Sl.lt b1)).trans b1⟩)
      have HC := Lib.hid (show ∀ z, Below wr.heap.size wr z → z.cell? ⟨g1, i * 8 + 2, none⟩ = some (.int .i64 xs) ∧ z.cell? ⟨g1, i * 8 + 2 + 1, none⟩ = some (.int .i64 xt) ∧ z.cell? ⟨g1, i * 8 + 2 + 2, none⟩ = some (.int .i64 xl) ∧ z.cell? ⟨g1, i * 8 + 2 + 3, none⟩ = some (.int .i64 xv) ∧ z.cell? ⟨g1, i * 8 + 2 + 4, none⟩ = some (.bool xst) ∧ z.cell? ⟨g1, i * 8 + 2 + 5, none⟩ = some (.slice xo xb xc) ∧ z.cell? ⟨g2, i * 8 + 2, none⟩ = some (.int .i64 xs) ∧ z.cell? ⟨g2, i * 8 + 2 + 1, none⟩ = some (.int .i64 xt) ∧ z.cell? ⟨g2, i * 8 + 2 + 2, none⟩ = some (.int .i64 xl) ∧ z.cell? ⟨g2, i * 8 + 2 + 3, none⟩ = some (.int .i64 xv) ∧ z.cell? ⟨g2, i * 8 + 2 + 4, none⟩ = some (.bool xst) ∧ z.cell? ⟨g2, i * 8 + 2 + 5, none⟩ = some (.slice yo yb yc) from fun z k => ⟨(k.cell (Sl.lt a2)).trans a2, (k.cell (Sl.lt a3)).trans a3, (k.cell (Sl.lt a4)).trans a4, (k.cell (Sl.lt a5)).trans a5, (k.cell (Sl.lt a6)).trans a6, (k.cell (Sl.lt a7)).trans a7, (k.cell (Sl.lt b2)).trans b2, (k.cell (Sl.lt b3)).trans b3, (k.cell (Sl.lt b4)).trans b4, (k.cell (Sl.lt b5)).trans b5, (k.cell (Sl.lt b6)).trans b6, (k.cell (Sl.lt b7)).trans b7⟩)
      have P := Lib.hid (fun z (k : Below w.heap.size w z) => samePk_refl xs xt xl xv xst (.slice xo xb xc) (.slice yo yb yc) body z (Sl.below hb1 k) (Sl.below hb2 k))
      have kd : Below w.heap.size w wr.drew := Below.drewN kb.out 1
      clear q p hb1 hb2
      go_upto_region 6 with fail
      go_cut [6] (fun v z => v = .bool true ∧ Hid (Below w.heap.size w z) ∧ Hid (Below wr.heap.size wr z))
      case first =>
        go_region_held3 (fun w' => w'.cell? ⟨g1, i * 8 + 2, none⟩ = some (.int .i64 xs) ∧ w'.cell? ⟨g1, i * 8 + 2 + 1, none⟩ = some (.int .i64 xt) ∧ w'.cell? ⟨g1, i * 8 + 2 + 2, none⟩ = some (.int .i64 xl) ∧ w'.cell? ⟨g1, i * 8 + 2 + 3, none⟩ = some (.int .i64 xv) ∧ w'.cell? ⟨g1, i * 8 + 2 + 4, none⟩ = some (.bool xst) ∧ w'.cell? ⟨g1, i * 8 + 2 + 5, none⟩ = some (.slice xo xb xc) ∧ w'.cell? ⟨g2, i * 8 + 2, none⟩ = some (.int .i64 xs) ∧ w'.cell? ⟨g2, i * 8 + 2 + 1, none⟩ = some (.int .i64 xt) ∧ w'.cell? ⟨g2, i * 8 + 2 + 2, none⟩ = some (.int .i64 xl) ∧ w'.cell? ⟨g2, i * 8 + 2 + 3, none⟩ = some (.int .i64 xv) ∧ w'.cell? ⟨g2, i * 8 + 2 + 4, none⟩ = some (.bool xst) ∧ w'.cell? ⟨g2, i * 8 + 2 + 5, none⟩ = some (.slice yo yb yc))
          (first | (exact ⟨a2, a3, a4, a5, a6, a7, b2, b3, b4, b5, b6, b7⟩) | (with_reducible exact s12) | (with_reducible assumption))
          (first
          | (go_at_call 37; (with_reducible refine (P.out _ kd).mono ?_); rintro e z1 ⟨rfl, k1⟩; have K1 := Lib.hid (kd.trans (k1.mono (by have := kb.out.size; simp; omega))); have K2 := Lib.hid (show Below wr.heap.size wr z1 from Below.trans (Below.drewN (Below.refl _ _) 1) k1); have s12 := HC.out z1 K2.out; clear k1))
        go_wp2_with fail
        go_meet
        exact ⟨rfl, K1, K2⟩
      case rest =>
      obtain ⟨rfl, K1, K2⟩ := hcut
      obtain ⟨c0, c1', d0, d1⟩ := HQ.out _ K2.out
      clear a0 a1 a2 a3 a4 a5 a6 a7 b0 b1 b2 b3 b4 b5 b6 b7 HQ HC P kd K2 kb
      have m1 : (xn != xn) = false := by simp
      have m2 : (xg != xg) = false := by simp
      have K3 := Lib.hid (fun n => Below.drewN K1.out n)
      go_upto_region 7 with fail
      go_quiet (fail)
      go_wp2_with fail
      go_roundw
      case measure => simp [RowKit.intOf]; omega
      case rel => exact ⟨i + 1, by omega, rfl, Lib.hid (K3.out _)⟩
    · obtain rfl : i = A.length := by omega
      go_wp2_with fail
      go_ret
      exact ⟨rfl, kb.out⟩
end Go.Proofs.YtlfdkoebjddokaaDoor
