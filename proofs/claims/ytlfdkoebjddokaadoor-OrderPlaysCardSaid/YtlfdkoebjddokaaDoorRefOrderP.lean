import Derived.Test.YtlfdkoebjddokaaDoorRefOrder
/-! The reference's Order: Push, Gone. -/
namespace Go.Proofs.YtlfdkoebjddokaaDoor
open Go.RowKit
set_option linter.unusedVariables false
set_option linter.unusedSimpArgs false
structure RPA (M : Nat) (w : World) (v0 : Value) (b : Nat) (wait now next : Int) (v : Value) (L : List KI) (N : Nat) (x : KI) (y : World) : Prop where
  ord : ROrd M y b wait now next v L
  pk : PkIn y N x.s x.t x.l x.lv x.st (.slice x.oa x.bn x.bc)
  fp : ROFP b v0 w y
  N : w.heap.size ≤ N
namespace RPA
variable {M : Nat} {w y z : World} {v0 : Value} {b : Nat} {wait now next : Int} {v : Value} {L : List KI} {N : Nat} {x : KI}
theorem below (h : RPA M w v0 b wait now next v L N x y) (k : Below y.heap.size y z) : RPA M w v0 b wait now next v L N x z :=
  ⟨h.ord.below k, Below.heapAt k h.pk (lt_of_block h.pk), Keeps.trans h.fp (Below.toKeeps k (Nat.le_refl _)), h.N⟩
theorem drewN (h : RPA M w v0 b wait now next v L N x y) (k : Nat) : RPA M w v0 b wait now next v L N x (y.drewN k) :=
  ⟨h.ord.drewN k, by exact h.pk, Keeps.drewN h.fp _, h.N⟩
theorem set {wait' now' next' : Int} {j : Nat} {u : Value} (h : RPA M w v0 b wait now next v L N x y) (hg : ROrdAt (y.setCell ⟨b, j, none⟩ u) b wait' now' next' v) : RPA M w v0 b wait' now' next' v L N x (y.setCell ⟨b, j, none⟩ u) :=
  ⟨h.ord.set hg, obj_other h.pk (fun e => by
    have a := h.ord.at_; have p := h.pk
    have e' : b = N := e
    subst e'
    unfold ROrdAt PkIn at *
    rw [p] at a; simp at a) _, Keeps.setCell h.fp (.inl (.inl rfl)) _, h.N⟩
end RPA
set_option maxRecDepth 100000 in
set_option maxHeartbeats 4000000 in
theorem rPush_bad (b : Nat) (wait cur next : Int) (v : Value) (num now : Int) (s t l lv : Int) (st : Bool) (oa : Option Addr) (bn bc : Nat) (hbn : bn ≤ maxLen) (f : Int) (hf : f ≠ 0) (hnx : next ≤ 1099511627876)
    (hE : Pl.oTime cur now = f ∨ (Pl.oTime cur now = 0 ∧ Pl.long num = false ∧ f = 1) ∨ (Pl.oTime cur now = 0 ∧ Pl.long num = true ∧ Pl.pkFault s t l lv bn = f) ∨ (Pl.oTime cur now = 0 ∧ Pl.long num = true ∧ Pl.pkOk s t l lv bn ∧ 0 ≤ next ∧ next + 200 ≤ num ∧ f = 4)) (w : World) (h : ROrdAt w b wait cur next v) :
    Calls Tryd.prog 7 #[.pointer (some ⟨b, 0, none⟩), .int .i64 num, pkV s t l lv st (.slice oa bn bc), .int .i64 now] w fun e w' => e = .returned (.tuple #[.bool false, .int .i64 f]) ∧ Below w.heap.size w w' := by
  have R := Lib.hid (fun y => rLong_any num y)
  have P := Lib.hid (fun y => refPk_any s t l lv st oa bn bc hbn y)
  have BA : Below w.heap.size w (w.alloc (.cells #[.int .i64 s, .int .i64 t, .int .i64 l, .int .i64 lv, .bool st, .slice oa bn bc] 38)) := (Below.refl _ _).alloc (Nat.le_refl _) _
  have HBA := Lib.hid BA
  have h2 : ROrdAt (w.alloc (.cells #[.int .i64 s, .int .i64 t, .int .i64 l, .int .i64 lv, .bool st, .slice oa bn bc] 38)) b wait cur next v := by
    have e := Below.heap_alloc w (.cells #[.int .i64 s, .int .i64 t, .int .i64 l, .int .i64 lv, .bool st, .slice oa bn bc] 38) b (lt_of_block h)
    unfold ROrdAt at *
    rw [e]; exact h
  have T := Lib.hid (rOrdTime_any b wait cur next v now _ h2)
  have H2 := Lib.hid h2
  have d0 : (f == 0) = false := by simpa using hf
  have d0' : (f != 0) = true := by simpa using hf
  clear h BA h2
  rcases hE with hE | ⟨hE, hl, rfl⟩ | ⟨hE, hl, hp⟩ | ⟨hE, hl, hp, hn0, hnf, rfl⟩
  · rw [hE] at T
    clear hE hf
    cases hl : Pl.long num
    all_goals
      rw [hl] at R
      go_enter Tryd.func7, Tryd.ntmps7
      go_wp2_with (first
        | (go_at_call 26; (with_reducible refine T.out.mono ?_); rintro e w' ⟨rfl, rfl⟩)
        | (go_at_call 27; refine (R.out _).mono ?_; rintro e w' ⟨rfl, rfl⟩))
      go_ret2
      exact ⟨rfl, HBA.out⟩
  · rw [hE] at T
    rw [hl] at R
    clear hE hf d0 d0' hl
    go_enter Tryd.func7, Tryd.ntmps7
    go_wp2_with (first
      | (go_at_call 26; (with_reducible refine T.out.mono ?_); rintro e w' ⟨rfl, rfl⟩)
      | (go_at_call 27; refine (R.out _).mono ?_; rintro e w' ⟨rfl, rfl⟩))
    go_ret2
    exact ⟨rfl, HBA.out⟩
  · rw [hE] at T
    rw [hl] at R
    rw [hp] at P
    clear hE hf hl hp
    go_enter Tryd.func7, Tryd.ntmps7
    go_wp2_with (first
      | (go_at_call 26; (with_reducible refine T.out.mono ?_); rintro e w' ⟨rfl, rfl⟩)
      | (go_at_call 27; refine (R.out _).mono ?_; rintro e w' ⟨rfl, rfl⟩)
      | (go_at_call 28; refine (P.out _).mono ?_; rintro e w' ⟨rfl, k⟩))
    go_ret2
    exact ⟨rfl, HBA.out.trans (k.mono (by simp))⟩
  · rw [hE] at T
    rw [hl] at R
    rw [Pl.pkFault_ok hp] at P
    have W1 : IntKind.i64.wrap (next + 200) = next + 200 := by rw [IntKind.wrap_i64]; omega
    clear hE hf d0 d0' hl hp
    go_enter Tryd.func7, Tryd.ntmps7
    go_upto_region 7 with (first
      | (go_at_call 26; (with_reducible refine T.out.mono ?_); rintro e w' ⟨rfl, rfl⟩)
      | (go_at_call 27; refine (R.out _).mono ?_; rintro e w' ⟨rfl, rfl⟩)
      | (go_at_call 28; refine (P.out _).mono ?_; rintro e w' ⟨rfl, k⟩))
    have c2 : w'.cell? ⟨b, 2, none⟩ = some (.int .i64 next) := obj_cell (show ROrdAt w' b wait cur next v from Below.heapAt k H2.out (lt_of_block H2.out)) rfl
    have KK := Lib.hid (HBA.out.trans (k.mono (by simp)))
    clear k
    go_wp2_with fail
    go_ret2
    exact ⟨rfl, KK.out⟩
/-- how Push ends -/
def RPushE (M b : Nat) (wait now T : Int) (v : Value) (L : List KI) (x : KI) (w : World) (e : Ending) (w' : World) : Prop :=
  ∃ (B : Bool) (v' : Value) (L' : List KI), e = .returned (.tuple #[.bool B, .int .i64 0]) ∧ ROrd M w' b wait now T v' L' ∧ ROFP b v w w' ∧ (∀ g, v'.ownBlock = some g → v.ownBlock = some g ∨ w.heap.size ≤ g) ∧
    ((B = true ∧ T ≤ x.num ∧ (∀ y ∈ L, y.num ≠ x.num) ∧ L' = L ++ [x]) ∨ (B = false ∧ (x.num < T ∨ ∃ y ∈ L, y.num = x.num) ∧ L' = L ∧ v' = v))
set_option maxRecDepth 100000 in
set_option maxHeartbeats 4000000 in
theorem rPush_ok (M b : Nat) (wait cur next : Int) (v : Value) (L : List KI) (num now : Int) (ht : Pl.oTime cur now = 0) (hl : Pl.long num = true) (hn1 : -1 ≤ next) (hn2 : next ≤ 1099511627876) (s t l lv : Int) (st : Bool) (oa : Option Addr) (bn bc : Nat) (hp : Pl.pkOk s t l lv bn) (T : Int) (hT : T = if next < 0 then num else next) (hfull : next < 0 ∨ num < next + 200) (hL : L.length ≤ 10000) (w : World) (hM : M ≤ w.heap.size) (h : ROrd M w b wait cur next v L) :
    Calls Tryd.prog 7 #[.pointer (some ⟨b, 0, none⟩), .int .i64 num, pkV s t l lv st (.slice oa bn bc), .int .i64 now] w (RPushE M b wait now T v L ⟨num, false, s, t, l, lv, st, oa, bn, bc, now⟩ w) := by
  have R := Lib.hid (fun y => rLong_any num y)
  rw [hl] at R
  have hbn : bn ≤ maxLen := by have := hp.2.2.2.2.2.2.2.2; unfold maxLen; omega
  have P := Lib.hid (fun y => refPk_any s t l lv st oa bn bc hbn y)
  rw [Pl.pkFault_ok hp] at P
  obtain ⟨hnum1, hnum2⟩ := (Pl.long_iff num).1 hl
  have HT := Lib.hid hT
  have HF := Lib.hid hfull
  have H := Lib.hid h
  clear h hp hl hT hfull
  go_enter Tryd.func7, Tryd.ntmps7
  go_upto_region 1 with fail
  obtain ⟨X, hX⟩ : ∃ X : KI, X = ⟨num, false, s, t, l, lv, st, oa, bn, bc, now⟩ := ⟨_, rfl⟩
  have H0 := Lib.hid (show RPA M w v b wait cur next v L w.heap.size ⟨num, false, s, t, l, lv, st, oa, bn, bc, now⟩ (w.alloc (.cells #[.int .i64 s, .int .i64 t, .int .i64 l, .int .i64 lv, .bool st, .slice oa bn bc] 38)) from ⟨H.out.below ((Below.refl _ _).alloc (Nat.le_refl _) _), obj_new _ _, (Keeps.refl _ _).alloc _, Nat.le_refl _⟩)
  refine abs_to (fun y => Hid (RPA M w v b wait cur next v L w.heap.size ⟨num, false, s, t, l, lv, st, oa, bn, bc, now⟩ y)) H0 ?_
  clear H0
  obtain ⟨N, hNe⟩ : ∃ N, w.heap.size = N := ⟨_, rfl⟩
  have hMN : M ≤ N := by omega
  have hwN : w.heap.size ≤ N := by omega
  have hNw : N ≤ w.heap.size := by omega
  rw [hNe]
  clear hNe
  rintro y H0
  have p0 := obj_cell H0.out.pk (k := 0) rfl
  have p1 := obj_cell H0.out.pk (k := 1) rfl
  have p2 := obj_cell H0.out.pk (k := 2) rfl
  have p3 := obj_cell H0.out.pk (k := 3) rfl
  have p4 := obj_cell H0.out.pk (k := 4) rfl
  have p5 := obj_cell H0.out.pk (k := 5) rfl
  have TT := Lib.hid (rOrdTime_any b wait cur next v now y H0.out.ord.at_)
  rw [ht] at TT
  clear ht
  go_upto_region 7 with (first
    | (go_at_call 26; (with_reducible refine TT.out.mono ?_); rintro e w' ⟨rfl, rfl⟩)
    | (go_at_call 27; refine (R.out _).mono ?_; rintro e w' ⟨rfl, rfl⟩)
    | (go_at_call 28; refine (P.out _).mono ?_; rintro e y2 ⟨rfl, k2⟩; have H2 := Lib.hid (H0.out.below k2); clear k2))
  clear p0 p1 p2 p3 p4 p5 H0 P R TT
  have c2 : y2.cell? ⟨b, 2, none⟩ = some (.int .i64 next) := obj_cell H2.out.ord.at_ rfl
  have W1 : IntKind.i64.wrap (next + 200) = next + 200 := by rw [IntKind.wrap_i64]; omega
  go_cut [44] (fun v z => v = .bool false ∧ y2 = z)
  case first =>
    by_cases h0 : next < 0
    · have HF0 := Lib.hid h0
      go_wp2_with fail
      all_goals first
        | (go_meet; exact ⟨rfl, rfl⟩)
        | (exfalso; have := HF0.out; omega)
    · have h1 : num < next + 200 := by have := HF.out; omega
      go_wp2_with fail
      all_goals first
        | (go_meet; exact ⟨rfl, rfl⟩)
        | (exfalso; omega)
        | (go_meet; exact ⟨by rw [decide_eq_false (by omega)], rfl⟩)
        | (go_meet; exact ⟨by simp; omega, rfl⟩)
  case rest =>
  obtain ⟨rfl, rfl⟩ := hcut
  have c1 : y2.cell? ⟨b, 1, none⟩ = some (.int .i64 cur) := obj_cell H2.out.ord.at_ rfl
  have f1 := obj_free H2.out.ord.at_ 1
  go_upto_region 12 with fail
  refine abs_to (fun y => Hid (RPA M w v b wait now next v L N ⟨num, false, s, t, l, lv, st, oa, bn, bc, now⟩ y)) (Lib.hid (H2.out.set (by unfold ROrdAt; rw [obj_set H2.out.ord.at_]; rfl))) ?_
  clear H2 c1 f1 c2 W1 HF y2
  rintro y3 H3
  have c2 : y3.cell? ⟨b, 2, none⟩ = some (.int .i64 next) := obj_cell H3.out.ord.at_ rfl
  have f2 := obj_free H3.out.ord.at_ 2
  go_upto_if 56 with fail
  go_cut [56] (fun _ z => Hid (RPA M w v b wait now T v L N ⟨num, false, s, t, l, lv, st, oa, bn, bc, now⟩ z))
  case first =>
    by_cases h0 : next < 0
    · have e : T = num := by rw [HT.out, if_pos h0]
      have HS := Lib.hid (show RPA M w v b wait now T v L N ⟨num, false, s, t, l, lv, st, oa, bn, bc, now⟩ (y3.setCell ⟨b, 2, none⟩ (.int .i64 num)) from H3.out.set (by unfold ROrdAt; rw [obj_set H3.out.ord.at_, e]; rfl))
      clear H3
      go_wp2_with fail
      go_meet
      exact HS
    · have e : T = next := by rw [HT.out, if_neg h0]
      have HS := Lib.hid (show RPA M w v b wait now T v L N ⟨num, false, s, t, l, lv, st, oa, bn, bc, now⟩ y3 from by rw [e]; exact H3.out)
      clear H3
      go_wp2_with fail
      go_meet
      exact HS
  case rest =>
  clear H3 c2 f2 HT y3
  have H3 := hcut
  clear hcut
  have c2 : wc.cell? ⟨b, 2, none⟩ = some (.int .i64 T) := obj_cell H3.out.ord.at_ rfl
  by_cases hlo : num < T
  · have HLO := Lib.hid hlo
    go_wp2_with fail
    go_ret2
    exact ⟨false, v, L, rfl, H3.out.ord, H3.out.fp, fun _ e => .inl e, .inr ⟨rfl, .inl HLO.out, rfl, rfl⟩⟩
  have d0 : decide (num < T) = false := by simpa using hlo
  have A1 := Lib.hid (rOrdAt_any M b wait now T v L num (by omega) wc H3.out.ord)
  have HLO := Lib.hid (show T ≤ num from by omega)
  clear hlo
  obtain ⟨K0, hK0⟩ : ∃ K0 : Bool, K0 = decide (∃ y ∈ L, y.num = num) := ⟨_, rfl⟩
  have HK0 := Lib.hid hK0
  clear hK0
  go_upto_region 14 with fail
  go_cut [72] (fun u z => u = .bool K0 ∧ wc = z)
  case first =>
    go_wp2_with (go_at_call 29; refine A1.out.mono ?_; rintro e w' ⟨k, rfl, hk, rfl⟩; have HK := Lib.hid hk; clear hk)
    rcases HK.out with ⟨rfl, hno⟩ | ⟨j, rfl, hj, hj1⟩
    · have e : K0 = false := by rw [HK0.out]; simp; exact hno
      subst e
      go_wp2_with fail
      go_meet
      exact ⟨rfl, rfl⟩
    · have e : K0 = true := by rw [HK0.out]; simp; exact ⟨_, List.getElem_mem hj, hj1⟩
      subst e
      go_wp2_with fail
      go_meet
      exact ⟨by first | rfl | (simp <;> omega), rfl⟩
  case rest =>
  obtain ⟨rfl, rfl⟩ := hcut
  clear A1 d0
  cases K0
  case true =>
    have HY := Lib.hid (show ∃ y ∈ L, y.num = num from by have := HK0.out; exact of_decide_eq_true this.symm)
    go_wp2_with fail
    go_ret2
    exact ⟨false, v, L, rfl, H3.out.ord, H3.out.fp, fun _ e => .inl e, .inr ⟨rfl, .inr HY.out, rfl, rfl⟩⟩
  case false =>
  have HNO := Lib.hid (show ∀ y ∈ L, y.num ≠ num from fun y hy e => by
    have := of_decide_eq_false HK0.out.symm
    exact this ⟨y, hy, e⟩)
  go_upto_region 16 with fail
  have HA := Lib.hid (H3.out.below ((Below.refl _ _).alloc (Nat.le_refl _) (.cells (KI.cells ⟨num, false, s, t, l, lv, st, oa, bn, bc, now⟩).toArray 83)))
  have HAD : Hid (RPA M w v b wait now T v L N ⟨num, false, s, t, l, lv, st, oa, bn, bc, now⟩ (wc.alloc (.cells (KI.cells ⟨num, false, s, t, l, lv, st, oa, bn, bc, now⟩).toArray 83)).drew) := Lib.hid (HA.out.drewN 1)
  have RUN := Lib.hid (RecK.run_one keptK_ok (wc.alloc (.cells (KI.cells ⟨num, false, s, t, l, lv, st, oa, bn, bc, now⟩).toArray 83)).drew M v ⟨num, false, s, t, l, lv, st, oa, bn, bc, now⟩ L HAD.out.ord.row wc.heap.size (obj_new _ _) (by omega) (by have := H3.out.fp.size; simp; omega))
  obtain ⟨vN, wN, hr, ho, hgr, hbk⟩ := RUN.out
  obtain ⟨gN, capN, rfl⟩ := Joins.ownsRow_form ho (by simp)
  have aN := HAD.out.ord.grown hgr
  have HRN := Lib.hid hr
  have cN : wN.cell? ⟨b, 3, none⟩ = some v := obj_cell aN rfl
  have fN := obj_free aN 3
  have p0 := obj_cell H3.out.pk (k := 0) rfl
  have p1 := obj_cell H3.out.pk (k := 1) rfl
  have p2 := obj_cell H3.out.pk (k := 2) rfl
  have p3 := obj_cell H3.out.pk (k := 3) rfl
  have p4 := obj_cell H3.out.pk (k := 4) rfl
  have p5 := obj_cell H3.out.pk (k := 5) rfl
  have c3 : wc.cell? ⟨b, 3, none⟩ = some v := obj_cell H3.out.ord.at_ rfl
  have q0 := obj_cell HA.out.pk (k := 0) rfl
  have q1 := obj_cell HA.out.pk (k := 1) rfl
  have q2 := obj_cell HA.out.pk (k := 2) rfl
  have q3 := obj_cell HA.out.pk (k := 3) rfl
  have q4 := obj_cell HA.out.pk (k := 4) rfl
  have q5 := obj_cell HA.out.pk (k := 5) rfl
  have d3 : (wc.alloc (.cells (KI.cells ⟨num, false, s, t, l, lv, st, oa, bn, bc, now⟩).toArray 83)).cell? ⟨b, 3, none⟩ = some v := obj_cell HA.out.ord.at_ rfl
  simp only [KI.cells] at q0 q1 q2 q3 q4 q5 d3
  have RN : Hid (ROrd M (wN.setCell ⟨b, 3, none⟩ (.slice (some ⟨gN, 0, none⟩) (L ++ [(⟨num, false, s, t, l, lv, st, oa, bn, bc, now⟩ : KI)]).length capN)) b wait now T (.slice (some ⟨gN, 0, none⟩) (L ++ [(⟨num, false, s, t, l, lv, st, oa, bn, bc, now⟩ : KI)]).length capN) (L ++ [(⟨num, false, s, t, l, lv, st, oa, bn, bc, now⟩ : KI)])) := Lib.hid (ROrd.put aN HAD.out.ord.low ho)
  have FN : Hid (ROFP b v w (wN.setCell ⟨b, 3, none⟩ (.slice (some ⟨gN, 0, none⟩) (L ++ [(⟨num, false, s, t, l, lv, st, oa, bn, bc, now⟩ : KI)]).length capN))) := Lib.hid (Keeps.setCell (S := fun k => k = b ∨ v.ownBlock = some k) (⟨hgr.os.trans HAD.out.fp.os, hgr.tape.trans HAD.out.fp.tape, hgr.output.trans HAD.out.fp.output, Nat.le_trans HAD.out.fp.size hgr.size, fun j hj hne => (hgr.block j (Nat.lt_of_lt_of_le hj HAD.out.fp.size) (fun e => hne (.inr e.symm))).trans (HAD.out.fp.block j hj hne)⟩) (.inl (.inl rfl)) _)
  have GN := Lib.hid (show ∀ g, (Value.slice (some ⟨gN, 0, none⟩) (L ++ [(⟨num, false, s, t, l, lv, st, oa, bn, bc, now⟩ : KI)]).length capN).ownBlock = some g → v.ownBlock = some g ∨ w.heap.size ≤ g from fun g e => by
    rcases hbk with h | h
    · exact .inl (h.symm.trans e)
    · rw [h] at e; have := H3.out.fp.size; simp at e; exact .inr (by omega))
  rw [show (L ++ [(⟨num, false, s, t, l, lv, st, oa, bn, bc, now⟩ : KI)]).length = L.length + 1 from by simp] at RN FN GN
  clear hr ho hgr hbk aN RUN
  go_cut [84] (fun _ z => ∃ vZ, Hid (ROrd M z b wait now T vZ (L ++ [(⟨num, false, s, t, l, lv, st, oa, bn, bc, now⟩ : KI)])) ∧ Hid (ROFP b v w z) ∧ Hid (∀ g, vZ.ownBlock = some g → v.ownBlock = some g ∨ w.heap.size ≤ g))
  case first =>
    go_region_law (first | (refine step_append_at rfl (.tmp 77) (.tmp 83) 31 31 rfl _ _ rfl rfl _ _ HRN.out ?_))
    all_goals
      go_wp2_with fail
      go_meet
      exact ⟨_, RN, FN, GN⟩
  case rest =>
  clear RN FN GN cN fN HRN HA HAD p0 p1 p2 p3 p4 p5 q0 q1 q2 q3 q4 q5 c3 d3 H3
  obtain ⟨vZ, RN, FN, GN⟩ := hcut
  go_wp2_with fail
  go_ret2
  exact ⟨true, vZ, _, rfl, RN.out, FN.out, GN.out, .inl ⟨rfl, HLO.out, HNO.out, rfl⟩⟩
end Go.Proofs.YtlfdkoebjddokaaDoor
