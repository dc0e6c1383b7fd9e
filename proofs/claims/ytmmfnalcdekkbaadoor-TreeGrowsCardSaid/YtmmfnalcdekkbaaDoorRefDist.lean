import Derived.Test.YtmmfnalcdekkbaaDoorPTreeR
import Derived.Test.YtmmfnalcdekkbaaDoorTreeBuildB
import Derived.Test.YtmmfnalcdekkbaaDoorTreeKids
import Derived.Deep.CutBlock
/-! The reference's Dist. -/
namespace Go.Proofs.YtmmfnalcdekkbaaDoor
open Go.RowKit
set_option linter.unusedVariables false
set_option linter.unusedSimpArgs false
theorem Pl.BF.ext {n root : Nat} {L : List Ed} {D B B' : Nat → Int} {r k : Nat} (h : Pl.BF n root L D B r k) (e : ∀ i, i < n → B i = B' i) : Pl.BF n root L D B' r k :=
  ⟨⟨fun i hi => by rw [← e i hi]; exact h.blo.lo i hi⟩, fun i hi => by rw [← e i hi]; exact h.up i hi, fun i hi h0 hr => by rw [← e i hi]; exact h.rch i hi h0 hr, fun m hm hmk x y hx hy h1 h2 h3 h4 => by rw [← e y hy]; exact h.new m hm hmk x y hx hy h1 h2 h3 h4⟩
def fnOf (A : List Int) (j : Nat) : Int := A.getD j 0
theorem fnOf_set (A : List Int) (k : Nat) (v : Int) (hk : k < A.length) (j : Nat) : fnOf (A.set k v) j = if j = k then v else fnOf A j := by
  unfold fnOf
  rw [List.getD, List.getD, List.getElem?_set]
  by_cases e : k = j
  · subst e; simp [hk]
  · rw [if_neg e, if_neg (fun h => e h.symm)]
theorem fnOf_rep (n : Nat) (v : Int) (j : Nat) (hj : j < n) : fnOf (List.replicate n v) j = v := by simp [fnOf, List.getD, hj]
theorem fnL_fnOf {n : Nat} {A : List Int} {D : Nat → Int} (hA : A.length = n) (h : ∀ j, j < n → fnOf A j = D j) : A = fnL n D := by
  refine List.ext_getElem (by rw [hA, fnL_len]) (fun k h1 h2 => ?_)
  have := h k (by omega)
  unfold fnOf at this
  rw [List.getD, List.getElem?_eq_getElem h1] at this
  simp only [Option.getD_some] at this
  rw [this]; simp [fnL]
/-- the row of ways in the making -/
structure DRow (N : Nat) (w : World) (g cap n : Nat) (A : List Int) (z : World) : Prop where
  row : ORow z N (.slice (some ⟨g, 0, none⟩) n cap) A
  len : A.length = n
  lo : N ≤ g
  kb : Below N w z
theorem DRow.cell {N : Nat} {w z : World} {g cap n : Nat} {A : List Int} (h : DRow N w g cap n A z) (k : Nat) (hk : k < n) : z.cell? ⟨g, k, none⟩ = some (.int .i64 (fnOf A k)) := ORow.at_ h.row k (by rw [h.len]; exact hk)
theorem DRow.free {N : Nat} {w z : World} {g cap n : Nat} {A : List Int} (h : DRow N w g cap n A z) (k : Nat) : z.frozen? ⟨g, k, none⟩ = false := ORow.free h.row k
theorem DRow.lt {N : Nat} {w z : World} {g cap n : Nat} {A : List Int} (h : DRow N w g cap n A z) (hn : 0 < n) : g < z.heap.size := Sl.lt (a := ⟨g, 0, none⟩) (h.cell 0 hn)
theorem DRow.put {N : Nat} {w z : World} {g cap n : Nat} {A : List Int} (h : DRow N w g cap n A z) (k : Nat) (v : Int) : DRow N w g cap n (A.set k v) (z.setCell ⟨g, k, none⟩ (.int .i64 v)) :=
  ⟨h.row.put k v, by rw [List.length_set]; exact h.len, h.lo, Below.setCell h.kb h.lo _⟩
theorem DRow.drewN {N : Nat} {w z : World} {g cap n : Nat} {A : List Int} (h : DRow N w g cap n A z) (k : Nat) : DRow N w g cap n A (z.drewN k) := ⟨h.row, h.len, h.lo, Below.drewN h.kb k⟩
theorem DRow.alloc {N : Nat} {w z : World} {g cap n : Nat} {A : List Int} (h : DRow N w g cap n A z) (hN : N ≤ z.heap.size) (o : Obj) : DRow N w g cap n A (z.alloc o) := ⟨h.row.alloc o, h.len, h.lo, h.kb.alloc hN o⟩
/-- an edge, one way: what is stored -/
theorem relax_row {n : Nat} {A : List Int} (hA : A.length = n) (x y : Nat) (hy : y < n) (c : Int) : ∃ A' : List Int, A'.length = n ∧ (∀ j, fnOf A' j = Pl.relax (fnOf A) x y c j) ∧ (if 0 ≤ fnOf A x ∧ (fnOf A y < 0 ∨ fnOf A x + c < fnOf A y) then A' = A.set y (fnOf A x + c) else A' = A) := by
  by_cases q : 0 ≤ fnOf A x ∧ (fnOf A y < 0 ∨ fnOf A x + c < fnOf A y)
  · refine ⟨A.set y (fnOf A x + c), by simp [hA], fun j => ?_, by rw [if_pos q]⟩
    rw [fnOf_set A y _ (by omega) j]
    unfold Pl.relax
    by_cases e : j = y
    · rw [if_pos e, if_pos ⟨e, q⟩]
    · rw [if_neg e, if_neg (fun h => e h.1)]
  · refine ⟨A, hA, fun j => ?_, by rw [if_neg q]⟩
    unfold Pl.relax
    rw [if_neg (fun h => q h.2)]
set_option maxRecDepth 100000 in
set_option maxHeartbeats 4000000 in
theorem rDist_ok (n root : Nat) (v : Value) (L : List Ed) (D : Nat → Int) (w : World) (hL0 : IsEds w v L) (hg : Pl.GoodE n L) (hr : root < n) (hD : Pl.Dj n root (Pl.costN L) D) :
    Calls Tryd.prog 7 #[.int .i64 n, v, .int .i64 root] w fun e w' => ∃ v', e = .returned v' ∧ ORow w' w.heap.size v' (fnL n D) ∧ Below w.heap.size w w' := by
  obtain ⟨oa, cp, rfl, hlc, hcm, -⟩ := eds_read hL0
  have HL := Lib.hid hL0
  have HG := Lib.hid hg
  have n2 := hg.n2
  have hll := hg.len
  have DJ := Lib.hid hD
  clear hL0 hg hD hlc hcm
  obtain ⟨N, hN⟩ : ∃ N, w.heap.size = N := ⟨_, rfl⟩
  have HN := Lib.hid hN
  rw [hN]
  clear hN
  go_enter Tryd.func7, Tryd.ntmps7
  go_upto_region 3 with fail
  go_loopw [7, 8] (fun s7 s8 wr => ∃ i : Nat, i ≤ n ∧ s8 = .int .i64 i ∧ Hid (ORow wr N s7 (List.replicate i (-1))) ∧ Hid (Below N w wr)) (fun _ s8 _ => n - (intOf s8).toNat)
  case atStart => exact ⟨0, by omega, rfl, Lib.hid (World.ownsRow_nil _ _ _ _), Lib.hid (Below.refl _ _)⟩
  case round =>
    obtain ⟨i, hi, rfl, RO, KB⟩ := hrel
    have hNw : N ≤ wr.heap.size := by rw [← HN.out]; exact KB.out.size
    by_cases hlt : i < n
    · obtain ⟨A, hA⟩ : ∃ A, List.replicate i (-1 : Int) = A := ⟨_, rfl⟩
      have hAl : A.length = i := by rw [← hA]; simp
      have HA := Lib.hid (show List.replicate (i + 1) (-1 : Int) = A ++ [-1] by rw [List.replicate_succ', hA])
      rw [hA] at RO
      have roA : Hid ((wr.alloc (.cells #[.int .i64 (-1)] 3)).ownsRow N 3 1 u7 A.length (A.map encI)) := Lib.hid (RO.out.alloc _)
      have kA : Hid (Below N w (wr.alloc (.cells #[.int .i64 (-1)] 3))) := Lib.hid (KB.out.alloc hNw _)
      have RUN := Lib.hid (run_moreInt2 _ N u7 (-1) A.length (A.map encI) roA.out wr.heap.size (obj_new _ _) (by omega) (by simp; omega))
      have hgb : Hid (∀ g, u7.ownBlock = some g → N ≤ g) := Lib.hid (fun g e => (RO.out.lt g e).1)
      clear RO hA
      go_upto_region 4 with (at_builtin; obtain ⟨vN, wN, hr, ho, hgr, hbk⟩ := RUN.out; obtain ⟨gN, capN, rfl⟩ := Joins.ownsRow_form ho (by omega); refine Lib.wpList_append_run _ rfl (.tmp 17) (.tmp 18) 23 23 rfl _ _ rfl rfl _ _ hr ?_)
      have RO : Hid (ORow wN N (.slice (some ⟨gN, 0, none⟩) (i + 1) capN) (List.replicate (i + 1) (-1))) := Lib.hid (by rw [HA.out]; unfold ORow; rw [List.map_append, List.length_append]; rw [hAl] at ho ⊢; exact ho)
      have KN : Hid (Below N w wN) := Lib.hid ⟨hgr.os.trans kA.out.os, hgr.tape.trans kA.out.tape, hgr.output.trans kA.out.output, Nat.le_trans kA.out.size hgr.size, fun j hj => (hgr.block j (Nat.lt_of_lt_of_le hj (by simp; omega)) (fun e => by have := hgb.out j e.symm; omega)).trans (kA.out.block j hj)⟩
      clear hr ho hgr hbk RUN roA kA hgb KB
      go_wp2_with fail
      go_roundw
      case measure => simp [intOf]; omega
      case rel => exact ⟨i + 1, by omega, by go_num, RO, KN⟩
    · obtain rfl : n = i := by omega
      obtain ⟨gD, cD, hv⟩ := Joins.ownsRow_form RO.out (by simp; omega)
      rw [List.length_replicate] at hv
      subst hv
      have DR := Lib.hid (show DRow N w gD cD n (List.replicate n (-1)) wr from ⟨RO.out, by simp, ((World.ownsRow.lt RO.out) gD rfl).1, KB.out⟩)
      have DR2 := Lib.hid (DR.out.put root 0)
      have c0 := DR.out.cell root hr
      have f0 := DR.out.free root
      clear RO KB
      go_upto_region 8 with fail
      have B0 := Lib.hid ((Pl.BF.start (fun x y => (HG.out.cost_lo x y).1) DJ.out).ext (B' := fnOf ((List.replicate n (-1)).set root 0)) (fun i hi => by
        rw [fnOf_set _ _ _ (by simp; exact hr), fnOf_rep n _ i hi]))
      refine abs_t (fun z => ∃ A, Hid (DRow N w gD cD n A z) ∧ Hid (Pl.BF n root L D (fnOf A) 0 0)) ⟨_, DR2, B0⟩ ?_
      clear DR DR2 c0 f0 B0
      rintro z ⟨A0, DR0, BF0⟩
      go_loopw [9] (fun s9 wr => ∃ (r : Nat) (A : List Int), r ≤ n ∧ s9 = .int .i64 r ∧ Hid (DRow N w gD cD n A wr) ∧ Hid (Pl.BF n root L D (fnOf A) r 0)) (fun s9 _ => n - (intOf s9).toNat)
      case atStart => exact ⟨0, A0, by omega, rfl, DR0, BF0⟩
      case round =>
        clear DR0 BF0
        obtain ⟨r, A, hr', rfl, DR, BF⟩ := hrel
        by_cases hrn : r < n
        · go_upto_region 11 with fail
          obtain ⟨wo, hwo⟩ : ∃ wo, wr = wo := ⟨_, rfl⟩
          rw [hwo] at DR ⊢
          clear hwo
          go_loopw [10] (fun s10 wr => ∃ (k : Nat) (A : List Int), k ≤ L.length ∧ s10 = .int .i64 k ∧ Hid (DRow N w gD cD n A wr) ∧ Hid (Pl.BF n root L D (fnOf A) r k)) (fun s10 _ => L.length - (intOf s10).toNat)
          case atStart => exact ⟨0, A, by omega, rfl, DR, BF⟩
          case round =>
            clear DR BF
            obtain ⟨k, A, hk, rfl, DR, BF⟩ := hrel
            by_cases hkl : k < L.length
            · obtain ⟨_, _, e, -, -, rd⟩ := eds_read (HL.out.below (by rw [HN.out]; exact DR.out.kb))
              cases e
              obtain ⟨g, f, rfl, hg, q0, q1, q2, -⟩ := rd k hkl
              clear rd
              have hE := HG.out.edge k hkl
              have HST := Lib.hid (fun a b ha hb => BF.out.step HG.out DJ.out hkl a b ha hb)
              have hup := BF.out.up
              have hblo := BF.out.blo.lo
              have hbd : ∀ i, i < n → -1 ≤ fnOf A i ∧ fnOf A i ≤ 10000000000 := fun i hi => by
                have h1 := hup i hi
                have h2 := DJ.out.lo i hi
                have h3 : (r : Int) ≤ 16 := by omega
                rcases hblo i hi with h | h <;> omega
              obtain ⟨⟨xa, xb, xc⟩, hx⟩ : ∃ x, L[k] = x := ⟨_, rfl⟩
              rw [hx] at q0 q1 q2 hE HST
              simp only at q0 q1 q2 hE HST
              obtain ⟨a, rfl⟩ : ∃ a : Nat, xa = a := ⟨xa.toNat, by omega⟩
              obtain ⟨b, rfl⟩ : ∃ b : Nat, xb = b := ⟨xb.toNat, by omega⟩
              have HS2 := Lib.hid (HST.out a b rfl rfl)
              have han : a < n := by omega
              have hbn : b < n := by omega
              obtain ⟨x1, x2⟩ : 1 ≤ xc ∧ xc ≤ 1000000 := by omega
              obtain ⟨A1, a1, a2, a3⟩ := relax_row DR.out.len a b hbn xc
              obtain ⟨A2, b1, b2, b3⟩ := relax_row a1 b a han xc
              have BFN := Lib.hid (HS2.out.ext (B' := fnOf A2) (fun i hi => by
                rw [b2 i]
                congr 1
                funext j
                exact (a2 j).symm))
              have HBD := Lib.hid hbd
              have hbd1 : ∀ i, i < n → -1 ≤ fnOf A1 i ∧ fnOf A1 i ≤ 10001000000 := fun i hi => by
                rw [a2 i]
                unfold Pl.relax
                have := hbd i hi
                have := hbd a han
                split <;> omega
              have HBD1 := Lib.hid hbd1
              have HA3 := Lib.hid a3
              have HB3 := Lib.hid b3
              have HLA := Lib.hid (And.intro a1 b1)
              clear hx hE HST HS2 hup hblo hbd hbd1 a2 b2 a3 b3 a1 b1 BF
              have hgl := DR.out.lt (by omega)
              have hNw2 : N ≤ wr.heap.size := by rw [← HN.out]; exact DR.out.kb.size
              go_upto_region 14 with fail
              obtain ⟨X, hX⟩ : ∃ X, wr.heap.size = X := ⟨_, rfl⟩
              have hXg : gD ≠ X := by omega
              have hXg' : X ≠ gD := by omega
              refine abs_t (fun y => Hid (EdIn y wr.heap.size a b xc) ∧ Hid (DRow N w gD cD n A y)) ⟨Lib.hid (obj_new _ _), Lib.hid (DR.out.alloc hNw2 _)⟩ ?_
              rw [hX]
              clear q0 q1 q2 hX hgl DR hNw2
              rintro y ⟨EB, DR⟩
              obtain ⟨q0, q1, q2⟩ := EB.out.cells
              have da := DR.out.cell a han
              have db := DR.out.cell b hbn
              obtain ⟨va, hva⟩ : ∃ x, fnOf A a = x := ⟨_, rfl⟩
              obtain ⟨vb, hvb⟩ : ∃ x, fnOf A b = x := ⟨_, rfl⟩
              have ba := HBD.out a han
              have bb := HBD.out b hbn
              rw [hva] at da ba HA3
              rw [hvb] at db bb HA3
              obtain ⟨ba1, ba2⟩ := ba
              obtain ⟨bb1, bb2⟩ := bb
              have HVA := Lib.hid hva
              clear hva hvb
              have w1 : IntKind.i64.wrap (va + xc) = va + xc := by rw [IntKind.wrap_i64]; omega
              obtain ⟨m, hm⟩ : ∃ m, decide (0 ≤ va ∧ (vb < 0 ∨ va + xc < vb)) = m := ⟨_, rfl⟩
              go_cut [67] from 38 to 67 (fun v z => v = .bool m ∧ Hid (EdIn z X a b xc) ∧ Hid (DRow N w gD cD n A z))
              case first =>
                by_cases h0 : 0 ≤ va
                · have d0 : decide (0 ≤ va) = true := by simp [h0]
                  by_cases h1 : vb < 0
                  · have d1 : decide (vb < 0) = true := by simp [h1]
                    have HM := Lib.hid (show true = m by rw [← hm]; simp [h0, h1])
                    clear hm h0 h1
                    go_quiet (fail)
                    go_wp2_with fail
                    go_meet
                    exact ⟨by rw [← HM.out], EB, Lib.hid (DR.out.drewN _)⟩
                  · have d1 : decide (vb < 0) = false := by simp [h1]
                    have HM := Lib.hid (show decide (va + xc < vb) = m by rw [← hm]; simp [h0, h1])
                    clear hm h0 h1
                    go_quiet (fail)
                    go_wp2_with fail
                    go_meet
                    exact ⟨by rw [← HM.out], EB, Lib.hid (DR.out.drewN _)⟩
                · have d0 : decide (0 ≤ va) = false := by simp [h0]
                  have HM := Lib.hid (show false = m by rw [← hm]; simp [h0])
                  clear hm h0
                  go_quiet (fail)
                  go_wp2_with fail
                  go_meet
                  exact ⟨by rw [← HM.out], EB, Lib.hid (DR.out.drewN _)⟩
              case rest =>
              clear EB DR q0 q1 q2 da db
              obtain ⟨rfl, EB, DR⟩ := hcut
              go_upto_if 67 with fail
              go_cut [10] from 38 to 79 (fun v z => v = .int .i64 k ∧ Hid (EdIn z X a b xc) ∧ Hid (DRow N w gD cD n A1 z))
              case first =>
                cases m
                · have HA1 := Lib.hid (show A1 = A by have := HA3.out; rw [if_neg (of_decide_eq_false hm)] at this; exact this)
                  clear hm
                  go_wp2_with fail
                  go_meet
                  exact ⟨rfl, EB, by rw [HA1.out]; exact DR⟩
                · have HA1 := Lib.hid (show A1 = A.set b (va + xc) by have := HA3.out; rw [if_pos (of_decide_eq_true hm)] at this; exact this)
                  clear hm
                  obtain ⟨q0, q1, q2⟩ := EB.out.cells
                  have da := DR.out.cell a han
                  have db := DR.out.cell b hbn
                  have fb := DR.out.free b
                  rw [HVA.out] at da
                  generalize fnOf A b = vb' at *
                  have DN : Hid (DRow N w gD cD n A1 (wc.setCell ⟨gD, b, none⟩ (.int .i64 (va + xc))).drew) := Lib.hid (by
                    rw [HA1.out]
                    exact (DR.out.put b (va + xc)).drewN 1)
                  have EN : Hid (EdIn (wc.setCell ⟨gD, b, none⟩ (.int .i64 (va + xc))).drew X a b xc) := Lib.hid (obj_other EB.out (by simp; omega) _)
                  go_upto_region 15 with fail
                  go_region
                  go_wp2_with fail
                  go_meet
                  exact ⟨rfl, EN, DN⟩
              case rest =>
              clear EB DR w1 hm
              obtain ⟨rfl, EB, DR⟩ := hcut
              go_upto_region 16 with fail
              obtain ⟨q0, q1, q2⟩ := EB.out.cells
              have da := DR.out.cell a han
              have db := DR.out.cell b hbn
              obtain ⟨ua, hua⟩ : ∃ x, fnOf A1 a = x := ⟨_, rfl⟩
              obtain ⟨ub, hub⟩ : ∃ x, fnOf A1 b = x := ⟨_, rfl⟩
              have ca := HBD1.out a han
              have cb := HBD1.out b hbn
              rw [hua] at da ca HB3
              rw [hub] at db cb HB3
              obtain ⟨ca1, ca2⟩ := ca
              obtain ⟨cb1, cb2⟩ := cb
              have HUB := Lib.hid hub
              clear hua hub
              have w1 : IntKind.i64.wrap (ub + xc) = ub + xc := by rw [IntKind.wrap_i64]; omega
              obtain ⟨m2, hm⟩ : ∃ m, decide (0 ≤ ub ∧ (ua < 0 ∨ ub + xc < ua)) = m := ⟨_, rfl⟩
              go_cut [109] from 80 to 109 (fun v z => v = .bool m2 ∧ Hid (EdIn z X a b xc) ∧ Hid (DRow N w gD cD n A1 z))
              case first =>
                by_cases h0 : 0 ≤ ub
                · have d0 : decide (0 ≤ ub) = true := by simp [h0]
                  by_cases h1 : ua < 0
                  · have d1 : decide (ua < 0) = true := by simp [h1]
                    have HM := Lib.hid (show true = m2 by rw [← hm]; simp [h0, h1])
                    clear hm h0 h1
                    go_quiet (fail)
                    go_wp2_with fail
                    go_meet
                    exact ⟨by rw [← HM.out], EB, Lib.hid (DR.out.drewN _)⟩
                  · have d1 : decide (ua < 0) = false := by simp [h1]
                    have HM := Lib.hid (show decide (ub + xc < ua) = m2 by rw [← hm]; simp [h0, h1])
                    clear hm h0 h1
                    go_quiet (fail)
                    go_wp2_with fail
                    go_meet
                    exact ⟨by rw [← HM.out], EB, Lib.hid (DR.out.drewN _)⟩
                · have d0 : decide (0 ≤ ub) = false := by simp [h0]
                  have HM := Lib.hid (show false = m2 by rw [← hm]; simp [h0])
                  clear hm h0
                  go_quiet (fail)
                  go_wp2_with fail
                  go_meet
                  exact ⟨by rw [← HM.out], EB, Lib.hid (DR.out.drewN _)⟩
              case rest =>
              clear EB DR q0 q1 q2 da db
              obtain ⟨rfl, EB, DR⟩ := hcut
              cases m2
              · have HA2 := Lib.hid (show A2 = A1 by have := HB3.out; rw [if_neg (of_decide_eq_false hm)] at this; exact this)
                clear hm
                go_wp2_with fail
                go_roundw
                case measure => simp [intOf]; omega
                case rel => exact ⟨k + 1, A2, by omega, by go_num, by rw [HA2.out]; exact DR, BFN⟩
              · have HA2 := Lib.hid (show A2 = A1.set a (ub + xc) by have := HB3.out; rw [if_pos (of_decide_eq_true hm)] at this; exact this)
                clear hm
                obtain ⟨q0, q1, q2⟩ := EB.out.cells
                have da := DR.out.cell a han
                have db := DR.out.cell b hbn
                have fa := DR.out.free a
                rw [HUB.out] at db
                generalize fnOf A1 a = va' at *
                have DN : Hid (DRow N w gD cD n A2 (wc.setCell ⟨gD, a, none⟩ (.int .i64 (ub + xc))).drew) := Lib.hid (by
                  rw [HA2.out]
                  exact (DR.out.put a (ub + xc)).drewN 1)
                go_upto_region 17 with fail
                go_region
                go_wp2_with fail
                go_roundw
                case measure => simp [intOf]; omega
                case rel => exact ⟨k + 1, A2, by omega, by go_num, DN, BFN⟩
            · obtain rfl : k = L.length := by omega
              have BFN := Lib.hid (BF.out.round HG.out DJ.out)
              clear BF
              go_wp2_with fail
              go_roundw
              case measure => simp [intOf]; omega
              case rel => exact ⟨r + 1, A, by omega, by go_num, DR, BFN⟩
        · obtain rfl : n = r := by omega
          have HE := Lib.hid (fnL_fnOf DR.out.len (fun j hj => BF.out.done DJ.out j hj))
          clear BF
          go_wp2_with fail
          go_ret
          exact ⟨_, rfl, by have := DR.out.row; rw [HE.out] at this; exact this, DR.out.kb⟩
end Go.Proofs.YtmmfnalcdekkbaaDoor
