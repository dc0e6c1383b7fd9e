import Derived.Test.YtmmfnalcdekkbaaTreeCost
import Derived.Deep.CutBlock
/-! The walk of the law TreeLeast. -/
namespace Go.Proofs.Ytmmfnalcdekkbaa
open Go.RowKit
set_option linter.unusedVariables false
set_option linter.unusedSimpArgs false
namespace Pl
def L3 : List Ed := [⟨0, 1, 5⟩, ⟨1, 2, 4⟩, ⟨0, 2, 10⟩]
theorem good3 : GoodE (3 : Nat) L3 := by
  refine ⟨by decide, by decide, by decide, fun k hk => ?_⟩
  have : k = 0 ∨ k = 1 ∨ k = 2 := by simp [L3] at hk; omega
  rcases this with rfl | rfl | rfl <;> rfl
theorem cost3 : costN L3 0 0 = 0 ∧ costN L3 0 1 = 5 ∧ costN L3 0 2 = 10 ∧ costN L3 1 0 = 5 ∧ costN L3 1 1 = 0 ∧ costN L3 1 2 = 4 ∧ costN L3 2 0 = 10 ∧ costN L3 2 1 = 4 ∧ costN L3 2 2 = 0 := by decide
theorem dj3 : Dj 3 0 (costN L3) (fun i => if i = 0 then 0 else if i = 1 then 5 else 9) := by
  obtain ⟨c00, c01, c02, c10, c11, c12, c20, c21, c22⟩ := cost3
  refine ⟨rfl, fun i hi => ?_, fun i hi => ?_, fun i j hi hj h0 hc => ?_, fun i hi hr h0 => ?_⟩
  · have : i = 0 ∨ i = 1 ∨ i = 2 := by omega
    rcases this with rfl | rfl | rfl <;> decide
  · have : i = 0 ∨ i = 1 ∨ i = 2 := by omega
    rcases this with rfl | rfl | rfl <;> decide
  · have : i = 0 ∨ i = 1 ∨ i = 2 := by omega
    have : j = 0 ∨ j = 1 ∨ j = 2 := by omega
    rcases ‹i = 0 ∨ _› with rfl | rfl | rfl <;> rcases ‹j = 0 ∨ _› with rfl | rfl | rfl <;> simp [c00, c01, c02, c10, c11, c12, c20, c21, c22]
  · have : i = 1 ∨ i = 2 := by omega
    rcases this with rfl | rfl
    · exact ⟨0, by decide, by decide, by rw [c01]; decide, by rw [c01]; decide⟩
    · exact ⟨1, by decide, by decide, by rw [c12]; decide, by rw [c12]; decide⟩
theorem fact3 {D P : Nat → Int} (hD : Dj 3 0 (costN L3) D) (hP : Par 3 0 (costN L3) D P) : D 2 = 9 ∧ P 2 = 1 := by
  have u := fun i (hi : i < 3) => hD.uniq (good3.cok 3) dj3 (by decide) i hi
  have u0 := u 0 (by decide)
  have u1 := u 1 (by decide)
  have u2 := u 2 (by decide)
  simp at u0 u1 u2
  obtain ⟨c00, c01, c02, c10, c11, c12, c20, c21, c22⟩ := cost3
  refine ⟨u2, ?_⟩
  have h := hP 2 (by decide)
  rw [if_pos (by rw [u2]; decide)] at h
  refine h.eq (.inr ⟨1, rfl, by decide, by decide, ⟨by rw [c12]; decide, by rw [c12, u1, u2]; decide⟩, fun j _ hj => ?_⟩)
  obtain rfl : j = 0 := by omega
  intro q
  have := q.2
  rw [c02, u0, u2] at this
  exact absurd this (by decide)
end Pl
/-- three edges that the call has made -/
theorem eds3 {w : World} {g : Nat} (h : w.heap[g]? = some (.cells #[.int .i64 0, .int .i64 1, .int .i64 5, .int .i64 1, .int .i64 2, .int .i64 4, .int .i64 0, .int .i64 2, .int .i64 10] 31 (0, 0))) : IsEds w (.slice (some ⟨g, 0, none⟩) 3 3) Pl.L3 := by
  refine ⟨.inr ⟨g, 0, 3, rfl, by decide, by decide, fun i hi j u hu => ?_⟩, fun x hx => ?_⟩
  · have hi3 : i < 3 := hi
    have hj3 : j < 3 := by
      have h1 := (List.getElem?_eq_some_iff.1 hu).1
      have : ∀ x : Ed, x.cells.length = 3 := fun _ => rfl
      rw [this] at h1; exact h1
    have hi' : i = 0 ∨ i = 1 ∨ i = 2 := by omega
    have hj' : j = 0 ∨ j = 1 ∨ j = 2 := by omega
    rcases hi' with rfl | rfl | rfl <;> rcases hj' with rfl | rfl | rfl <;> (simp [Pl.L3, Ed.cells] at hu; subst hu; exact obj_cell h rfl)
  · simp [Pl.L3] at hx
    rcases hx with rfl | rfl | rfl <;> (refine ⟨?_, ?_, ?_⟩ <;> decide)
theorem treePath_ok (v : Value) (ps : List Int) (x : Nat) (w : World) (hv0 : IsSl w v ps) (hg : GoodT ps) (hx : x < ps.length) :
    Calls Try.prog 6 #[v, .int .i64 x] w fun e w' => ∃ v', e = .returned (.tuple #[v', .nilIface]) ∧ ORow w' w.heap.size v' (upOf ps x).reverse ∧ Below w.heap.size w w' :=
  (treePath_any v ps x w hv0).mono fun e w' ⟨f, v', h1, h2, h3, h4⟩ => by
    have hf : f = 0 := by
      rcases h1 with ⟨a, b⟩ | ⟨_, b, _⟩ | ⟨_, _, b⟩
      · exact absurd (b.eq (TreeF.good.2 hg)) a
      · exact absurd ⟨by omega, by omega⟩ b
      · exact b
    subst hf
    exact ⟨v', h2, h3, h4⟩
theorem CostE.ok {n : Int} {L : List Ed} {ps : List Int} {f s s' : Int} (h : CostE n L ps f s) (hg : Pl.GoodE n L) (ht : GoodT ps) (hn : (ps.length : Int) = n) (hs : costSum L ps ps.length = some s') : f = 0 ∧ s = s' := by
  rcases h with ⟨a, b, _⟩ | ⟨_, a, b, _⟩ | ⟨_, _, a, _⟩ | ⟨_, _, _, a, _⟩ | ⟨_, _, _, a, b⟩
  · exact absurd (b.eq (Pl.EdgesF.good.2 hg)) a
  · exact absurd (b.eq (TreeF.good.2 ht)) a
  · exact absurd hn a
  · rw [hs] at a; cases a
  · rw [hs] at a; exact ⟨b, (Option.some.inj a).symm⟩
set_option maxRecDepth 100000 in
set_option maxHeartbeats 4000000 in
theorem walk_TreeLeast_run (n root : Nat) (L : List Ed) (oa : Option Addr) (cp : Nat) (w : World) (hL0 : IsEds w (.slice oa L.length cp) L) (hg : Pl.GoodE n L) (hr : root < n) :
    Calls Try.prog 4 #[.int .i64 n, .slice oa L.length cp, .int .i64 root] w fun e w' => e = .returned (.bool true) ∧ Below w.heap.size w w' := by
  have HL := Lib.hid hL0
  have HG := Lib.hid hg
  have n1 := hg.n1
  have n2 := hg.n2
  have hll := hg.len
  have B0 := Lib.hid (fun y g (h : y.heap[g]? = some (.cells #[.int .i64 0, .int .i64 1, .int .i64 5, .int .i64 1, .int .i64 2, .int .i64 4, .int .i64 0, .int .i64 2, .int .i64 10] 31 (0, 0))) => show Calls Try.prog 5 #[.int .i64 3, .slice (some ⟨g, 0, none⟩) 3 3, .int .i64 0] y (BuildE Pl.L3 3 0 y.heap.size y) from build_ok 3 0 (.slice (some ⟨g, 0, none⟩) 3 3) Pl.L3 y (eds3 h) Pl.good3 (by decide))
  have B1 := Lib.hid (fun y (k : Below w.heap.size w y) => build_ok n root _ L y (hL0.below k) hg hr)
  clear hL0 hg
  obtain ⟨N, hN⟩ : ∃ N, w.heap.size = N := ⟨_, rfl⟩
  have HN := Lib.hid hN
  rw [hN] at B1 ⊢
  clear hN
  go_enter Try.func4, Try.ntmps4
  go_upto_region 2 with (go_at_call 5; (with_reducible refine (B0.out _ _ (obj_new w _)).mono ?_); rintro e w2 ⟨gP0, gD0, D0, P0, rfl, hD, hP, hd0, hp0, hDj, hPar, k⟩)
  have F3 := Pl.fact3 hDj hPar
  have d2 := hD.cell 2 (by decide)
  have p2 := hP.cell 2 (by decide)
  rw [F3.1] at d2
  rw [F3.2] at p2
  have K2 : Hid (Below N w w2) := Lib.hid (by
    rw [← HN.out]
    exact ((Below.refl _ w).alloc (Nat.le_refl _) _).trans (k.mono (by simp)))
  clear F3 hD hP hd0 hp0 hDj hPar k B0
  go_upto_region 4 with fail
  clear d2 p2
  go_upto_region 5 with (go_at_call 5; (with_reducible refine (B1.out _ K2.out).mono ?_); rintro e w3 ⟨gP, gD, D, P, rfl, hD, hP, hd0, hp0, hDj, hPar, k⟩)
  have HD := Lib.hid hD
  have HP := Lib.hid hP
  have DJ := Lib.hid hDj
  have PR := Lib.hid hPar
  have K3 := Lib.hid (K2.out.trans (k.mono (by rw [← HN.out]; exact K2.out.size)))
  clear hD hP hDj hPar k hd0 hp0 K2 B1
  have PT := Lib.hid (par_tree (by omega) (HG.out.cok n) DJ.out PR.out)
  have dr := HD.out.cell root hr
  have pr := HP.out.cell root hr
  rw [DJ.out.d0] at dr
  have hpr : P root = -1 := by
    have := PR.out root hr
    rw [if_neg (fun h => h.1 rfl)] at this; exact this
  rw [hpr] at pr
  clear hpr
  go_upto_region 10 with fail
  clear dr pr
  have hdb : ∀ x : Nat, x < n → -1 ≤ D x ∧ D x ≤ 16000000 := fun x hx => by
    have h1 := DJ.out.lo x hx
    have h2 := DJ.out.hi x hx
    omega
  have HDB := Lib.hid hdb
  clear hdb
  go_loopw [13] (fun s13 wr => ∃ i : Nat, i ≤ L.length ∧ s13 = .int .i64 i ∧ Hid (Below w3.heap.size w3 wr)) (fun s13 _ => L.length - (intOf s13).toNat)
  case atStart => exact ⟨0, by omega, rfl, Lib.hid (Below.refl _ _)⟩
  case round =>
    obtain ⟨i, hi, rfl, KR⟩ := hrel
    by_cases hlt : i < L.length
    · obtain ⟨_, _, e, -, -, rd⟩ := eds_read (HL.out.below (by have := K3.out.trans (KR.out.mono (by rw [← HN.out]; exact K3.out.size)); rw [HN.out]; exact this))
      cases e
      obtain ⟨g, f, rfl, hg, q0, q1, q2, -⟩ := rd i hlt
      clear rd
      have hE := HG.out.edge i hlt
      have hcost := HG.out.cost (i := L[i].a) (j := L[i].b) hlt (by unfold Pl.edM; simp)
      obtain ⟨⟨xa, xb, xc⟩, hx⟩ : ∃ x, L[i] = x := ⟨_, rfl⟩
      rw [hx] at q0 q1 q2 hE hcost
      simp only at q0 q1 q2 hE hcost
      obtain ⟨a, rfl⟩ : ∃ a : Nat, xa = a := ⟨xa.toNat, by omega⟩
      obtain ⟨b, rfl⟩ : ∃ b : Nat, xb = b := ⟨xb.toNat, by omega⟩
      have han : a < n := by omega
      have hbn : b < n := by omega
      have hc1 : Pl.costN L a b = xc := hcost
      have hc2 : Pl.costN L b a = xc := (Pl.costF_symm L b a).trans hcost
      have R1 := DJ.out.rel a b han hbn
      have R2 := DJ.out.rel b a hbn han
      rw [hc1] at R1
      rw [hc2] at R2
      have ba := HDB.out a han
      have bb := HDB.out b hbn
      obtain ⟨x1, x2⟩ : 1 ≤ xc ∧ xc ≤ 1000000 := by omega
      have KA := Lib.hid (KR.out.alloc KR.out.size (.cells #[.int .i64 (a : Int), .int .i64 (b : Int), .int .i64 xc] 31))
      have hab := hE.2.2.2.2.1
      clear hx hE hcost hc1 hc2 hab
      go_upto_region 13 with fail
      refine abs_t (fun y => Hid (EdIn y wr.heap.size a b xc) ∧ Hid (Below w3.heap.size w3 y)) ⟨Lib.hid (obj_new _ _), KA⟩ ?_
      generalize wr.heap.size = B at *
      clear q0 q1 q2 KA
      rintro y ⟨EB, KY⟩
      obtain ⟨q0, q1, q2⟩ := EB.out.cells
      have da := (HD.out.below KY.out HD.out.lt).cell a han
      have db := (HD.out.below KY.out HD.out.lt).cell b hbn
      obtain ⟨va, hva⟩ : ∃ q, D a = q := ⟨_, rfl⟩
      obtain ⟨vb, hvb⟩ : ∃ q, D b = q := ⟨_, rfl⟩
      rw [hva] at da R1 R2 ba
      rw [hvb] at db R1 R2 bb
      have HR := Lib.hid (And.intro R1 R2)
      obtain ⟨ba1, ba2⟩ := ba
      obtain ⟨bb1, bb2⟩ := bb
      clear hva hvb R1 R2
      go_cut [163] from 111 to 163 (fun v z => v = .bool false ∧ Hid (Below w3.heap.size w3 z))
      case first =>
        by_cases h0 : 0 ≤ va
        · have h1 := HR.out.1 h0 (by omega)
          have h2 := HR.out.2 h1.1 (by omega)
          obtain ⟨h3, h4⟩ := h1
          obtain ⟨h5, h6⟩ := h2
          have da1 : decide (va < 0) = false := by simp; omega
          have db1 : decide (vb < 0) = false := by simp; omega
          have da2 : decide (0 ≤ va) = true := by simp; omega
          have w1 : IntKind.i64.wrap (vb + xc) = vb + xc := by rw [IntKind.wrap_i64]; omega
          have w2' : IntKind.i64.wrap (va + xc) = va + xc := by rw [IntKind.wrap_i64]; omega
          have t1 : decide (vb + xc < va) = false := by simp; omega
          have t2 : decide (va + xc < vb) = false := by simp; omega
          clear h0 h3 h4 h5 h6
          go_quiet (fail)
          go_wp2_with fail
          go_meet
          exact ⟨rfl, Lib.hid (Below.drewN KY.out _)⟩
        · have h1 : vb < 0 := by
            by_cases q : 0 ≤ vb
            · have := HR.out.2 q (by omega); omega
            · omega
          have da1 : decide (va < 0) = true := by simp; omega
          have db1 : decide (vb < 0) = true := by simp; omega
          have da2 : decide (0 ≤ va) = false := by simp; omega
          clear h0 h1
          go_quiet (fail)
          go_wp2_with fail
          go_meet
          exact ⟨rfl, Lib.hid (Below.drewN KY.out _)⟩
      case rest =>
      clear KR KY q0 q1 q2 da db
      obtain ⟨rfl, KR⟩ := hcut
      go_wp2_with fail
      go_roundw
      case measure => simp [intOf]; omega
      case rel => exact ⟨i + 1, by omega, by go_num, KR⟩
    · go_upto_region 17 with fail
      go_loopw [15, 16] (fun s15 s16 wr => ∃ (i : Nat) (s : Int), i ≤ n ∧ s16 = .int .i64 i ∧ s15 = .int .i64 s ∧ 0 ≤ s ∧ s ≤ 1000000 * i ∧ Hid (costSum L (fnL n P) i = some s) ∧ Hid (Below w3.heap.size w3 wr)) (fun _ s16 _ => n - (intOf s16).toNat)
      case atStart => exact ⟨0, 0, by omega, rfl, rfl, by omega, by omega, Lib.hid rfl, KR⟩
      case round =>
        clear KR
        obtain ⟨i, s, hi, rfl, rfl, hs0, hs1, CS, KR⟩ := hrel
        by_cases hin : i < n
        · have HPr := Lib.hid (HP.out.below KR.out HP.out.lt)
          have PA := Lib.hid (treePath_ok (.slice (some ⟨gP, 0, none⟩) n n) (fnL n P) i wr (HPr.out.sl (by omega)) PT.out.1 (by rw [fnL_len]; exact hin))
          have WY := Lib.hid (PT.out.2 i hin)
          obtain ⟨W, hW⟩ : ∃ W, (upOf (fnL n P) i).reverse = W := ⟨_, rfl⟩
          rw [hW] at PA WY
          have hWp := WY.out.pos
          have hWl := WY.out.len
          clear hW HPr
          go_upto_region 20 with (go_at_call 6; (with_reducible refine PA.out.mono ?_); rintro e w5 ⟨v', rfl, ho, k5⟩)
          obtain ⟨gW, cW, hv⟩ := Joins.ownsRow_form ho (by omega)
          subst hv
          obtain ⟨ℓ, hℓ⟩ : ∃ ℓ, W.length = ℓ := ⟨_, rfl⟩
          obtain ⟨j, hj⟩ : ∃ j, ℓ - 1 = j := ⟨_, rfl⟩
          have cj := ORow.at_ ho j (by omega)
          have c0 := ORow.at_ ho 0 hWp
          have K5 := Lib.hid (KR.out.trans (k5.mono KR.out.size))
          have hlast := WY.out.last
          rw [hℓ, hj] at hlast
          rw [hlast] at cj
          rw [hℓ] at hWp hWl
          have HT := Lib.hid WY.out.top
          rw [hℓ] at HT
          rw [hℓ]
          have W1 : IntKind.i64.wrap ((ℓ : Int) - 1) = (j : Int) := by rw [IntKind.wrap_i64]; omega
          have W2 : (ℓ : Int) - 1 = (j : Int) := by omega
          have hl1 : ¬ ℓ < 1 := by omega
          have di := (HD.out.below K5.out HD.out.lt).cell i hin
          have pi := (HP.out.below K5.out HP.out.lt).cell i hin
          have UPW := Lib.hid (PR.out.up (HG.out.cok n) DJ.out i hin)
          have bi := HDB.out i hin
          obtain ⟨y0, hy0⟩ : ∃ q, W.getD 0 0 = q := ⟨_, rfl⟩
          rw [hy0] at c0 HT
          have HJ := Lib.hid hj
          have hjl : j < ℓ := by omega
          clear ho k5 hlast hy0 hj PA WY KR
          have hir : (i : Int) ≠ root ∨ i = root := by omega
          have HX := Lib.hid (show costSum L (fnL n P) (i + 1) = if P i < 0 then some s else if Pl.costF L (P i) i = 0 then none else some (s + Pl.costF L (P i) i) by
            show (match costSum L (fnL n P) i with | none => none | some s => if atL (fnL n P) i < 0 then some s else if Pl.costF L (atL (fnL n P) i) i = 0 then none else some (s + Pl.costF L (atL (fnL n P) i) i)) = _
            rw [CS.out, fnL_at n P i hin])
          clear CS
          rcases UPW.out with ⟨hq, hp⟩ | ⟨k, hp, hkn, hne, hk0, hk1, hk2, hk3⟩
          · rw [hp] at pi HX
            rw [if_pos (by decide)] at HX
            have HN := Lib.hid (Below.refl w3.heap.size w3)
            have HCS : Hid (costSum L (fnL n P) (i + 1) = some s) := HX
            by_cases h0 : 0 ≤ D i
            · have hir2 : i = root := by rcases hq with q | q <;> omega
              have hy := HT.out.1 h0
              have hne2 : ((i : Int) != (root : Int)) = false := by simp [hir2]
              have hy2 : (y0 != (root : Int)) = false := by simp [hy]
              obtain ⟨q, hqd⟩ : ∃ q, D i = q := ⟨_, rfl⟩
              rw [hqd] at di h0 bi
              clear hir hq hir2 hy hqd hp
              go_wp2_with fail
              go_roundw
              case measure => simp [intOf]; omega
              case rel => exact ⟨i + 1, s, by omega, by go_num, rfl, hs0, by omega, HCS, K5⟩
            · have hl := HT.out.2 (by omega)
              have hll2 : ((ℓ : Int) != 1) = false := by simp [hl]
              have hir2 : i ≠ root := fun e => by subst e; rw [DJ.out.d0] at h0; omega
              have hne2 : ((i : Int) != (root : Int)) = true := by simp; omega
              obtain ⟨q, hqd⟩ : ∃ q, D i = q := ⟨_, rfl⟩
              rw [hqd] at di h0 bi
              have HLL := Lib.hid hl
              clear hir hq hir2 hqd hp hl
              go_wp2_with fail
              go_roundw
              case measure => simp [intOf]; omega
              case rel => exact ⟨i + 1, s, by omega, by go_num, rfl, hs0, by omega, HCS, K5⟩
          · rw [hp] at pi HX
            rw [if_neg (by omega)] at HX
            have hcc : Pl.costF L k i = Pl.costN L k i := rfl
            rw [hcc, if_neg (by omega)] at HX
            have hy := HT.out.1 (by omega)
            have hne2 : ((i : Int) != (root : Int)) = true := by simp; omega
            have hy2 : (y0 != (root : Int)) = false := by simp [hy]
            have hcb := (HG.out.cok n).hi k i
            have dk := (HD.out.below K5.out HD.out.lt).cell k hkn
            have bk := HDB.out k hkn
            obtain ⟨q, hqd⟩ : ∃ q, D i = q := ⟨_, rfl⟩
            obtain ⟨r, hrd⟩ : ∃ r, D k = r := ⟨_, rfl⟩
            obtain ⟨c, hc⟩ : ∃ c, Pl.costN L k i = c := ⟨_, rfl⟩
            rw [hqd] at di bi hk1 hk3
            rw [hrd] at dk bk hk0 hk1 hk3
            rw [hc] at HX hk2 hk3 hcb
            have HK3 := Lib.hid hk3
            obtain ⟨bi1, bi2⟩ := bi
            obtain ⟨bk1, bk2⟩ := bk
            have e1 : q = r + c := by omega
            have w1 : IntKind.i64.wrap (s + q) = s + q := by rw [IntKind.wrap_i64]; omega
            have w2' : IntKind.i64.wrap (s + q - r) = s + q - r := by rw [IntKind.wrap_i64]; omega
            have t1 : decide (q ≤ r) = false := by simp; omega
            have hq0 : 0 ≤ q := by omega
            have E1 := Lib.hid e1
            clear hir hqd hrd hc hy hp hcc hne hk3 e1
            go_upto_region 23 with fail
            go_cut [15] from 242 to 255 (fun v z => v = .int .i64 (s + q - r) ∧ Hid (Below w3.heap.size w3 z) ∧ z.cell? ⟨gD, i, none⟩ = some (encI q) ∧ z.cell? ⟨gP, i, none⟩ = some (encI k) ∧ z.cell? ⟨gD, k, none⟩ = some (encI r))
            case first =>
              go_quiet (fail)
              go_wp2_with fail
              go_meet
              exact ⟨rfl, Lib.hid (Below.drewN K5.out _), di, pi, dk⟩
            case rest =>
            clear K5 di pi dk cj c0 w1 w2'
            obtain ⟨rfl, K5, di, pi, dk⟩ := hcut
            go_upto_region 24 with fail
            go_cut [267] from 256 to 267 (fun v z => v = .bool false ∧ Hid (Below w3.heap.size w3 z))
            case first =>
              go_quiet (fail)
              go_wp2_with fail
              go_meet
              exact ⟨rfl, Lib.hid (Below.drewN K5.out _)⟩
            case rest =>
            clear K5 di pi dk
            obtain ⟨rfl, K5⟩ := hcut
            have HCS : Hid (costSum L (fnL n P) (i + 1) = some (s + q - r)) := Lib.hid (by rw [HX.out]; congr 1; have := E1.out; omega)
            have hc1 : c ≤ 1000000 := hcb
            go_wp2_with fail
            go_roundw
            case measure => simp [intOf]; omega
            case rel => exact ⟨i + 1, s + q - r, by omega, by go_num, rfl, by have := E1.out; omega, by have := E1.out; omega, HCS, K5⟩
        · have hii : i = n := by omega
          have HPr := Lib.hid (HP.out.below KR.out HP.out.lt)
          have CS2 := Lib.hid (show costSum L (fnL n P) n = some s by have := CS.out; rw [hii] at this; exact this)
          have CST := Lib.hid ((treeCost_any n (.slice oa L.length cp) (.slice (some ⟨gP, 0, none⟩) n n) L (fnL n P) wr (HL.out.below (by have := K3.out.trans (KR.out.mono (by rw [← HN.out]; exact K3.out.size)); rw [HN.out]; exact this)) (HPr.out.sl (by omega))).mono (R' := fun e w' => e = .returned (.tuple #[.int .i64 s, .nilIface]) ∧ Below wr.heap.size wr w') (fun e w' ⟨f, s', h1, h2, h3⟩ => by
            obtain ⟨rfl, rfl⟩ := h2.ok HG.out PT.out.1 (by rw [fnL_len]) (by rw [fnL_len]; exact CS2.out)
            exact ⟨h1, h3⟩))
          have KN := Lib.hid (K3.out.trans (KR.out.mono (by rw [← HN.out]; exact K3.out.size)))
          have HII := Lib.hid hii
          clear hii CS
          go_wp2_with (go_at_call 9; (with_reducible refine CST.out.mono ?_); rintro e w6 ⟨rfl, k⟩; have K6 := Lib.hid (KN.out.trans (k.mono (by rw [← HN.out]; exact KN.out.size))); clear k)
          go_ret
          exact ⟨by simp, K6.out⟩
set_option maxRecDepth 100000 in
set_option maxHeartbeats 4000000 in
theorem walk_TreeLeast_bad (n root : Int) (v : Value) (L : List Ed) (w : World) (hL0 : IsEds w v L) (hb : ¬ (Pl.GoodE n L ∧ 0 ≤ root ∧ root < n)) :
    Calls Try.prog 4 #[.int .i64 n, v, .int .i64 root] w fun e w' => e = .returned (.bool true) ∧ Below w.heap.size w w' := by
  have B0 := Lib.hid (fun y g (h : y.heap[g]? = some (.cells #[.int .i64 0, .int .i64 1, .int .i64 5, .int .i64 1, .int .i64 2, .int .i64 4, .int .i64 0, .int .i64 2, .int .i64 10] 31 (0, 0))) => show Calls Try.prog 5 #[.int .i64 3, .slice (some ⟨g, 0, none⟩) 3 3, .int .i64 0] y (BuildE Pl.L3 3 0 y.heap.size y) from build_ok 3 0 (.slice (some ⟨g, 0, none⟩) 3 3) Pl.L3 y (eds3 h) Pl.good3 (by decide))
  have B1 := Lib.hid (fun y (k : Below w.heap.size w y) => build_bad n root v L y (hL0.below k) hb)
  have HB := Lib.hid hb
  have HL := Lib.hid hL0
  obtain ⟨N, hN⟩ : ∃ N, w.heap.size = N := ⟨_, rfl⟩
  have HN := Lib.hid hN
  have TG := Lib.hid (fun (hg : Pl.GoodE n L) y (k : Below w.heap.size w y) => treeCheck_good n v L y (hL0.below k) hg)
  have TB := Lib.hid (fun (hg : ¬ Pl.GoodE n L) y (k : Below w.heap.size w y) => treeCheck_bad n v L y (hL0.below k) hg)
  rw [hN] at B1 TG TB ⊢
  clear hN hL0 hb
  by_cases hg : Pl.GoodE n L
  · have TC := Lib.hid (TG.out hg)
    have hr : root < 0 ∨ (0 ≤ root ∧ n ≤ root) := by
      have := HB.out
      by_cases q : 0 ≤ root
      · by_cases q2 : root < n
        · exact absurd ⟨hg, q, q2⟩ this
        · omega
      · omega
    clear hg TG TB
    rcases hr with h | ⟨h, h2⟩
    all_goals
      go_enter Try.func4, Try.ntmps4
      go_upto_region 2 with (go_at_call 5; (with_reducible refine (B0.out _ _ (obj_new w _)).mono ?_); rintro e w2 ⟨gP0, gD0, D0, P0, rfl, hD, hP, hd0, hp0, hDj, hPar, k⟩)
      have F3 := Pl.fact3 hDj hPar
      have d2 := hD.cell 2 (by decide)
      have p2 := hP.cell 2 (by decide)
      rw [F3.1] at d2
      rw [F3.2] at p2
      have K2 : Hid (Below N w w2) := Lib.hid (by
        rw [← HN.out]
        exact ((Below.refl _ w).alloc (Nat.le_refl _) _).trans (k.mono (by simp)))
      clear F3 hD hP hd0 hp0 hDj hPar k
      go_upto_region 4 with fail
      clear d2 p2
      go_wp2_with (first
        | (go_at_call 5; (with_reducible refine (B1.out _ K2.out).mono ?_); rintro e w3 ⟨f, rfl, hf, k⟩; have K3 := Lib.hid (K2.out.trans (k.mono (by rw [← HN.out]; exact K2.out.size))); clear hf k)
        | (go_at_call 8; (with_reducible refine (TC.out _ K3.out).mono ?_); rintro e w4 ⟨rfl, k⟩; have K4 := Lib.hid (K3.out.trans (k.mono (by rw [← HN.out]; exact K3.out.size))); clear k))
      go_ret
      exact ⟨rfl, K4.out⟩
  · have TC := Lib.hid (TB.out hg)
    clear hg TG TB
    go_enter Try.func4, Try.ntmps4
    go_upto_region 2 with (go_at_call 5; (with_reducible refine (B0.out _ _ (obj_new w _)).mono ?_); rintro e w2 ⟨gP0, gD0, D0, P0, rfl, hD, hP, hd0, hp0, hDj, hPar, k⟩)
    have F3 := Pl.fact3 hDj hPar
    have d2 := hD.cell 2 (by decide)
    have p2 := hP.cell 2 (by decide)
    rw [F3.1] at d2
    rw [F3.2] at p2
    have K2 : Hid (Below N w w2) := Lib.hid (by
      rw [← HN.out]
      exact ((Below.refl _ w).alloc (Nat.le_refl _) _).trans (k.mono (by simp)))
    clear F3 hD hP hd0 hp0 hDj hPar k
    go_upto_region 4 with fail
    clear d2 p2
    go_wp2_with (first
      | (go_at_call 5; (with_reducible refine (B1.out _ K2.out).mono ?_); rintro e w3 ⟨f, rfl, hf, k⟩; have K3 := Lib.hid (K2.out.trans (k.mono (by rw [← HN.out]; exact K2.out.size))); clear hf k)
      | (go_at_call 8; (with_reducible refine (TC.out _ K3.out).mono ?_); rintro e w4 ⟨f, rfl, hf, k⟩; have K4 := Lib.hid (K3.out.trans (k.mono (by rw [← HN.out]; exact K3.out.size))); clear k hf))
    go_ret
    exact ⟨rfl, K4.out⟩
theorem walk_TreeLeast (w : World) (n : Int) (hn : (Lit.int .i64 n).wf = true) (v1 : Value) (L : List Ed) (o1 : IsEds w v1 L) (root : Int) (hr : (Lit.int .i64 root).wf = true) :
    Calls Try.prog 4 #[.int .i64 n, v1, .int .i64 root] w fun e w' => e = .returned (.bool true) ∧ Below w.heap.size w w' := by
  by_cases hb : Pl.GoodE n L ∧ 0 ≤ root ∧ root < n
  · obtain ⟨hg, r0, r1⟩ := hb
    obtain ⟨nn, rfl⟩ : ∃ k : Nat, n = k := ⟨n.toNat, by have := hg.n1; omega⟩
    obtain ⟨rn, rfl⟩ : ∃ k : Nat, root = k := ⟨root.toNat, by omega⟩
    obtain ⟨oa, cp, rfl, -⟩ := eds_read o1
    exact walk_TreeLeast_run nn rn L oa cp w o1 hg (by omega)
  · exact walk_TreeLeast_bad n root v1 L w o1 hb
end Go.Proofs.Ytmmfnalcdekkbaa
