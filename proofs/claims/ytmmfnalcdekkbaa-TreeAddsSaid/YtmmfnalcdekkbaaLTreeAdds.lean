import Derived.Test.YtmmfnalcdekkbaaTreeBuildB
import Derived.Test.YtmmfnalcdekkbaaTreeKids
import Derived.Deep.CutBlock
/-! The walk of the law TreeAdds. -/
namespace Go.Proofs.Ytmmfnalcdekkbaa
open Go.RowKit
set_option linter.unusedVariables false
set_option linter.unusedSimpArgs false
theorem kidsL_mem {ps : List Int} {x : Int} {k i : Nat} (hi : i < k) (h : atL ps i = x) : (i : Int) ∈ kidsL ps x k := by
  unfold kidsL
  exact List.mem_map.2 ⟨i, List.mem_filter.2 ⟨List.mem_range.2 hi, by simp [h]⟩, rfl⟩
theorem any_take_next (l : List Int) (k : Nat) (hk : k < l.length) (p : Int → Bool) : (l.take (k + 1)).any p = ((l.take k).any p || p l[k]) := by
  rw [List.take_succ_eq_append_getElem hk, List.any_append]; simp
set_option maxRecDepth 100000 in
set_option maxHeartbeats 8000000 in
theorem walk_TreeAdds_run (n root node : Nat) (L : List Ed) (oa : Option Addr) (cp : Nat) (w : World) (hL0 : IsEds w (.slice oa L.length cp) L) (hg : Pl.GoodE n L) (hr : root < n) (hn : node < n) :
    Calls Try.prog 3 #[.int .i64 n, .slice oa L.length cp, .int .i64 root, .int .i64 node] w fun e w' => e = .returned (.bool true) ∧ Below w.heap.size w w' := by
  have HL := Lib.hid hL0
  have HG := Lib.hid hg
  have n1 := hg.n1
  have n2 := hg.n2
  have hll := hg.len
  have B1 := Lib.hid (build_ok n root _ L w hL0 hg hr)
  clear hL0 hg
  go_enter Try.func3, Try.ntmps3
  go_upto_region 2 with (go_at_call 5; (with_reducible refine B1.out.mono ?_); rintro e w2 ⟨gP, gD, D, P, rfl, hD, hP, hd0, hp0, hDj, hPar, k⟩; have HD := Lib.hid hD; have HP := Lib.hid hP; have DJ := Lib.hid hDj; have PR := Lib.hid hPar; have K := Lib.hid k; have HLO := Lib.hid (And.intro hd0 hp0); clear hD hP hDj hPar k hd0 hp0)
  have PT := Lib.hid (par_tree (by omega) (HG.out.cok n) DJ.out PR.out)
  have WY := Lib.hid (PT.out.2 node hn)
  have PA := Lib.hid ((treePath_any (.slice (some ⟨gP, 0, none⟩) n n) (fnL n P) node w2 (HP.out.sl (by omega))).mono (R' := fun e w' => ∃ v', e = .returned (.tuple #[v', .nilIface]) ∧ ORow w' w2.heap.size v' (upOf (fnL n P) node).reverse ∧ Below w2.heap.size w2 w') (fun e w' ⟨f, v', h1, h2, h3, h4⟩ => by
    have hf : f = 0 := by
      rcases h1 with ⟨a, b⟩ | ⟨_, b, _⟩ | ⟨_, _, b⟩
      · exact absurd (b.eq (TreeF.good.2 PT.out.1)) a
      · exact absurd ⟨by omega, by rw [fnL_len]; omega⟩ b
      · exact b
    subst hf
    exact ⟨v', h2, h3, h4⟩))
  obtain ⟨W, hW⟩ : ∃ W, (upOf (fnL n P) node).reverse = W := ⟨_, rfl⟩
  rw [hW] at PA WY
  clear hW B1
  have hWp := WY.out.pos
  have hWl := WY.out.len
  have hroot : ¬ (node : Int) < 0 := by omega
  have hnn : ¬ (n : Int) ≤ node := by omega
  go_upto_region 5 with (go_at_call 6; (with_reducible refine PA.out.mono ?_); rintro e w3 ⟨v', rfl, ho, k⟩)
  obtain ⟨gW, cW, hv⟩ := Joins.ownsRow_form ho (by omega)
  subst hv
  have HW := Lib.hid ho
  have HP3 := Lib.hid (HP.out.below k HP.out.lt)
  have HD3 := Lib.hid (HD.out.below k HD.out.lt)
  have K3 := Lib.hid (K.out.trans (k.mono K.out.size))
  have hpos : ¬ W.length < 1 := by omega
  clear ho k HP HD K PA
  go_upto_region 9 with fail
  go_loopw [14, 15] (fun s14 s15 wr => ∃ i : Nat, 1 ≤ i ∧ i ≤ W.length ∧ s15 = .int .i64 i ∧ s14 = .int .i64 (D (W.getD (i - 1) 0).toNat - D (W.getD 0 0).toNat) ∧ Hid (Below w3.heap.size w3 wr)) (fun _ s15 _ => W.length - (intOf s15).toNat)
  case atStart => exact ⟨1, by omega, by omega, rfl, by simp, Lib.hid (Below.refl _ _)⟩
  case round =>
    obtain ⟨i, hi1, hi, rfl, rfl, KR⟩ := hrel
    have HW2 := Lib.hid (intRow_below HW.out KR.out)
    have hW0 := WY.out.rng 0 hWp
    have hdb : ∀ x : Nat, x < n → -1 ≤ D x ∧ D x ≤ 16000000 := fun x hx => by
      have h1 := DJ.out.lo x hx
      have h2 := DJ.out.hi x hx
      omega
    have HDB := Lib.hid hdb
    clear hdb
    by_cases hlt : i < W.length
    · obtain ⟨j, hj⟩ : ∃ j, i - 1 = j := ⟨_, rfl⟩
      have hji : i = j + 1 := by omega
      have ST := WY.out.step j (by omega)
      have ra := WY.out.rng j (by omega)
      have rb := WY.out.rng i hlt
      have ca := ORow.at_ HW2.out j (by omega)
      have cb := ORow.at_ HW2.out i hlt
      rw [← hji] at ST
      rw [hj]
      have HJ := Lib.hid (And.intro hj hji)
      clear hj hji
      obtain ⟨a, ha⟩ : ∃ a : Nat, W.getD j 0 = a := ⟨(W.getD j 0).toNat, by omega⟩
      obtain ⟨b, hb⟩ : ∃ b : Nat, W.getD i 0 = b := ⟨(W.getD i 0).toNat, by omega⟩
      have HA := Lib.hid ha
      have HB := Lib.hid hb
      rw [ha] at ST ca ra ⊢
      rw [hb] at ST cb rb
      simp only [Int.toNat_natCast] at ST ⊢
      obtain ⟨hst1, hst2, hst3, hst4⟩ := ST
      have han : a < n := by omega
      have hbn : b < n := by omega
      have hda := HDB.out a han
      have hdbb := HDB.out b hbn
      have hd0 := HDB.out (W.getD 0 0).toNat (by omega)
      clear ha hb ra rb
      obtain ⟨c, hc⟩ : ∃ c, Pl.costF L a b = c := ⟨_, rfl⟩
      have HCF := Lib.hid hc
      have hcb := (HG.out.cost_lo a b).2
      rw [hc] at hcb
      have hcc : Pl.costN L a b = c := hc
      rw [hcc] at hst2 hst4
      clear hc hcc
      obtain ⟨da, hda'⟩ : ∃ x, D a = x := ⟨_, rfl⟩
      obtain ⟨db, hdb'⟩ : ∃ x, D b = x := ⟨_, rfl⟩
      obtain ⟨d0, hd0'⟩ : ∃ x, D (W.getD 0 0).toNat = x := ⟨_, rfl⟩
      have HDA := Lib.hid hda'
      have HDBb := Lib.hid hdb'
      have HD0 := Lib.hid hd0'
      rw [hda'] at hda hst3 hst4 ⊢
      rw [hdb'] at hdbb hst4
      rw [hd0'] at hd0 ⊢
      have H4 := Lib.hid hst4
      have H1 := Lib.hid hst1
      clear hda' hdb' hd0' hst4 hst1
      obtain ⟨x1, x2⟩ := hda
      obtain ⟨x3, x4⟩ := hdbb
      obtain ⟨x5, x6⟩ := hd0
      have EDS := Lib.hid (fun y (k : Below w3.heap.size w3 y) => HL.out.below (K3.out.trans (k.mono K3.out.size)))
      have CA := Lib.hid (fun y (k : Below w3.heap.size w3 y) => (ORow.at_ (intRow_below HW.out k) j (by have := HJ.out; omega)).trans (congrArg (fun z => some (Value.int .i64 z)) HA.out))
      have CB := Lib.hid (fun y (k : Below w3.heap.size w3 y) => (ORow.at_ (intRow_below HW.out k) i hlt).trans (congrArg (fun z => some (Value.int .i64 z)) HB.out))
      have W1 : IntKind.i64.wrap ((i : Int) - 1) = (j : Int) := by rw [IntKind.wrap_i64]; have := HJ.out; omega
      have W2 : (i : Int) - 1 = (j : Int) := by have := HJ.out; omega
      have HW12 := Lib.hid (And.intro W1 W2)
      clear W1 W2 ca cb
      go_upto_region 13 with fail
      obtain ⟨wo, hwo⟩ : ∃ wo, wr = wo := ⟨_, rfl⟩
      rw [hwo] at KR HW2 ⊢
      clear hwo
      go_loopw [16, 17] (fun s16 s17 wr => ∃ k : Nat, k ≤ L.length ∧ s17 = .int .i64 k ∧ s16 = .int .i64 (Pl.costF (L.take k) a b) ∧ Hid (Below w3.heap.size w3 wr)) (fun _ s17 _ => L.length - (intOf s17).toNat)
      case atStart => exact ⟨0, by omega, rfl, rfl, KR⟩
      case round =>
        clear KR HW2
        obtain ⟨k, hk, rfl, rfl, KR⟩ := hrel
        by_cases hkl : k < L.length
        · obtain ⟨_, _, e, -, -, rd⟩ := eds_read (EDS.out _ KR.out)
          cases e
          obtain ⟨g, f, rfl, hg, q0, q1, q2, hgd⟩ := rd k hkl
          clear rd
          have HNX := Lib.hid (show Pl.costF (L.take (k + 1)) a b = if Pl.edM a b L[k] = true then L[k].c else Pl.costF (L.take k) a b from by rw [Pl.take_succ' L k hkl, Pl.costF_snoc])
          obtain ⟨⟨ea, eb, ec⟩, he⟩ : ∃ e, L[k] = e := ⟨_, rfl⟩
          rw [he] at q0 q1 q2 hgd HNX
          simp only at q0 q1 q2
          have HE := Lib.hid he
          clear he hgd
          have ca := CA.out _ KR.out
          have cb := CB.out _ KR.out
          have W1 := HW12.out.1
          have W2 := HW12.out.2
          obtain ⟨m, hm⟩ : ∃ m, Pl.edM a b ⟨ea, eb, ec⟩ = m := ⟨_, rfl⟩
          have HM := Lib.hid hm
          rw [hm] at HNX
          clear hm
          have HMM := Lib.hid (show m = true ↔ (ea = a ∧ eb = b) ∨ (eb = a ∧ ea = b) from by rw [← HM.out]; unfold Pl.edM; simp)
          go_upto_region 15 with fail
          go_cut [113] from 66 to 113 (fun v z => v = .bool m ∧ Hid (Below w3.heap.size w3 z))
          case first =>
            have fin : ∀ r : Bool, (r = true ↔ m = true) → Value.bool r = .bool m := fun r h => by
              cases r <;> cases m <;> simp at h <;> rfl
            have Fin := Lib.hid fin
            clear fin
            by_cases e1 : ea = a
            · by_cases e2 : eb = b
              · have d1 : (ea == (a : Int)) = true := by simp [e1]
                have d2 : (eb == (b : Int)) = true := by simp [e2]
                have HX := Lib.hid (HMM.out.2 (.inl ⟨e1, e2⟩))
                clear e1 e2
                go_quiet (fail)
                go_wp2_with fail
                go_meet
                exact ⟨by rw [HX.out], Lib.hid (Below.drewN KR.out _)⟩
              · have d1 : (ea == (a : Int)) = true := by simp [e1]
                have d2 : (eb == (b : Int)) = false := by simp [e2]
                by_cases e3 : eb = a
                · by_cases e4 : ea = b
                  · exfalso; omega
                  · have d3 : (eb == (a : Int)) = true := by simp [e3]
                    have d4 : (ea == (b : Int)) = false := by simp [e4]
                    have HX := Lib.hid (show m = false by
                      cases q : m with
                      | false => rfl
                      | true => have := HMM.out.1 q; omega)
                    clear e1 e2 e3 e4
                    go_quiet (fail)
                    go_wp2_with fail
                    go_meet
                    exact ⟨by rw [HX.out], Lib.hid (Below.drewN KR.out _)⟩
                · have d3 : (eb == (a : Int)) = false := by simp [e3]
                  have HX := Lib.hid (show m = false by
                    cases q : m with
                    | false => rfl
                    | true => have := HMM.out.1 q; omega)
                  clear e1 e2 e3
                  go_quiet (fail)
                  go_wp2_with fail
                  go_meet
                  exact ⟨by rw [HX.out], Lib.hid (Below.drewN KR.out _)⟩
            · have d1 : (ea == (a : Int)) = false := by simp [e1]
              by_cases e3 : eb = a
              · have d3 : (eb == (a : Int)) = true := by simp [e3]
                by_cases e4 : ea = b
                · have d4 : (ea == (b : Int)) = true := by simp [e4]
                  have HX := Lib.hid (HMM.out.2 (.inr ⟨e3, e4⟩))
                  clear e1 e3 e4
                  go_quiet (fail)
                  go_wp2_with fail
                  go_meet
                  exact ⟨by rw [HX.out], Lib.hid (Below.drewN KR.out _)⟩
                · have d4 : (ea == (b : Int)) = false := by simp [e4]
                  have HX := Lib.hid (show m = false by
                    cases q : m with
                    | false => rfl
                    | true => have := HMM.out.1 q; omega)
                  clear e1 e3 e4
                  go_quiet (fail)
                  go_wp2_with fail
                  go_meet
                  exact ⟨by rw [HX.out], Lib.hid (Below.drewN KR.out _)⟩
              · have d3 : (eb == (a : Int)) = false := by simp [e3]
                have HX := Lib.hid (show m = false by
                  cases q : m with
                  | false => rfl
                  | true => have := HMM.out.1 q; omega)
                clear e1 e3
                go_quiet (fail)
                go_wp2_with fail
                go_meet
                exact ⟨by rw [HX.out], Lib.hid (Below.drewN KR.out _)⟩
          case rest =>
          clear KR q0 q1 q2 ca cb W1 W2
          obtain ⟨rfl, KR⟩ := hcut
          cases m
          · rw [if_neg (by decide)] at HNX
            go_wp2_with fail
            go_roundw
            case measure => simp [intOf]; omega
            case rel => exact ⟨k + 1, by omega, by go_num, by rw [HNX.out], KR⟩
          · rw [if_pos rfl] at HNX
            obtain ⟨_, _, e, -, -, rd⟩ := eds_read (EDS.out _ KR.out)
            cases e
            obtain ⟨g', f', e2, -, -, -, q2, -⟩ := rd k hkl
            cases e2
            rw [HE.out] at q2
            simp only at q2
            clear rd
            go_wp2_with fail
            go_roundw
            case measure => simp [intOf]; omega
            case rel => exact ⟨k + 1, by omega, by go_num, by rw [HNX.out], KR⟩
        · have hkk : k = L.length := by omega
          subst hkk
          rw [List.take_length, HCF.out]
          have KDS := Lib.hid ((treeKids_any (.slice (some ⟨gP, 0, none⟩) n n) (fnL n P) a wr ((HP3.out.below KR.out HP3.out.lt).sl (by omega))).mono (R' := fun e w' => ∃ v', e = .returned (.tuple #[v', .nilIface]) ∧ ORow w' wr.heap.size v' (kidsL (fnL n P) a n) ∧ Below wr.heap.size wr w') (fun e w' ⟨f, v', h1, h2, h3, h4⟩ => by
            have hf : f = 0 := by
              rcases h1 with ⟨q1, q2⟩ | ⟨_, q1, _⟩ | ⟨_, _, q1⟩
              · exact absurd (q2.eq (TreeF.good.2 PT.out.1)) q1
              · exact absurd ⟨by omega, by rw [fnL_len]; omega⟩ q1
              · exact q1
            subst hf
            rw [fnL_len] at h3
            exact ⟨v', h2, h3, h4⟩))
          have hmem : (b : Int) ∈ kidsL (fnL n P) a n := kidsL_mem hbn (by rw [fnL_at n P b hbn]; exact H1.out)
          have hkle := kidsL_len (fnL n P) a n
          obtain ⟨Q, hQ⟩ : ∃ Q, kidsL (fnL n P) a n = Q := ⟨_, rfl⟩
          rw [hQ] at KDS hmem hkle
          have HMEM := Lib.hid hmem
          clear hQ hmem
          have ca := CA.out _ KR.out
          have W1 := HW12.out.1
          have W2 := HW12.out.2
          go_upto_region 18 with (go_at_call 7; (with_reducible refine KDS.out.mono ?_); rintro e w5 ⟨v5, rfl, ho, k5⟩)
          obtain ⟨o5, c5, hv5, -⟩ := isl_read ho.sl
          subst hv5
          have KQ := Lib.hid ho
          have K5 := Lib.hid (KR.out.trans (k5.mono KR.out.size))
          clear ho k5 KDS KR ca W1 W2
          go_upto_region 20 with fail
          go_loopw [20, 21] (fun s20 s21 wr => ∃ m : Nat, m ≤ Q.length ∧ s21 = .int .i64 m ∧ s20 = .bool ((Q.take m).any (fun z => decide (z = b))) ∧ Hid (Below w5.heap.size w5 wr)) (fun _ s21 _ => Q.length - (intOf s21).toNat)
          case atStart => exact ⟨0, by omega, rfl, by simp, Lib.hid (Below.refl _ _)⟩
          case round =>
            obtain ⟨m, hm, rfl, rfl, KR⟩ := hrel
            by_cases hml : m < Q.length
            · have HNX := Lib.hid (any_take_next Q m hml (fun z => decide (z = b)))
              obtain ⟨_, _, e, -, rd⟩ := isl_read ((KQ.out.sl).below KR.out)
              cases e
              obtain ⟨g, f, rfl, hg, q0⟩ := rd m hml
              rw [atL_get Q m hml] at q0
              clear rd
              obtain ⟨q, hq⟩ : ∃ q, Q[m] = q := ⟨_, rfl⟩
              rw [hq] at q0 HNX
              clear hq
              have cb := CB.out _ (K5.out.trans (KR.out.mono K5.out.size))
              obtain ⟨r, hr⟩ : ∃ r, (Q.take m).any (fun z => decide (z = b)) = r := ⟨_, rfl⟩
              rw [hr] at HNX ⊢
              clear hr
              obtain ⟨r2, hr2⟩ : ∃ r2, decide (q = (b : Int)) = r2 := ⟨_, rfl⟩
              have hd : (q == (b : Int)) = r2 := by rw [← hr2]; exact Bool.eq_iff_iff.2 (by simp)
              rw [hr2] at HNX
              clear hr2
              go_upto_region 22 with fail
              cases r
              · go_quiet (fail)
                go_wp2_with fail
                go_roundw
                case measure => simp [intOf]; omega
                case rel => exact ⟨m + 1, by omega, by go_num, by rw [HNX.out]; rfl, Lib.hid (Below.drewN KR.out _)⟩
              · go_quiet (fail)
                go_wp2_with fail
                go_roundw
                case measure => simp [intOf]; omega
                case rel => exact ⟨m + 1, by omega, by go_num, by rw [HNX.out]; rfl, Lib.hid (Below.drewN KR.out _)⟩
            · have hmm : m = Q.length := by omega
              subst hmm
              rw [List.take_length]
              have ht : Q.any (fun z => decide (z = b)) = true := List.any_eq_true.2 ⟨_, HMEM.out, by simp⟩
              rw [ht]
              clear ht
              have hc0 : (c == 0) = false := by simp; omega
              have hw : IntKind.i64.wrap (da - d0 + c) = da - d0 + c := by rw [IntKind.wrap_i64]; omega
              have KN := Lib.hid (K5.out.trans (KR.out.mono K5.out.size))
              clear KR
              go_wp2_with fail
              go_roundw
              case measure => simp [intOf]; omega
              case rel => exact ⟨i + 1, by omega, by omega, by go_num, by rw [show i + 1 - 1 = i by omega, HB.out]; simp only [Int.toNat_natCast]; rw [HDBb.out, ← H4.out]; congr 1; omega, KN⟩
    · have hiW : i = W.length := by omega
      have hlast := WY.out.last
      rw [hiW, hlast]
      simp only [Int.toNat_natCast]
      have dn := HDB.out node hn
      have d0 := HDB.out (W.getD 0 0).toNat (by omega)
      have cd := (HD3.out.below KR.out HD3.out.lt).cell node hn
      have c0 := ORow.at_ HW2.out 0 hWp
      have HT := Lib.hid WY.out.top
      have HR0 := Lib.hid DJ.out.d0
      have KN := Lib.hid (K3.out.trans (KR.out.mono K3.out.size))
      clear hlast KR hlt
      have hiW2 := Lib.hid hiW
      clear hiW
      by_cases h0 : 0 ≤ D node
      · have e0 := HT.out.1 h0
        rw [e0] at c0 d0 ⊢
        simp only [Int.toNat_natCast] at d0 ⊢
        rw [HR0.out] at d0 ⊢
        clear e0
        obtain ⟨q, hq⟩ : ∃ q, D node = q := ⟨_, rfl⟩
        rw [hq] at cd h0 dn ⊢
        clear hq
        obtain ⟨x1, x2⟩ := dn
        go_wp2_with fail
        go_ret
        exact ⟨by simp, KN.out⟩
      · have e0 := HT.out.2 (by omega)
        have e1 := WY.out.last
        rw [e0] at HW HW2 e1 ⊢
        rw [show (1 : Nat) - 1 = 0 from rfl] at e1
        rw [e1]
        simp only [Int.toNat_natCast, Int.sub_self]
        have h0' : D node < 0 := by omega
        obtain ⟨q, hq⟩ : ∃ q, D node = q := ⟨_, rfl⟩
        rw [hq] at cd h0' dn
        obtain ⟨y0, hy0⟩ : ∃ q, W.getD 0 0 = q := ⟨_, rfl⟩
        rw [hy0] at c0
        have hq0 : (q == 0) = false := by simp; omega
        clear hq hy0 e0 h0 e1 d0 hW0
        go_wp2_with fail
        all_goals
          go_ret
          exact ⟨by simp [*], KN.out⟩
set_option maxRecDepth 100000 in
set_option maxHeartbeats 4000000 in
theorem walk_TreeAdds_bad (n root node : Int) (v : Value) (L : List Ed) (w : World) (hL0 : IsEds w v L) (hb : ¬ (Pl.GoodE n L ∧ 0 ≤ root ∧ root < n)) :
    Calls Try.prog 3 #[.int .i64 n, v, .int .i64 root, .int .i64 node] w fun e w' => e = .returned (.bool true) ∧ Below w.heap.size w w' := by
  have B1 := Lib.hid (build_bad n root v L w hL0 hb)
  clear hL0 hb
  go_enter Try.func3, Try.ntmps3
  go_wp2_with (go_at_call 5; (with_reducible refine B1.out.mono ?_); rintro e w2 ⟨f, rfl, hf, k⟩; have K := Lib.hid k; clear k hf)
  go_ret
  exact ⟨rfl, K.out⟩
set_option maxRecDepth 100000 in
set_option maxHeartbeats 4000000 in
theorem walk_TreeAdds_out (n root : Nat) (node : Int) (v : Value) (L : List Ed) (w : World) (hL0 : IsEds w v L) (hg : Pl.GoodE n L) (hr : root < n) (hn : ¬ (0 ≤ node ∧ node < n)) :
    Calls Try.prog 3 #[.int .i64 n, v, .int .i64 root, .int .i64 node] w fun e w' => e = .returned (.bool true) ∧ Below w.heap.size w w' := by
  have B1 := Lib.hid (build_ok n root v L w hL0 hg hr)
  have n2 := hg.n2
  clear hL0 hg
  have hcase : node < 0 ∨ (0 ≤ node ∧ (n : Int) ≤ node) := by omega
  clear hn
  rcases hcase with h | ⟨h, h2⟩
  all_goals
    go_enter Try.func3, Try.ntmps3
    go_wp2_with (go_at_call 5; (with_reducible refine B1.out.mono ?_); rintro e w2 ⟨gP, gD, D, P, rfl, hD, hP, hd0, hp0, hDj, hPar, k⟩; have K := Lib.hid k; clear hD hP hDj hPar k hd0 hp0)
    go_ret
    exact ⟨rfl, K.out⟩
theorem walk_TreeAdds (w : World) (n : Int) (hn : (Lit.int .i64 n).wf = true) (v1 : Value) (L : List Ed) (o1 : IsEds w v1 L) (root : Int) (hr : (Lit.int .i64 root).wf = true) (node : Int) (hno : (Lit.int .i64 node).wf = true) :
    Calls Try.prog 3 #[.int .i64 n, v1, .int .i64 root, .int .i64 node] w fun e w' => e = .returned (.bool true) ∧ Below w.heap.size w w' := by
  by_cases hb : Pl.GoodE n L ∧ 0 ≤ root ∧ root < n
  · obtain ⟨hg, r0, r1⟩ := hb
    obtain ⟨nn, rfl⟩ : ∃ k : Nat, n = k := ⟨n.toNat, by have := hg.n1; omega⟩
    obtain ⟨rn, rfl⟩ : ∃ k : Nat, root = k := ⟨root.toNat, by omega⟩
    by_cases hc : 0 ≤ node ∧ node < nn
    · obtain ⟨kn, rfl⟩ : ∃ k : Nat, node = k := ⟨node.toNat, by omega⟩
      obtain ⟨oa, cp, rfl, -⟩ := eds_read o1
      exact walk_TreeAdds_run nn rn kn L oa cp w o1 hg (by omega) (by omega)
    · exact walk_TreeAdds_out nn rn node v1 L w o1 hg (by omega) hc
  · exact walk_TreeAdds_bad n root node v1 L w o1 hb
end Go.Proofs.Ytmmfnalcdekkbaa
