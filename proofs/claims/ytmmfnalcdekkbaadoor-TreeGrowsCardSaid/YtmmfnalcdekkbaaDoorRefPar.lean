import Derived.Test.YtmmfnalcdekkbaaDoorRefDist
/-! The reference's Parents. -/
namespace Go.Proofs.YtmmfnalcdekkbaaDoor
open Go.RowKit
set_option linter.unusedVariables false
set_option linter.unusedSimpArgs false
namespace Pl
theorem RBest.start {n : Nat} {L : List Ed} {D : Nat → Int} {i : Nat} : RBest n L D i 0 (-1) := .inl ⟨rfl, fun m hm h => by omega⟩
/-- an edge that does not serve -/
theorem RBest.skip {n : Nat} {L : List Ed} {D : Nat → Int} {i k : Nat} {b : Int} (h : RBest n L D i k b) (hk : k < L.length) (hno : ∀ o : Nat, edM o i L[k] = true → ¬ Tgt (costN L) D o i) : RBest n L D i (k + 1) b := by
  rcases h with ⟨rfl, h⟩ | ⟨o, rfl, h1, h2, h3⟩
  · refine .inl ⟨rfl, fun m hm hmk o ho => ?_⟩
    by_cases e : m = k
    · subst e; exact hno o ho
    · exact h m hm (by omega) o ho
  · refine .inr ⟨o, rfl, h1, h2, fun m hm hmk o' ho ht => ?_⟩
    by_cases e : m = k
    · subst e; exact absurd ht (hno o' ho)
    · exact h3 m hm (by omega) o' ho ht
/-- one that serves, and is no better -/
theorem RBest.stay {n : Nat} {L : List Ed} {D : Nat → Int} {i k : Nat} {b : Int} {o : Nat} (h : RBest n L D i k b) (hk : k < L.length) (hu : ∀ o' : Nat, edM o' i L[k] = true → o' = o) (hb : 0 ≤ b ∧ b ≤ o) : RBest n L D i (k + 1) b := by
  rcases h with ⟨rfl, h⟩ | ⟨q, rfl, h1, h2, h3⟩
  · omega
  · refine .inr ⟨q, rfl, h1, h2, fun m hm hmk o' ho ht => ?_⟩
    by_cases e : m = k
    · subst e; have := hu o' ho; omega
    · exact h3 m hm (by omega) o' ho ht
/-- one that serves, and is better -/
theorem RBest.take {n : Nat} {L : List Ed} {D : Nat → Int} {i k : Nat} {b : Int} {o : Nat} (h : RBest n L D i k b) (hk : k < L.length) (hu : ∀ o' : Nat, edM o' i L[k] = true → o' = o) (ho : o < n) (ht : Tgt (costN L) D o i) (hb : b < 0 ∨ o < b) : RBest n L D i (k + 1) o := by
  refine .inr ⟨o, rfl, ho, ht, fun m hm hmk o' ho' ht' => ?_⟩
  by_cases e : m = k
  · subst e; have := hu o' ho'; omega
  · rcases h with ⟨rfl, h⟩ | ⟨q, rfl, h1, h2, h3⟩
    · exact absurd ht' (h m hm (by omega) o' ho')
    · have := h3 m hm (by omega) o' ho' ht'; omega
end Pl
theorem fnL_succ (n : Nat) (P : Nat → Int) : fnL (n + 1) P = fnL n P ++ [P n] := by simp [fnL, List.range_succ]
set_option maxRecDepth 100000 in
set_option maxHeartbeats 4000000 in
theorem rParents_ok (n root : Nat) (v vd : Value) (L : List Ed) (D P : Nat → Int) (w : World) (hL0 : IsEds w v L) (hd0 : IsSl w vd (fnL n D)) (hg : Pl.GoodE n L) (hr : root < n) (hD : Pl.Dj n root (Pl.costN L) D) (hP : Pl.Par n root (Pl.costN L) D P) :
    Calls Tryd.prog 8 #[.int .i64 n, v, .int .i64 root, vd] w fun e w' => ∃ v', e = .returned v' ∧ ORow w' w.heap.size v' (fnL n P) ∧ Below w.heap.size w w' := by
  obtain ⟨oa, cp, rfl, hlc, hcm, -⟩ := eds_read hL0
  obtain ⟨od, cd, rfl, -, -⟩ := isl_read hd0
  have HL := Lib.hid hL0
  have HDs := Lib.hid hd0
  have HG := Lib.hid hg
  have n2 := hg.n2
  have hll := hg.len
  have DJ := Lib.hid hD
  have PR := Lib.hid hP
  have hdb : ∀ x : Nat, x < n → -1 ≤ D x ∧ D x ≤ 16000000 := fun x hx => by
    have h1 := hD.lo x hx
    have h2 := hD.hi x hx
    omega
  have HDB := Lib.hid hdb
  rw [fnL_len]
  clear hL0 hg hD hP hd0 hlc hcm hdb
  obtain ⟨N, hN⟩ : ∃ N, w.heap.size = N := ⟨_, rfl⟩
  have HN := Lib.hid hN
  rw [hN]
  clear hN
  have EDS := Lib.hid (fun y (k : Below N w y) => HL.out.below (by rw [HN.out]; exact k))
  have DSS := Lib.hid (show ∀ y, Below N w y → ∀ x, x < n → ∃ g f, od = some ⟨g, f, none⟩ ∧ y.cell? ⟨g, f + x, none⟩ = some (.int .i64 (D x)) from fun y k x hx => by
    obtain ⟨_, _, e, -, rd⟩ := isl_read (HDs.out.below (by rw [HN.out]; exact k))
    rw [fnL_len] at e rd
    cases e
    obtain ⟨g, f, e, -, q⟩ := rd x hx
    rw [fnL_at n D x hx] at q
    exact ⟨g, f, e, q⟩)
  obtain ⟨gd, fd, hod, -⟩ := DSS.out w (Below.refl _ _) root hr
  subst hod
  have DSC := Lib.hid (show ∀ y, Below N w y → ∀ x, x < n → y.cell? ⟨gd, fd + x, none⟩ = some (.int .i64 (D x)) from fun y k x hx => by
    obtain ⟨g, f, e, q⟩ := DSS.out y k x hx
    cases e; exact q)
  clear DSS HDs
  go_enter Tryd.func8, Tryd.ntmps8
  go_upto_region 3 with fail
  go_loopw [9, 10] (fun s9 s10 wr => ∃ i : Nat, i ≤ n ∧ s10 = .int .i64 i ∧ Hid (ORow wr N s9 (fnL i P)) ∧ Hid (Below N w wr)) (fun _ s10 _ => n - (intOf s10).toNat)
  case atStart => exact ⟨0, by omega, rfl, Lib.hid (World.ownsRow_nil _ _ _ _), Lib.hid (Below.refl _ _)⟩
  case round =>
    obtain ⟨i, hi, rfl, RO, KB⟩ := hrel
    by_cases hlt : i < n
    · have hdi := HDB.out i hlt
      obtain ⟨hdi1, hdi2⟩ := hdi
      obtain ⟨s9v, hs9⟩ : ∃ v, u9 = v := ⟨_, rfl⟩
      rw [hs9] at RO ⊢
      clear hs9
      go_upto_region 7 with fail
      obtain ⟨wo, hwo⟩ : ∃ wo, wr = wo := ⟨_, rfl⟩
      rw [hwo] at RO KB ⊢
      clear hwo
      go_loopw [11, 12] (fun s11 s12 wr => ∃ (k : Nat) (b : Int), k ≤ L.length ∧ s12 = .int .i64 k ∧ s11 = .int .i64 b ∧ -1 ≤ b ∧ Hid (if i ≠ root ∧ 0 ≤ D i then Pl.RBest n L D i k b else b = -1) ∧ Hid (ORow wr N s9v (fnL i P)) ∧ Hid (Below N w wr)) (fun _ s12 _ => L.length - (intOf s12).toNat)
      case atStart => exact ⟨0, -1, by omega, rfl, rfl, by omega, Lib.hid (by split; exact Pl.RBest.start; rfl), RO, KB⟩
      case round =>
        clear RO KB
        obtain ⟨k, b, hk, rfl, rfl, hb1, RB, RO, KB⟩ := hrel
        have hNw : N ≤ wr.heap.size := by rw [← HN.out]; exact KB.out.size
        by_cases hkl : k < L.length
        · obtain ⟨_, _, e, -, -, rd⟩ := eds_read (EDS.out _ KB.out)
          cases e
          obtain ⟨g, f, rfl, hg, q0, q1, q2, -⟩ := rd k hkl
          clear rd
          have hE := HG.out.edge k hkl
          have HCS := Lib.hid (fun (o : Nat) (ho : Pl.edM o i L[k] = true) => HG.out.cost hkl ho)
          obtain ⟨⟨xa, xb, xc⟩, hx⟩ : ∃ x, L[k] = x := ⟨_, rfl⟩
          have SK := Lib.hid (fun (b : Int) (h : Pl.RBest n L D i k b) => h.skip hkl)
          have SS := Lib.hid (fun (b : Int) (o : Nat) (h : Pl.RBest n L D i k b) => h.stay (o := o) hkl)
          have STK := Lib.hid (fun (b : Int) (o : Nat) (h : Pl.RBest n L D i k b) => h.take (o := o) hkl)
          rw [hx] at q0 q1 q2 hE HCS SK SS STK
          simp only at q0 q1 q2 hE
          obtain ⟨x, rfl⟩ : ∃ x : Nat, xa = x := ⟨xa.toNat, by omega⟩
          obtain ⟨y, rfl⟩ : ∃ y : Nat, xb = y := ⟨xb.toNat, by omega⟩
          have hxn : x < n := by omega
          have hyn : y < n := by omega
          have hxy : x ≠ y := by omega
          obtain ⟨x1, x2⟩ : 1 ≤ xc ∧ xc ≤ 1000000 := by omega
          have HEM := Lib.hid (show ∀ o : Nat, Pl.edM o i ⟨x, y, xc⟩ = true ↔ (x = o ∧ y = i) ∨ (y = o ∧ x = i) from fun o => by unfold Pl.edM; simp; omega)
          clear hx hE
          go_upto_region 10 with fail
          obtain ⟨X, hX⟩ : ∃ X, wr.heap.size = X := ⟨_, rfl⟩
          refine abs_t (fun y' => Hid (EdIn y' wr.heap.size x y xc) ∧ Hid (ORow y' N s9v (fnL i P)) ∧ Hid (Below N w y')) ⟨Lib.hid (obj_new _ _), Lib.hid (RO.out.alloc _), Lib.hid (KB.out.alloc hNw _)⟩ ?_
          rw [hX]
          clear q0 q1 q2 hX KB RO hNw
          rintro z ⟨EB, RO, KB⟩
          obtain ⟨q0, q1, q2⟩ := EB.out.cells
          -- the other end
          have key : ∀ (o : Int), (o = -1 ∧ x ≠ i ∧ y ≠ i) ∨ (o = y ∧ x = i) ∨ (o = x ∧ y = i) → ∃ b' : Int, -1 ≤ b' ∧ (if i ≠ root ∧ 0 ≤ D i then Pl.RBest n L D i (k + 1) b' else b' = -1) ∧ (if 0 ≤ o ∧ i ≠ root ∧ 0 ≤ D i ∧ D o.toNat + xc = D i ∧ (b < 0 ∨ o < b) then b' = o else b' = b) := fun o ho => by
            by_cases hc : i ≠ root ∧ 0 ≤ D i
            · have hrb := RB.out
              rw [if_pos hc] at hrb
              simp only [if_pos hc]
              rcases ho with ⟨rfl, h1, h2⟩ | h
              · refine ⟨b, hb1, SK.out b hrb (fun o ho => ?_), by rw [if_neg (by omega)]⟩
                have := (HEM.out o).1 ho; omega
              · obtain ⟨on, rfl, hu, hon, hcost⟩ : ∃ on : Nat, o = on ∧ (∀ o' : Nat, Pl.edM o' i ⟨x, y, xc⟩ = true → o' = on) ∧ on < n ∧ Pl.costN L on i = xc := by
                  rcases h with ⟨rfl, h⟩ | ⟨rfl, h⟩
                  · exact ⟨y, rfl, fun o' ho' => by have := (HEM.out o').1 ho'; omega, hyn, HCS.out y ((HEM.out y).2 (.inr ⟨rfl, h⟩))⟩
                  · exact ⟨x, rfl, fun o' ho' => by have := (HEM.out o').1 ho'; omega, hxn, HCS.out x ((HEM.out x).2 (.inl ⟨rfl, h⟩))⟩
                simp only [Int.toNat_natCast]
                by_cases ht : D on + xc = D i
                · have htg : Pl.Tgt (Pl.costN L) D on i := ⟨by rw [hcost]; omega, by rw [hcost]; exact ht⟩
                  by_cases hbb : b < 0 ∨ (on : Int) < b
                  · exact ⟨on, by omega, STK.out b on hrb hu hon htg hbb, by rw [if_pos ⟨by omega, hc.1, hc.2, ht, hbb⟩]⟩
                  · exact ⟨b, hb1, SS.out b on hrb hu (by omega), by rw [if_neg (fun h => hbb h.2.2.2.2)]⟩
                · exact ⟨b, hb1, SK.out b hrb (fun o' ho' ht' => by
                    obtain rfl := hu o' ho'
                    have := ht'.2
                    rw [hcost] at this
                    exact ht this), by rw [if_neg (fun h => ht h.2.2.2.1)]⟩
            · have hrb := RB.out
              rw [if_neg hc] at hrb
              simp only [if_neg hc]
              exact ⟨b, hb1, hrb, by rw [if_neg (fun h => hc ⟨h.2.1, h.2.2.1⟩)]⟩
          have KEY := Lib.hid key
          have hfar : ∀ o : Nat, (o = y ∧ x = i) ∨ (o = x ∧ y = i) → o < n ∧ (0 ≤ D i → 0 ≤ D o) := fun o ho => by
            have hcc : Pl.costN L i o = xc := by
              rw [show Pl.costN L i o = Pl.costN L o i from Pl.costF_symm L i o]
              rcases ho with ⟨rfl, h⟩ | ⟨rfl, h⟩
              · exact HCS.out o ((HEM.out o).2 (.inr ⟨rfl, h⟩))
              · exact HCS.out o ((HEM.out o).2 (.inl ⟨rfl, h⟩))
            have hon : o < n := by omega
            exact ⟨hon, fun h0 => (DJ.out.rel i o hlt hon h0 (by rw [hcc]; omega)).1⟩
          have HFAR := Lib.hid hfar
          clear key hfar SK SS STK HCS RB
          have hbl : b ≤ 100 ∨ True := .inr trivial
          clear hbl
          have hcase : (x ≠ i ∧ y ≠ i) ∨ (x = i ∧ y ≠ i) ∨ (y = i ∧ x ≠ i) := by omega
          have di := DSC.out z KB.out i hlt
          rcases hcase with ⟨h1, h2⟩ | hcs
          · have d1 : ((x : Int) == (i : Int)) = false := by simp; omega
            have d2 : ((y : Int) == (i : Int)) = false := by simp; omega
            obtain ⟨b', hb', hr1, hr2⟩ := KEY.out (-1) (.inl ⟨rfl, h1, h2⟩)
            rw [if_neg (by omega)] at hr2
            subst hr2
            have HR1 := Lib.hid hr1
            clear hr1 h1 h2 di
            go_upto_region 15 with fail
            go_cut [85] from 42 to 85 (fun v z => v = .bool false ∧ Hid (ORow z N s9v (fnL i P)) ∧ Hid (Below N w z))
            case first =>
              have dd : decide ((0 : Int) ≤ -1) = false := by decide
              go_quiet (fail)
              go_wp2_with fail
              go_meet
              exact ⟨rfl, RO, Lib.hid (Below.drewN KB.out _)⟩
            case rest =>
            clear RO KB
            obtain ⟨rfl, RO, KB⟩ := hcut
            go_wp2_with fail
            go_roundw
            case measure => simp [intOf]; omega
            case rel => exact ⟨k + 1, b', by omega, by go_num, rfl, hb', HR1, RO, KB⟩
          · have hoo : ∃ on : Nat, (on = y ∧ x = i ∧ y ≠ i) ∨ (on = x ∧ y = i ∧ x ≠ i) := by
              rcases hcs with h | h
              · exact ⟨y, .inl ⟨rfl, h⟩⟩
              · exact ⟨x, .inr ⟨rfl, h⟩⟩
            obtain ⟨on, hon⟩ := hoo
            obtain ⟨hon1, hon2⟩ := HFAR.out on (by omega)
            obtain ⟨b', hb', hr1, hr2⟩ := KEY.out (on : Int) (by omega)
            simp only [Int.toNat_natCast] at hr2
            have HR1 := Lib.hid hr1
            have HR2 := Lib.hid hr2
            have dk := DSC.out z KB.out on hon1
            have hbo := HDB.out on hon1
            have HO2 := Lib.hid hon2
            clear hr1 hr2 hcs KEY HFAR hon2
            have HRT := Lib.hid (show ∀ c : Bool, (c = true ↔ (i ≠ root ∧ 0 ≤ D i ∧ D on + xc = D i ∧ (b < 0 ∨ (on : Int) < b))) → b' = if c = true then (on : Int) else b from fun c h => by
              have hq := HR2.out
              cases c with
              | false =>
                rw [if_neg] at hq
                · rw [if_neg (by decide)]; exact hq
                · intro q
                  have := h.2 ⟨q.2.1, q.2.2.1, q.2.2.2.1, q.2.2.2.2⟩
                  cases this
              | true =>
                have q := h.1 rfl
                rw [if_pos ⟨by omega, q.1, q.2.1, q.2.2.1, q.2.2.2⟩] at hq
                rw [if_pos rfl]; exact hq)
            clear HR2
            obtain ⟨vi, hvi⟩ : ∃ q, D i = q := ⟨_, rfl⟩
            obtain ⟨vo, hvo⟩ : ∃ q, D on = q := ⟨_, rfl⟩
            have HVI := Lib.hid hvi
            rw [hvi] at di hdi1 hdi2 HRT HO2
            rw [hvo] at dk hbo HRT HO2
            obtain ⟨hbo1, hbo2⟩ := hbo
            clear hvi hvo
            have w1 : IntKind.i64.wrap (vo + xc) = vo + xc := by rw [IntKind.wrap_i64]; omega
            have hgo : ∀ (Q : Prop), Q → Q := fun _ h => h
            clear hgo
            rcases hon with ⟨rfl, h1, h2⟩ | ⟨rfl, h1, h2⟩
            · have d1 : ((x : Int) == (i : Int)) = true := by simp [h1]
              have d2 : ((on : Int) == (i : Int)) = false := by simp; omega
              clear h1 h2
              go_upto_region 15 with fail
              clear d1 d2
              go_cut [85] from 42 to 85 (fun v z => ∃ c : Bool, v = .bool c ∧ Hid (c = true ↔ (i ≠ root ∧ 0 ≤ vi ∧ vo + xc = vi ∧ (b < 0 ∨ (on : Int) < b))) ∧ Hid (ORow z N s9v (fnL i P)) ∧ Hid (Below N w z))
              case first =>
                by_cases c1 : i = root
                · have t1 : ((i : Int) != (root : Int)) = false := by simp [c1]
                  have HX := Lib.hid (show (false = true ↔ (i ≠ root ∧ 0 ≤ vi ∧ vo + xc = vi ∧ (b < 0 ∨ (on : Int) < b))) by simp [c1])
                  clear c1
                  go_quiet (fail)
                  go_wp2_with fail
                  go_meet
                  exact ⟨_, rfl, HX, RO, Lib.hid (Below.drewN KB.out _)⟩
                · have t1 : ((i : Int) != (root : Int)) = true := by simp; omega
                  have C1 := Lib.hid c1
                  clear c1
                  by_cases c2 : 0 ≤ vi
                  · have t2 : decide (0 ≤ vi) = true := by simp [c2]
                    have t3 : decide (0 ≤ vo) = true := by simp [HO2.out c2]
                    by_cases c3 : vo + xc = vi
                    · have t4 : (vo + xc == vi) = true := by simp [c3]
                      by_cases c4 : b < 0
                      · have t5 : decide (b < 0) = true := by simp [c4]
                        have HX := Lib.hid (show (true = true ↔ (i ≠ root ∧ 0 ≤ vi ∧ vo + xc = vi ∧ (b < 0 ∨ (on : Int) < b))) from ⟨fun _ => ⟨C1.out, c2, c3, .inl c4⟩, fun _ => rfl⟩)
                        clear c2 c3 c4
                        go_quiet (fail)
                        go_wp2_with fail
                        go_meet
                        exact ⟨_, rfl, Lib.hid ⟨fun _ => HX.out.1 trivial, fun _ => rfl⟩, RO, Lib.hid (Below.drewN KB.out _)⟩
                      · have t5 : decide (b < 0) = false := by simp [c4]
                        have HX := Lib.hid (show (decide ((on : Int) < b) = true ↔ (i ≠ root ∧ 0 ≤ vi ∧ vo + xc = vi ∧ (b < 0 ∨ (on : Int) < b))) from ⟨fun h => ⟨C1.out, c2, c3, .inr (of_decide_eq_true h)⟩, fun h => decide_eq_true (by omega)⟩)
                        clear c2 c3 c4
                        go_quiet (fail)
                        go_wp2_with fail
                        go_meet
                        exact ⟨_, rfl, HX, RO, Lib.hid (Below.drewN KB.out _)⟩
                    · have t4 : (vo + xc == vi) = false := by simp [c3]
                      have HX := Lib.hid (show (false = true ↔ (i ≠ root ∧ 0 ≤ vi ∧ vo + xc = vi ∧ (b < 0 ∨ (on : Int) < b))) by simp [c3])
                      clear c2 c3
                      go_quiet (fail)
                      go_wp2_with fail
                      go_meet
                      exact ⟨_, rfl, HX, RO, Lib.hid (Below.drewN KB.out _)⟩
                  · have t2 : decide (0 ≤ vi) = false := by simp [c2]
                    have HX := Lib.hid (show (false = true ↔ (i ≠ root ∧ 0 ≤ vi ∧ vo + xc = vi ∧ (b < 0 ∨ (on : Int) < b))) by simp [c2])
                    clear c2
                    go_quiet (fail)
                    go_wp2_with fail
                    go_meet
                    exact ⟨_, rfl, HX, RO, Lib.hid (Below.drewN KB.out _)⟩
              case rest =>
              clear RO KB
              obtain ⟨c, rfl, HC, RO, KB⟩ := hcut
              have hbe := HRT.out c HC.out
              cases c
              · rw [if_neg (by decide)] at hbe
                subst hbe
                go_wp2_with fail
                go_roundw
                case measure => simp [intOf]; omega
                case rel => exact ⟨k + 1, _, by omega, by go_num, rfl, hb', HR1, RO, KB⟩
              · rw [if_pos rfl] at hbe
                subst hbe
                go_wp2_with fail
                go_roundw
                case measure => simp [intOf]; omega
                case rel => exact ⟨k + 1, _, by omega, by go_num, rfl, hb', HR1, RO, KB⟩
            · have d1 : ((on : Int) == (i : Int)) = false := by simp; omega
              have d2 : ((y : Int) == (i : Int)) = true := by simp [h1]
              clear h1 h2
              go_upto_region 15 with fail
              clear d1 d2
              go_cut [85] from 42 to 85 (fun v z => ∃ c : Bool, v = .bool c ∧ Hid (c = true ↔ (i ≠ root ∧ 0 ≤ vi ∧ vo + xc = vi ∧ (b < 0 ∨ (on : Int) < b))) ∧ Hid (ORow z N s9v (fnL i P)) ∧ Hid (Below N w z))
              case first =>
                by_cases c1 : i = root
                · have t1 : ((i : Int) != (root : Int)) = false := by simp [c1]
                  have HX := Lib.hid (show (false = true ↔ (i ≠ root ∧ 0 ≤ vi ∧ vo + xc = vi ∧ (b < 0 ∨ (on : Int) < b))) by simp [c1])
                  clear c1
                  go_quiet (fail)
                  go_wp2_with fail
                  go_meet
                  exact ⟨_, rfl, HX, RO, Lib.hid (Below.drewN KB.out _)⟩
                · have t1 : ((i : Int) != (root : Int)) = true := by simp; omega
                  have C1 := Lib.hid c1
                  clear c1
                  by_cases c2 : 0 ≤ vi
                  · have t2 : decide (0 ≤ vi) = true := by simp [c2]
                    have t3 : decide (0 ≤ vo) = true := by simp [HO2.out c2]
                    by_cases c3 : vo + xc = vi
                    · have t4 : (vo + xc == vi) = true := by simp [c3]
                      by_cases c4 : b < 0
                      · have t5 : decide (b < 0) = true := by simp [c4]
                        have HX := Lib.hid (show (true = true ↔ (i ≠ root ∧ 0 ≤ vi ∧ vo + xc = vi ∧ (b < 0 ∨ (on : Int) < b))) from ⟨fun _ => ⟨C1.out, c2, c3, .inl c4⟩, fun _ => rfl⟩)
                        clear c2 c3 c4
                        go_quiet (fail)
                        go_wp2_with fail
                        go_meet
                        exact ⟨_, rfl, Lib.hid ⟨fun _ => HX.out.1 trivial, fun _ => rfl⟩, RO, Lib.hid (Below.drewN KB.out _)⟩
                      · have t5 : decide (b < 0) = false := by simp [c4]
                        have HX := Lib.hid (show (decide ((on : Int) < b) = true ↔ (i ≠ root ∧ 0 ≤ vi ∧ vo + xc = vi ∧ (b < 0 ∨ (on : Int) < b))) from ⟨fun h => ⟨C1.out, c2, c3, .inr (of_decide_eq_true h)⟩, fun h => decide_eq_true (by omega)⟩)
                        clear c2 c3 c4
                        go_quiet (fail)
                        go_wp2_with fail
                        go_meet
                        exact ⟨_, rfl, HX, RO, Lib.hid (Below.drewN KB.out _)⟩
                    · have t4 : (vo + xc == vi) = false := by simp [c3]
                      have HX := Lib.hid (show (false = true ↔ (i ≠ root ∧ 0 ≤ vi ∧ vo + xc = vi ∧ (b < 0 ∨ (on : Int) < b))) by simp [c3])
                      clear c2 c3
                      go_quiet (fail)
                      go_wp2_with fail
                      go_meet
                      exact ⟨_, rfl, HX, RO, Lib.hid (Below.drewN KB.out _)⟩
                  · have t2 : decide (0 ≤ vi) = false := by simp [c2]
                    have HX := Lib.hid (show (false = true ↔ (i ≠ root ∧ 0 ≤ vi ∧ vo + xc = vi ∧ (b < 0 ∨ (on : Int) < b))) by simp [c2])
                    clear c2
                    go_quiet (fail)
                    go_wp2_with fail
                    go_meet
                    exact ⟨_, rfl, HX, RO, Lib.hid (Below.drewN KB.out _)⟩
              case rest =>
              clear RO KB
              obtain ⟨c, rfl, HC, RO, KB⟩ := hcut
              have hbe := HRT.out c HC.out
              cases c
              · rw [if_neg (by decide)] at hbe
                subst hbe
                go_wp2_with fail
                go_roundw
                case measure => simp [intOf]; omega
                case rel => exact ⟨k + 1, _, by omega, by go_num, rfl, hb', HR1, RO, KB⟩
              · rw [if_pos rfl] at hbe
                subst hbe
                go_wp2_with fail
                go_roundw
                case measure => simp [intOf]; omega
                case rel => exact ⟨k + 1, _, by omega, by go_num, rfl, hb', HR1, RO, KB⟩
        · obtain rfl : k = L.length := by omega
          have HB := Lib.hid (show b = P i by
            have h1 := PR.out i hlt
            have h2 := RB.out
            by_cases hc : i ≠ root ∧ 0 ≤ D i
            · rw [if_pos hc] at h1 h2
              exact (h2.par HG.out).eq h1
            · rw [if_neg hc] at h1 h2
              rw [h1, h2])
          obtain ⟨A, hA⟩ : ∃ A, fnL i P = A := ⟨_, rfl⟩
          have hAl : A.length = i := by rw [← hA, fnL_len]
          have HA := Lib.hid (show fnL (i + 1) P = A ++ [b] by rw [fnL_succ, hA, HB.out])
          rw [hA] at RO
          have hNw : N ≤ wr.heap.size := by rw [← HN.out]; exact KB.out.size
          have roA : Hid ((wr.alloc (.cells #[.int .i64 b] 3)).ownsRow N 3 1 s9v A.length (A.map encI)) := Lib.hid (RO.out.alloc _)
          have kA : Hid (Below N w (wr.alloc (.cells #[.int .i64 b] 3))) := Lib.hid (KB.out.alloc hNw _)
          have RUN := Lib.hid (run_moreInt2 _ N s9v b A.length (A.map encI) roA.out wr.heap.size (obj_new _ _) (by omega) (by simp; omega))
          have hgb : Hid (∀ g, s9v.ownBlock = some g → N ≤ g) := Lib.hid (fun g e => (RO.out.lt g e).1)
          clear RO hA RB
          go_upto_region 4 with (at_builtin; obtain ⟨vN, wN, hr, ho, hgr, hbk⟩ := RUN.out; obtain ⟨gN, capN, rfl⟩ := Joins.ownsRow_form ho (by omega); refine Lib.wpList_append_run _ rfl (.tmp 87) (.tmp 89) 23 23 rfl _ _ rfl rfl _ _ hr ?_)
          have RO : Hid (ORow wN N (.slice (some ⟨gN, 0, none⟩) (i + 1) capN) (fnL (i + 1) P)) := Lib.hid (by rw [HA.out]; unfold ORow; rw [List.map_append, List.length_append]; rw [hAl] at ho ⊢; exact ho)
          have KN : Hid (Below N w wN) := Lib.hid ⟨hgr.os.trans kA.out.os, hgr.tape.trans kA.out.tape, hgr.output.trans kA.out.output, Nat.le_trans kA.out.size hgr.size, fun j hj => (hgr.block j (Nat.lt_of_lt_of_le hj (by simp; omega)) (fun e => by have := hgb.out j e.symm; omega)).trans (kA.out.block j hj)⟩
          clear hr ho hgr hbk RUN roA kA hgb KB
          go_wp2_with fail
          go_roundw
          case measure => simp [intOf]; omega
          case rel => exact ⟨i + 1, by omega, by go_num, RO, KN⟩
    · obtain rfl : n = i := by omega
      go_wp2_with fail
      go_ret
      exact ⟨_, rfl, RO.out, KB.out⟩
end Go.Proofs.YtmmfnalcdekkbaaDoor
