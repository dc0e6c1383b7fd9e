import Derived.Test.YtnbcajciobfljaaDoorMb
import Derived.Test.YtnbcajciobfljaaDoorErrE
import Derived.Deep.DeepCutAuto
/-! view.Check, find, later. -/
namespace Go.Proofs.YtnbcajciobfljaaDoor
open Go.RowKit
set_option linter.unusedVariables false
set_option linter.unusedSimpArgs false
/-- the world is forgotten but for S -/
theorem abs_t {P : Program} {c : Code} {Q : Exit → Act → World → Prop} {a : Act} {W : World} (S : World → Prop) (h : S W) (k : ∀ wq, S wq → c.wp P Q a wq) : c.wp P Q a W := k W h
def Pl.nodeB (n : Int) : Bool := decide (0 ≤ n ∧ n < 16)
theorem node_any (n : Int) (w : World) : Calls Tryd.prog 16 #[.int .i64 n] w fun e w' => e = .returned (.bool (Pl.nodeB n)) ∧ w = w' := by
  unfold Pl.nodeB
  go_enter Tryd.func16, Tryd.ntmps16
  go_wp2
  all_goals (go_ret; exact ⟨by simp [*]; try omega, rfl⟩)
theorem later_val (n v n' v' : Int) (u u' : Bool) : (decide (v' < v) || (decide (v = v') && (!u && u'))) = decide (Pl.key ⟨n', v', u'⟩ < Pl.key ⟨n, v, u⟩) := by
  unfold Pl.key
  rw [Bool.eq_iff_iff]
  cases u <;> cases u' <;> simp <;> omega
set_option maxHeartbeats 2000000 in
theorem later_any (n v n' v' : Int) (u u' : Bool) (w : World) : Calls Tryd.prog 21 #[mbV n v u, mbV n' v' u'] w fun e w' => e = .returned (.bool (decide (Pl.key ⟨n', v', u'⟩ < Pl.key ⟨n, v, u⟩))) ∧ Below w.heap.size w w' := by
  have HV := Lib.hid (later_val n v n' v' u u')
  have fin : ∀ r : Bool, r = (decide (v' < v) || (decide (v = v') && (!u && u'))) → Ending.returned (.bool r) = .returned (.bool (decide (Pl.key ⟨n', v', u'⟩ < Pl.key ⟨n, v, u⟩))) := fun r h => by rw [h, HV.out]
  have Fin := Lib.hid fin
  clear fin HV
  have hc : v' < v ∨ v = v' ∨ v < v' := by omega
  rcases hc with hc | hc | hc
  · go_enter Tryd.func21, Tryd.ntmps21
    go_wp2
    all_goals
      go_ret
      exact ⟨Fin.out _ (by simp [hc]), ((Below.refl _ _).alloc (Nat.le_refl _) _).alloc (by simp) _⟩
  · subst hc
    cases u <;> cases u'
    all_goals
      go_enter Tryd.func21, Tryd.ntmps21
      go_wp2
      all_goals
        go_ret
        exact ⟨Fin.out _ (by simp), ((Below.refl _ _).alloc (Nat.le_refl _) _).alloc (by simp) _⟩
  · have h1 : ¬ v' < v := by omega
    have h2 : (v == v') = false := by rw [beq_eq_false_iff_ne]; omega
    have h3 : v ≠ v' := by omega
    go_enter Tryd.func21, Tryd.ntmps21
    go_wp2
    all_goals
      go_ret
      exact ⟨Fin.out _ (by simp [h1, h3]), ((Below.refl _ _).alloc (Nat.le_refl _) _).alloc (by simp) _⟩
def Pl.sgn (a b : Int) : Int := if a < b then -1 else if b < a then 1 else 0
theorem isNaN_any (a : Int) (w : World) : Calls Tryd.prog 37 #[.int .i64 a] w fun e w' => e = .returned (.bool false) ∧ w = w' := by
  go_enter Tryd.func37, Tryd.ntmps37
  go_wp2
  all_goals (go_ret; exact ⟨by simp, rfl⟩)
theorem cmpInt_any (a b : Int) (w : World) : Calls Tryd.prog 32 #[.int .i64 a, .int .i64 b] w fun e w' => e = .returned (.int .i64 (Pl.sgn a b)) ∧ w = w' := by
  have NA := Lib.hid (isNaN_any a w)
  have NB := Lib.hid (isNaN_any b w)
  have hc : a < b ∨ a = b ∨ b < a := by omega
  unfold Pl.sgn
  rcases hc with hc | hc | hc
  · rw [if_pos hc]
    go_enter Tryd.func32, Tryd.ntmps32
    go_wp2_with (first | (go_at_call 37; (with_reducible refine NA.out.mono ?_); rintro e w2 ⟨rfl, rfl⟩) | (go_at_call 37; (with_reducible refine NB.out.mono ?_); rintro e w2 ⟨rfl, rfl⟩))
    go_ret
    exact ⟨rfl, rfl⟩
  · subst hc
    rw [if_neg (by omega), if_neg (by omega)]
    go_enter Tryd.func32, Tryd.ntmps32
    go_wp2_with (first | (go_at_call 37; (with_reducible refine NA.out.mono ?_); rintro e w2 ⟨rfl, rfl⟩) | (go_at_call 37; (with_reducible refine NB.out.mono ?_); rintro e w2 ⟨rfl, rfl⟩))
    go_ret
    exact ⟨rfl, rfl⟩
  · rw [if_neg (by omega), if_pos hc]
    have h1 : ¬ a < b := by omega
    go_enter Tryd.func32, Tryd.ntmps32
    go_wp2_with (first | (go_at_call 37; (with_reducible refine NA.out.mono ?_); rintro e w2 ⟨rfl, rfl⟩) | (go_at_call 37; (with_reducible refine NB.out.mono ?_); rintro e w2 ⟨rfl, rfl⟩))
    go_ret
    exact ⟨rfl, rfl⟩
theorem compare_any (n v n' v' : Int) (u u' : Bool) (w : World) : Calls Tryd.prog 25 #[mbV n v u, mbV n' v' u'] w fun e w' => e = .returned (.int .i64 (Pl.sgn n n')) ∧ Below w.heap.size w w' := by
  have CI := Lib.hid (fun y => cmpInt_any n n' y)
  go_enter Tryd.func25, Tryd.ntmps25
  go_wp2_with (go_at_call 32; (with_reducible refine (CI.out _).mono ?_); rintro e w2 ⟨rfl, rfl⟩)
  go_ret
  exact ⟨rfl, ((Below.refl _ _).alloc (Nat.le_refl _) _).alloc (by simp) _⟩
theorem Pl.mbFault_bad {L : List Mb} {k : Nat} {m : Mb} (h : Pl.mbOk m = false) : Pl.mbFault L k m = 1 := by unfold Pl.mbFault; rw [if_neg (by rw [h]; decide)]
theorem Pl.mbFault_first {L : List Mb} {m : Mb} (h : Pl.mbOk m = true) : Pl.mbFault L 0 m = 0 := by unfold Pl.mbFault; rw [if_pos h, if_neg (by omega)]
theorem Pl.mbFault_next {L : List Mb} {k : Nat} {m p : Mb} (h : Pl.mbOk m = true) (hp : L[k - 1]? = some p) (h0 : 0 < k) : Pl.mbFault L k m = if m.n ≤ p.n then 3 else 0 := by
  unfold Pl.mbFault Pl.prevN
  rw [if_pos h, hp]
  by_cases e : m.n ≤ p.n
  · rw [if_pos ⟨h0, e⟩, if_pos e]
  · rw [if_neg (fun k => e k.2), if_neg e]
set_option maxRecDepth 100000 in
set_option maxHeartbeats 4000000 in
theorem viewCheck_any (v : Value) (L : List Mb) (w : World) (h : IsMs w v L) :
    Calls Tryd.prog 6 #[v] w fun e w' => ∃ f : Int, e = .returned (errV f) ∧ Pl.ViewF L f ∧ Below w.heap.size w w' := by
  obtain ⟨oa, cp, rfl, hlc, hcm, -, -⟩ := ms_read h
  have HL := Lib.hid (show IsMs w (.slice oa L.length cp) L from h)
  unfold maxLen at hcm
  clear h
  by_cases hl : 16 < L.length
  · have HF := Lib.hid (show Pl.ViewF L 4 by unfold Pl.ViewF; rw [if_pos hl])
    go_enter Tryd.func6, Tryd.ntmps6
    go_wp2_with fail
    go_ret
    exact ⟨4, rfl, HF.out, Below.refl _ _⟩
  have HG := Lib.hid (show (∀ k (h : k < L.length), Pl.mbFault L k L[k] = 0) → Pl.ViewF L 0 from fun h => by unfold Pl.ViewF; rw [if_neg hl]; exact .inl ⟨rfl, h⟩)
  have HB := Lib.hid (show ∀ f : Int, f ≠ 0 → ∀ k (h : k < L.length), Pl.mbFault L k L[k] = f → (∀ j (hj : j < k), Pl.mbFault L j (L[j]'(Nat.lt_trans hj h)) = 0) → Pl.ViewF L f from fun f hf k h h1 h2 => by unfold Pl.ViewF; rw [if_neg hl]; exact .inr ⟨hf, k, h, h1, h2⟩)
  have hl2 : L.length ≤ 16 := by omega
  clear hl
  go_enter Tryd.func6, Tryd.ntmps6
  go_upto_region 4 with fail
  go_loopw [11] (fun s11 wr => ∃ i : Nat, i ≤ L.length ∧ s11 = .int .i64 i ∧ Hid (∀ j (hj : j < L.length), j < i → Pl.mbFault L j L[j] = 0) ∧ Hid (Below w.heap.size w wr)) (fun s11 _ => L.length - (intOf s11).toNat)
  case atStart => exact ⟨0, by omega, rfl, Lib.hid (fun j _ h => by omega), Lib.hid (Below.refl _ _)⟩
  case round =>
    obtain ⟨i, hi, rfl, HN, KB⟩ := hrel
    by_cases hlt : i < L.length
    · obtain ⟨_, _, e, -, -, -, rd⟩ := ms_read (HL.out.below KB.out)
      cases e
      obtain ⟨g, f, rfl, hg, q0, q1, q2, -⟩ := rd i hlt
      have RP := Lib.hid (show i ≠ 0 → ∃ p : Mb, L[i - 1]? = some p ∧ wr.cell? ⟨g, f + (i - 1) * 3, none⟩ = some (.int .i64 p.n) ∧ p.Num from fun h0 => by
        obtain ⟨b', o', e, -, r0, -, -, nn⟩ := rd (i - 1) (by omega)
        cases e
        exact ⟨_, List.getElem?_eq_getElem (by omega), r0, nn⟩)
      have HX := Lib.hid (show ∀ f, Pl.mbFault L i ⟨L[i].n, L[i].v, L[i].up⟩ = f → Pl.mbFault L i L[i] = f from fun f h => h)
      clear rd
      generalize L[i].n = xn at *
      generalize L[i].v = xv at *
      generalize L[i].up = xu at *
      go_upto_region 6 with fail
      obtain ⟨B, hBz⟩ : ∃ B, wr.heap.size = B := ⟨_, rfl⟩
      have hwB : w.heap.size ≤ wr.heap.size := KB.out.size
      refine abs_t (fun y => Hid (MbIn y wr.heap.size xn xv xu) ∧ Hid (i ≠ 0 → ∃ p : Mb, L[i - 1]? = some p ∧ y.cell? ⟨g, f + (i - 1) * 3, none⟩ = some (.int .i64 p.n) ∧ p.Num) ∧ Hid (Below w.heap.size w y)) ⟨Lib.hid (obj_new _ _), Lib.hid (fun h0 => by
        obtain ⟨q, e, r, nn⟩ := RP.out h0
        exact ⟨q, e, by rw [← r]; exact (Below.alloc (Below.refl _ _) (Nat.le_refl _) _).cell (by show g < _; omega), nn⟩), Lib.hid (KB.out.alloc hwB _)⟩ ?_
      rw [hBz]
      clear q0 q1 q2 KB hBz RP
      rintro y ⟨PB, RP, KB⟩
      obtain ⟨q0, q1, q2⟩ := MbIn.cells PB.out
      have CN := Lib.hid (fun z => node_any xn z)
      obtain ⟨nb, hnb⟩ : ∃ nb, Pl.nodeB xn = nb := ⟨_, rfl⟩
      rw [hnb] at CN
      have HOK := Lib.hid (show Pl.mbOk ⟨xn, xv, xu⟩ = (nb && decide (1 ≤ xv) && decide (xv ≤ 1000000)) from by
        rw [← hnb]; unfold Pl.mbOk Pl.nodeB
        rw [Bool.eq_iff_iff]; simp; omega)
      clear hnb
      by_cases hok : nb = true ∧ 1 ≤ xv ∧ xv ≤ 1000000
      case neg =>
        have HF := Lib.hid (HB.out 1 (by decide) i hlt (HX.out 1 (Pl.mbFault_bad (by
          rw [HOK.out]
          rw [Bool.eq_false_iff]
          intro h
          simp at h
          exact hok ⟨h.1.1, h.1.2, h.2⟩))) (fun j hj => HN.out j (by omega) hj))
        have hcase : nb = false ∨ (nb = true ∧ xv < 1) ∨ (nb = true ∧ 1 ≤ xv ∧ 1000000 < xv) := by
          cases nb
          · exact .inl rfl
          · simp at hok ⊢; omega
        clear HOK hok
        rcases hcase with rfl | ⟨rfl, h1⟩ | ⟨rfl, h1, h2⟩
        all_goals
          go_wp2_with (go_at_call 16; (with_reducible refine (CN.out _).mono ?_); rintro e w2 ⟨rfl, rfl⟩)
          go_ret
          exact ⟨1, rfl, HF.out, KB.out⟩
      obtain ⟨rfl, h1, h2⟩ := hok
      have hk : Pl.mbOk ⟨xn, xv, xu⟩ = true := by rw [HOK.out]; simp; omega
      have HK := Lib.hid hk
      clear hk HOK
      go_upto_region 8 with (go_at_call 16; (with_reducible refine (CN.out _).mono ?_); rintro e w2 ⟨rfl, rfl⟩)
      by_cases hi0 : i = 0
      · subst hi0
        have HR := Lib.hid (HX.out 0 (Pl.mbFault_first HK.out))
        go_quiet (fail)
        go_wp2_with fail
        go_roundw
        case measure => simp [intOf]; omega
        case rel => exact ⟨1, by omega, rfl, Lib.hid (fun j hj hj1 => by obtain rfl : j = 0 := by omega
                                                                         exact HR.out), Lib.hid (Below.drewN KB.out _)⟩
      · obtain ⟨p, hp, rp, nn⟩ := RP.out hi0
        have HM := Lib.hid (Pl.mbFault_next HK.out hp (by omega))
        obtain ⟨pn, hpn⟩ : ∃ pn, p.n = pn := ⟨_, rfl⟩
        rw [hpn] at rp
        have HPN := Lib.hid hpn
        clear hp hpn nn
        have i1 : (0 : Int) ≤ ((i - 1 : Nat) : Int) := by omega
        have i2 : ((i - 1 : Nat) : Int) < (L.length : Int) := by omega
        have i4 : IntKind.i64.wrap ((i : Int) - 1) = ((i - 1 : Nat) : Int) := by rw [IntKind.wrap_i64]; omega
        have i5 : (0 : Int) < (i : Int) := by omega
        have i6 : 0 < i := by omega
        have i9 : decide ((0 : Int) < (i : Int)) = true := by simp; omega
        by_cases hx : xn ≤ pn
        · have HR := Lib.hid (HB.out 3 (by decide) i hlt (HX.out 3 (by rw [HM.out, HPN.out]; exact if_pos hx)) (fun j hj => HN.out j (by omega) hj))
          have d1 : decide (xn ≤ pn) = true := by simpa using hx
          go_quiet (fail)
          go_wp2_with fail
          go_ret
          exact ⟨3, rfl, HR.out, Below.drewN KB.out _⟩
        · have HR := Lib.hid (HX.out 0 (by rw [HM.out, HPN.out]; exact if_neg hx))
          have d1 : decide (xn ≤ pn) = false := by simpa using hx
          clear hx
          go_quiet (fail)
          go_wp2_with fail
          go_roundw
          case measure => simp [intOf]; omega
          case rel => exact ⟨i + 1, by omega, by go_num, Lib.hid (fun j hj hj1 => by
            by_cases e : j = i
            · subst e; exact HR.out
            · exact HN.out j hj (by omega)), Lib.hid (Below.drewN KB.out _)⟩
    · go_wp2_with fail
      go_ret
      exact ⟨0, rfl, HG.out (fun k hk => HN.out k hk (by omega)), KB.out⟩
end Go.Proofs.YtnbcajciobfljaaDoor
