import Derived.Test.YtnbcajciobfljaaDoorViewMerge
/-! choirref2.View, Member, Merge. -/
namespace Go.Proofs.YtnbcajciobfljaaDoor
open Go.RowKit
set_option linter.unusedVariables false
set_option linter.unusedSimpArgs false
namespace Pl
/-- of the first k numbers -/
def allV (A B : List Mb) (k : Nat) : List Mb := (List.range k).filterMap fun j : Nat => jo (vat A j) (vat B j)
theorem allV_more (A B : List Mb) (k : Nat) : allV A B (k + 1) = allV A B k ++ (match jo (vat A k) (vat B k) with | some m => [m] | none => []) := by
  unfold allV
  rw [List.range_succ, List.filterMap_append]
  congr 1
  cases e : jo (vat A (k : Int)) (vat B (k : Int)) <;> simp [e]
theorem jo_n {A B : List Mb} {n : Int} {m : Mb} (h : jo (vat A n) (vat B n) = some m) : m.n = n := by
  unfold jo at h
  cases eb : vat B n with
  | none => rw [eb] at h; exact vat_n h
  | some b =>
    rw [eb] at h
    have hb := vat_n eb
    cases ea : vat A n with
    | none => rw [ea] at h; cases h; exact hb
    | some a =>
      rw [ea] at h
      have ha := vat_n ea
      simp only [jn, Option.some.injEq] at h
      split at h <;> (subst h; assumption)
theorem allV_lt (A B : List Mb) (k : Nat) : ∀ x ∈ allV A B k, 0 ≤ x.n ∧ x.n < k := by
  intro x hx
  obtain ⟨j, hj, e⟩ := List.mem_filterMap.1 hx
  have := jo_n e
  have := List.mem_range.1 hj
  omega
theorem allV_ris (A B : List Mb) (k : Nat) : Ris (allV A B k) := by
  induction k with
  | zero => exact List.Pairwise.nil
  | succ k ih =>
    rw [allV_more]
    refine List.pairwise_append.2 ⟨ih, ?_, fun x hx y hy => ?_⟩
    · split <;> simp
    · have h1 := allV_lt A B k x hx
      split at hy
      · rename_i m e
        have : y = m := by simpa using hy
        subst this
        have := jo_n e; omega
      · cases hy
theorem allV_at (A B : List Mb) (k : Nat) (n : Int) (h : 0 ≤ n ∧ n < k) : vat (allV A B k) n = jo (vat A n) (vat B n) := by
  cases e : jo (vat A n) (vat B n) with
  | none =>
    refine vat_none fun x hx q => ?_
    obtain ⟨j, hj, e2⟩ := List.mem_filterMap.1 hx
    have := jo_n e2
    rw [show (j : Int) = n by omega] at e2
    rw [e2] at e; cases e
  | some m =>
    have hm : m ∈ allV A B k := List.mem_filterMap.2 ⟨n.toNat, List.mem_range.2 (by omega), by rw [show ((n.toNat : Nat) : Int) = n by omega]; exact e⟩
    have := vat_of (allV_ris A B k) hm
    rw [jo_n e] at this; exact this
theorem vat_out {A : List Mb} (h : GoodV A) {n : Int} (hn : n < 0 ∨ 16 ≤ n) : vat A n = none :=
  vat_none fun x hx q => by have := (mbOk_iff x).1 (h.ok x hx); omega
theorem allV_merge {A B : List Mb} (h : GoodV A) (h' : GoodV B) : allV A B 16 = mergeV A B := by
  have g := mergeV_good h h'.ok
  refine vat_ext (allV_ris A B 16) g.ris fun n => ?_
  rw [vat_merge h.ris h'.ris]
  by_cases hn : 0 ≤ n ∧ n < 16
  · exact allV_at A B 16 n hn
  · rw [vat_out h (by omega), vat_out h' (by omega)]
    exact vat_none fun x hx q => by have := allV_lt A B 16 x hx; omega
theorem allV_len (A B : List Mb) (k : Nat) : (allV A B k).length ≤ k := by
  have := List.length_filterMap_le (fun j : Nat => jo (vat A j) (vat B j)) (List.range k)
  rw [List.length_range] at this; exact this
theorem jn_new {x y : Mb} (h : x.v < y.v ∨ (x.v = y.v ∧ y.up = false)) (hn : x.n = y.n) : jn (some x) y = y := by
  unfold jn
  by_cases k : key x < key y
  · exact if_pos k
  · show (if key x < key y then y else x) = y
    rw [if_neg k]
    refine key_inj hn ?_
    unfold key at k ⊢
    cases hx : x.up <;> cases hy : y.up <;> rw [hx, hy] at k <;> rw [hy] at h <;> simp at k h ⊢ <;> omega
theorem jn_old {x y : Mb} (h : y.v < x.v ∨ (x.v = y.v ∧ y.up = true)) : jn (some x) y = x := by
  show (if key x < key y then y else x) = x
  rw [if_neg]
  unfold key
  cases hx : x.up <;> cases hy : y.up <;> rw [hy] at h <;> simp at h ⊢ <;> omega
end Pl
set_option maxRecDepth 100000 in
set_option maxHeartbeats 4000000 in
theorem refView_any (v : Value) (L : List Mb) (w : World) (h : IsMs w v L) :
    Calls Tryd.prog 4 #[v] w fun e w' => ∃ f : Int, e = .returned (.int .i64 f) ∧ Pl.ViewF L f ∧ Below w.heap.size w w' := by
  obtain ⟨oa, cp, rfl, hlc, hcm, -, -⟩ := ms_read h
  have HL := Lib.hid (show IsMs w (.slice oa L.length cp) L from h)
  unfold maxLen at hcm
  clear h
  by_cases hl : 16 < L.length
  · have HF := Lib.hid (show Pl.ViewF L 4 by unfold Pl.ViewF; rw [if_pos hl])
    go_enter Tryd.func4, Tryd.ntmps4
    go_wp2_with fail
    go_ret
    exact ⟨4, rfl, HF.out, Below.refl _ _⟩
  have HG := Lib.hid (show (∀ k (h : k < L.length), Pl.mbFault L k L[k] = 0) → Pl.ViewF L 0 from fun h => by unfold Pl.ViewF; rw [if_neg hl]; exact .inl ⟨rfl, h⟩)
  have HB := Lib.hid (show ∀ f : Int, f ≠ 0 → ∀ k (h : k < L.length), Pl.mbFault L k L[k] = f → (∀ j (hj : j < k), Pl.mbFault L j (L[j]'(Nat.lt_trans hj h)) = 0) → Pl.ViewF L f from fun f hf k h h1 h2 => by unfold Pl.ViewF; rw [if_neg hl]; exact .inr ⟨hf, k, h, h1, h2⟩)
  have hl2 : L.length ≤ 16 := by omega
  clear hl
  go_enter Tryd.func4, Tryd.ntmps4
  go_upto_region 4 with fail
  go_loopw [3] (fun s3 wr => ∃ i : Nat, i ≤ L.length ∧ s3 = .int .i64 i ∧ Hid (∀ j (hj : j < L.length), j < i → Pl.mbFault L j L[j] = 0) ∧ Hid (Below w.heap.size w wr)) (fun s3 _ => L.length - (intOf s3).toNat)
  case atStart => exact ⟨0, by omega, rfl, Lib.hid (fun j _ h => by omega), Lib.hid (Below.refl _ _)⟩
  case round =>
    obtain ⟨i, hi, rfl, HN, KB⟩ := hrel
    by_cases hlt : i < L.length
    · obtain ⟨_, _, e, -, -, -, rd⟩ := ms_read (HL.out.below KB.out)
      cases e
      obtain ⟨g, f, rfl, hg, q0, q1, q2, -⟩ := rd i hlt
      have RP := Lib.hid (show i ≠ 0 → ∃ p : Mb, L[i - 1]? = some p ∧ wr.cell? ⟨g, f + (i - 1) * 3, none⟩ = some (.int .i64 p.n) ∧ p.Num from fun h0 => by
        obtain ⟨b', o', e, -, r0, -, -, nn⟩ := rd (i - 1) (by omega)
        cases e
        exact ⟨_, List.getElem?_eq_getElem (by omega), r0, nn⟩)
      have HX := Lib.hid (show ∀ f, Pl.mbFault L i ⟨L[i].n, L[i].v, L[i].up⟩ = f → Pl.mbFault L i L[i] = f from fun f h => h)
      clear rd
      generalize L[i].n = xn at *
      generalize L[i].v = xv at *
      generalize L[i].up = xu at *
      go_upto_region 7 with fail
      obtain ⟨B, hBz⟩ : ∃ B, wr.heap.size = B := ⟨_, rfl⟩
      have hwB : w.heap.size ≤ wr.heap.size := KB.out.size
      refine abs_t (fun y => Hid (MbIn y wr.heap.size xn xv xu) ∧ Hid (i ≠ 0 → ∃ p : Mb, L[i - 1]? = some p ∧ y.cell? ⟨g, f + (i - 1) * 3, none⟩ = some (.int .i64 p.n) ∧ p.Num) ∧ Hid (Below w.heap.size w y)) ⟨Lib.hid (obj_new _ _), Lib.hid (fun h0 => by
        obtain ⟨q, e, r, nn⟩ := RP.out h0
        exact ⟨q, e, by rw [← r]; exact (Below.alloc (Below.refl _ _) (Nat.le_refl _) _).cell (by show g < _; omega), nn⟩), Lib.hid (KB.out.alloc hwB _)⟩ ?_
      rw [hBz]
      clear q0 q1 q2 KB hBz RP
      rintro y ⟨PB, RP, KB⟩
      obtain ⟨q0, q1, q2⟩ := MbIn.cells PB.out
      have HOK := Lib.hid (Pl.mbOk_iff ⟨xn, xv, xu⟩)
      by_cases hok : 0 ≤ xn ∧ xn ≤ 15 ∧ 1 ≤ xv ∧ xv ≤ 1000000
      case neg =>
        have HF := Lib.hid (HB.out 1 (by decide) i hlt (HX.out 1 (Pl.mbFault_bad (by
          rw [Bool.eq_false_iff]
          intro h
          exact hok (HOK.out.1 h)))) (fun j hj => HN.out j (by omega) hj))
        have hcase : xn < 0 ∨ (0 ≤ xn ∧ 15 < xn) ∨ (0 ≤ xn ∧ xn ≤ 15 ∧ xv < 1) ∨ (0 ≤ xn ∧ xn ≤ 15 ∧ 1 ≤ xv ∧ 1000000 < xv) := by omega
        clear HOK hok
        rcases hcase with h1 | ⟨h1, h2⟩ | ⟨h1, h2, h3⟩ | ⟨h1, h2, h3, h4⟩
        all_goals
          go_wp2_with fail
          go_ret
          exact ⟨1, rfl, HF.out, KB.out⟩
      have HK := Lib.hid (HOK.out.2 hok)
      obtain ⟨h1, h2, h3, h4⟩ := hok
      clear HOK
      go_upto_region 9 with fail
      by_cases hi0 : i = 0
      · subst hi0
        have HR := Lib.hid (HX.out 0 (Pl.mbFault_first HK.out))
        go_quiet (fail)
        go_wp2_with fail
        go_roundw
        case measure => simp [intOf]; omega
        case rel => exact ⟨1, by omega, rfl, Lib.hid (fun j hj hj1 => by obtain rfl : j = 0 := by omega
                                                                         exact HR.out), Lib.hid (Below.drewN KB.out _)⟩
      · obtain ⟨p, hp, rp, nn⟩ := RP.out hi0
        have HM := Lib.hid (Pl.mbFault_next HK.out hp (by omega))
        obtain ⟨pn, hpn⟩ : ∃ pn, p.n = pn := ⟨_, rfl⟩
        rw [hpn] at rp
        have HPN := Lib.hid hpn
        clear hp hpn nn
        have i1 : (0 : Int) ≤ ((i - 1 : Nat) : Int) := by omega
        have i2 : ((i - 1 : Nat) : Int) < (L.length : Int) := by omega
        have i4 : IntKind.i64.wrap ((i : Int) - 1) = ((i - 1 : Nat) : Int) := by rw [IntKind.wrap_i64]; omega
        have i5 : (0 : Int) < (i : Int) := by omega
        have i6 : 0 < i := by omega
        have i9 : decide ((0 : Int) < (i : Int)) = true := by simp; omega
        by_cases hx : xn ≤ pn
        · have HR := Lib.hid (HB.out 3 (by decide) i hlt (HX.out 3 (by rw [HM.out, HPN.out]; exact if_pos hx)) (fun j hj => HN.out j (by omega) hj))
          have d1 : decide (xn ≤ pn) = true := by simpa using hx
          go_quiet (fail)
          go_wp2_with fail
          go_ret
          exact ⟨3, rfl, HR.out, Below.drewN KB.out _⟩
        · have HR := Lib.hid (HX.out 0 (by rw [HM.out, HPN.out]; exact if_neg hx))
          have d1 : decide (xn ≤ pn) = false := by simpa using hx
          clear hx
          go_quiet (fail)
          go_wp2_with fail
          go_roundw
          case measure => simp [intOf]; omega
          case rel => exact ⟨i + 1, by omega, by go_num, Lib.hid (fun j hj hj1 => by
            by_cases e : j = i
            · subst e; exact HR.out
            · exact HN.out j hj (by omega)), Lib.hid (Below.drewN KB.out _)⟩
    · go_wp2_with fail
      go_ret
      exact ⟨0, rfl, HG.out (fun k hk => HN.out k hk (by omega)), KB.out⟩
theorem Pl.vat_first {L : List Mb} {n : Int} {i : Nat} (hi : i < L.length) (h : ∀ j (hj : j < L.length), j < i → L[j].n ≠ n) (hn : L[i].n = n) : Pl.vat L n = some L[i] := by
  induction L generalizing i with
  | nil => simp at hi
  | cons x r ih =>
    rw [Pl.vat_cons]
    cases i with
    | zero => simp at hn; rw [if_pos hn]; rfl
    | succ i =>
      have h0 := h 0 (by simp) (by omega)
      simp at h0
      rw [if_neg h0]
      have := ih (i := i) (by simpa using hi) (fun j hj k => by have := h (j + 1) (by simpa using hj) (by omega); simpa using this) (by simpa using hn)
      rw [this]; rfl
set_option maxRecDepth 100000 in
set_option maxHeartbeats 4000000 in
theorem refMember_any (v : Value) (L : List Mb) (n : Int) (w : World) (h : IsMs w v L) :
    Calls Tryd.prog 8 #[v, .int .i64 n] w fun e w' => ∃ (m : Mb) (b : Bool), e = .returned (.tuple #[mbV m.n m.v m.up, .bool b]) ∧ ((b = true ∧ Pl.vat L n = some m) ∨ (b = false ∧ Pl.vat L n = none ∧ m = ⟨0, 0, false⟩)) ∧ Below w.heap.size w w' := by
  obtain ⟨oa, cp, rfl, hlc, hcm, -, -⟩ := ms_read h
  have HL := Lib.hid (show IsMs w (.slice oa L.length cp) L from h)
  unfold maxLen at hcm
  clear h
  go_enter Tryd.func8, Tryd.ntmps8
  go_upto_region 1 with fail
  obtain ⟨N, hN⟩ : ∃ N, w.heap.size = N := ⟨_, rfl⟩
  refine abs_t (fun y => Hid (MbIn y N 0 0 false) ∧ Hid (Below w.heap.size w y)) ⟨Lib.hid (by rw [← hN]; exact obj_new _ _), Lib.hid ((Below.refl _ _).alloc (Nat.le_refl _) _)⟩ ?_
  rw [hN]
  have HN := Lib.hid hN
  clear hN
  rintro y ⟨PB, KY⟩
  go_upto_region 2 with fail
  go_loopw [6] (fun s6 wr => ∃ i : Nat, i ≤ L.length ∧ s6 = .int .i64 i ∧ Hid (∀ j (hj : j < L.length), j < i → L[j].n ≠ n) ∧ wr = y) (fun s6 _ => L.length - (intOf s6).toNat)
  case atStart => exact ⟨0, by omega, rfl, Lib.hid (fun j _ h => by omega), rfl⟩
  case round =>
    obtain ⟨i, hi, rfl, HNO, rfl⟩ := hrel
    have f0 := obj_free PB.out 0
    have f1 := obj_free PB.out 1
    have f2 := obj_free PB.out 2
    obtain ⟨p0, p1, p2⟩ := MbIn.cells PB.out
    by_cases hlt : i < L.length
    · obtain ⟨_, _, e, -, -, -, rd⟩ := ms_read (HL.out.below (by rw [HN.out]; exact KY.out))
      cases e
      obtain ⟨g, f, rfl, hg, q0, q1, q2, -⟩ := rd i hlt
      have HX := Lib.hid (show L[i].n = n → Pl.vat L n = some ⟨L[i].n, L[i].v, L[i].up⟩ from fun e => Pl.vat_first hlt HNO.out e)
      have HY := Lib.hid (show ∀ q, L[i].n = q → q ≠ n → L[i].n ≠ n from fun q e h => by rw [e]; exact h)
      clear rd
      obtain ⟨xn, hxn⟩ : ∃ x, L[i].n = x := ⟨_, rfl⟩
      have HY2 := Lib.hid (HY.out xn hxn)
      rw [hxn] at q0 HX
      clear hxn HY
      generalize L[i].v = xv at *
      generalize L[i].up = xu at *
      by_cases hx : xn = n
      · subst hx
        have HV := Lib.hid (HX.out rfl)
        have PB3 := Lib.hid (show MbIn (((wr.setCell ⟨N, 0, none⟩ (.int .i64 xn)).setCell ⟨N, 1, none⟩ (.int .i64 xv)).setCell ⟨N, 2, none⟩ (.bool xu)) N xn xv xu from obj_set (obj_set (obj_set PB.out 0 _) 1 _) 2 _)
        have K3 := Lib.hid (show Below w.heap.size w (((wr.setCell ⟨N, 0, none⟩ (.int .i64 xn)).setCell ⟨N, 1, none⟩ (.int .i64 xv)).setCell ⟨N, 2, none⟩ (.bool xu)) from by
          rw [HN.out]
          exact KY.out.trans ((KeepsBut.set (KeepsBut.set (KeepsBut.set (KeepsBut.refl N _) _ _) _ _) _ _).below (Nat.le_of_lt (lt_of_block PB.out)) (Nat.le_refl _)))
        obtain ⟨e0, e1, e2⟩ := MbIn.cells PB3.out
        clear HX HY2
        go_wp2_with fail
        refine bodyPost_ret (v := .tuple #[mbV xn xv xu, .bool true]) (by simp [results, Tryd.results8, go_sem, e0, e1, e2]) rfl ?_
        exact ⟨⟨xn, xv, xu⟩, true, rfl, .inl ⟨rfl, HV.out⟩, K3.out⟩
      · have hx2 : (xn == n) = false := by rw [beq_eq_false_iff_ne]; exact hx
        have HX3 := Lib.hid (HY2.out hx)
        clear hx HX HY2
        go_wp2_with fail
        go_roundw
        case measure => simp [intOf]; omega
        case rel => exact ⟨i + 1, by omega, by go_num, Lib.hid (fun j hj hj1 => by
            by_cases e : j = i
            · subst e; exact HX3.out
            · exact HNO.out j hj (by omega)), by first | rfl | trivial⟩
    · have HV := Lib.hid (show Pl.vat L n = none from Pl.vat_none fun x hx => by
        obtain ⟨j, hj, rfl⟩ := List.getElem_of_mem hx
        exact HNO.out j hj (by omega))
      have PB3 := Lib.hid (show MbIn (((wr.setCell ⟨N, 0, none⟩ (.int .i64 0)).setCell ⟨N, 1, none⟩ (.int .i64 0)).setCell ⟨N, 2, none⟩ (.bool false)) N 0 0 false from obj_set (obj_set (obj_set PB.out 0 _) 1 _) 2 _)
      have K3 := Lib.hid (show Below w.heap.size w (((wr.setCell ⟨N, 0, none⟩ (.int .i64 0)).setCell ⟨N, 1, none⟩ (.int .i64 0)).setCell ⟨N, 2, none⟩ (.bool false)) from by
        rw [HN.out]
        exact KY.out.trans ((KeepsBut.set (KeepsBut.set (KeepsBut.set (KeepsBut.refl N _) _ _) _ _) _ _).below (Nat.le_of_lt (lt_of_block PB.out)) (Nat.le_refl _)))
      obtain ⟨e0, e1, e2⟩ := MbIn.cells PB3.out
      go_wp2_with fail
      refine bodyPost_ret (v := .tuple #[mbV 0 0 false, .bool false]) (by simp [results, Tryd.results8, go_sem, e0, e1, e2]) rfl ?_
      exact ⟨⟨0, 0, false⟩, false, rfl, .inr ⟨rfl, HV.out, rfl⟩, K3.out⟩
set_option maxRecDepth 100000 in
set_option maxHeartbeats 2000000 in
theorem refMerge_any (v1 v2 : Value) (A B : List Mb) (w : World) (h1 : IsMs w v1 A) (h2 : IsMs w v2 B) (g1 : Pl.GoodV A) (g2 : Pl.GoodV B) :
    Calls Tryd.prog 7 #[v1, v2] w fun e w' => ∃ v', e = .returned v' ∧ IsMs w' v' (Pl.mergeV A B) ∧ Below w.heap.size w w' := by
  have MA := Lib.hid (fun (n : Int) y (k : Below w.heap.size w y) => refMember_any v1 A n y (h1.below k))
  have MB := Lib.hid (fun (n : Int) y (k : Below w.heap.size w y) => refMember_any v2 B n y (h2.below k))
  have E16 := Lib.hid (Pl.allV_merge g1 g2)
  have GOK := Lib.hid (Pl.mergeV_good g1 g2.ok)
  clear h1 h2 g1 g2
  go_enter Tryd.func7, Tryd.ntmps7
  go_upto_region 3 with fail
  go_loopw [5, 6] (fun s5 s6 wr => ∃ i : Nat, i ≤ 16 ∧ s6 = .int .i64 i ∧ Hid (mbK.Own wr w.heap.size s5 (Pl.allV A B i)) ∧ Hid (Below w.heap.size w wr)) (fun _ s6 _ => 16 - (intOf s6).toNat)
  case atStart => exact ⟨0, by omega, rfl, Lib.hid (RecK.Own.nil _ _), Lib.hid (Below.refl _ _)⟩
  case round =>
    obtain ⟨i, hi, rfl, OR, KR⟩ := hrel
    by_cases hlt : i < 16
    · have hlt2 : (i : Int) < 16 := by omega
      have MM := Lib.hid (Pl.allV_more A B i)
      have GL := Lib.hid (show (Pl.allV A B i).length ≤ 999999 from by have := Pl.allV_len A B i; omega)
      go_upto_region 6 with (go_at_call 8; (with_reducible refine (MA.out _ _ KR.out).mono ?_); rintro r z1 ⟨x, p, rfl, hx, k⟩; have HX := Lib.hid hx; have K1 := Lib.hid (KR.out.trans (k.mono KR.out.size)); have O1 := Lib.hid (show mbK.Own z1 w.heap.size u5 (Pl.allV A B i) from OR.out.below k); clear k hx)
      clear OR KR
      obtain ⟨N, hN⟩ : ∃ N, z1.heap.size = N := ⟨_, rfl⟩
      have hwN : w.heap.size ≤ z1.heap.size := K1.out.size
      refine abs_t (fun y => Hid (MbIn y z1.heap.size x.n x.v x.up) ∧ Hid (Below w.heap.size w y) ∧ Hid (mbK.Own y w.heap.size u5 (Pl.allV A B i)) ∧ Hid (z1.heap.size < y.heap.size) ∧ Hid (u5.ownBlock ≠ some z1.heap.size)) ⟨Lib.hid (obj_new _ _), Lib.hid (K1.out.alloc hwN _), Lib.hid (O1.out.below ((Below.refl _ _).alloc (Nat.le_refl _) _)), Lib.hid (by simp), Lib.hid (fun e => by have := (O1.out.lt _ e).2; omega)⟩ ?_
      rw [hN] at hwN ⊢
      clear hN O1 K1
      rintro y ⟨PX, KY, OY, HY, HNO⟩
      go_upto_region 7 with (go_at_call 8; (with_reducible refine (MB.out _ _ KY.out).mono ?_); rintro r z2 ⟨x', q, rfl, hx, k⟩; have HZ := Lib.hid hx; have K2 := Lib.hid (KY.out.trans (k.mono KY.out.size)); have O2 := Lib.hid (show mbK.Own z2 w.heap.size u5 (Pl.allV A B i) from OY.out.below k); have PX2 := Lib.hid (show MbIn z2 N x.n x.v x.up from Below.heapAt k PX.out HY.out); have HN2 := Lib.hid (show N < z2.heap.size from Nat.lt_of_lt_of_le HY.out k.size); clear k hx)
      clear PX KY OY HY
      obtain ⟨N2, hN⟩ : ∃ N2, z2.heap.size = N2 := ⟨_, rfl⟩
      have hwN2 : w.heap.size ≤ z2.heap.size := K2.out.size
      have k0 : Below z2.heap.size z2 (z2.alloc (.cells #[.int .i64 x'.n, .int .i64 x'.v, .bool x'.up] 30)) := (Below.refl _ _).alloc (Nat.le_refl _) _
      refine abs_t (fun y => Hid (MbIn y z2.heap.size x'.n x'.v x'.up) ∧ Hid (MbIn y N x.n x.v x.up) ∧ Hid (Below w.heap.size w y) ∧ Hid (mbK.Own y w.heap.size u5 (Pl.allV A B i)) ∧ Hid (N ≠ z2.heap.size)) ⟨Lib.hid (obj_new _ _), Lib.hid (Below.heapAt k0 PX2.out HN2.out), Lib.hid (K2.out.alloc hwN2 _), Lib.hid (O2.out.below k0), Lib.hid (by have := HN2.out; omega)⟩ ?_
      rw [hN] at hwN2 ⊢
      clear hN O2 K2 PX2 k0
      rintro y ⟨PY, PX, KY, OY, HNE⟩
      obtain ⟨p0, p1, p2⟩ := MbIn.cells PX.out
      obtain ⟨r0, r1, r2⟩ := MbIn.cells PY.out
      by_cases hpq : p = false ∧ q = false
      · obtain ⟨rfl, rfl⟩ := hpq
        have O3 := Lib.hid (show mbK.Own y w.heap.size u5 (Pl.allV A B (i + 1)) from by
          have e1 : Pl.vat A i = none := by rcases HX.out with ⟨h, _⟩ | ⟨_, h, _⟩; cases h; exact h
          have e2 : Pl.vat B i = none := by rcases HZ.out with ⟨h, _⟩ | ⟨_, h, _⟩; cases h; exact h
          rw [MM.out, e1, e2]
          simpa [Pl.jo] using OY.out)
        go_wp2_with fail
        go_roundw
        case measure => simp [intOf]; omega
        case rel => exact ⟨i + 1, by omega, by go_num, O3, KY⟩
      have SP := Lib.hid (show (p = true ∧ q = false ∧ Pl.jo (Pl.vat A i) (Pl.vat B i) = some x) ∨ (p = false ∧ q = true ∧ Pl.jo (Pl.vat A i) (Pl.vat B i) = some x') ∨ (p = true ∧ q = true ∧ Pl.jo (Pl.vat A i) (Pl.vat B i) = some (Pl.jn (some x) x') ∧ x.n = x'.n) from by
        rcases HX.out with ⟨rfl, h⟩ | ⟨rfl, h, _⟩ <;> rcases HZ.out with ⟨rfl, h'⟩ | ⟨rfl, h', _⟩
        · exact .inr (.inr ⟨rfl, rfl, by rw [h, h']; rfl, by have := Pl.vat_n h; have := Pl.vat_n h'; omega⟩)
        · exact .inl ⟨rfl, rfl, by rw [h, h']; rfl⟩
        · exact .inr (.inl ⟨rfl, rfl, by rw [h, h']; rfl⟩)
        · exact absurd ⟨rfl, rfl⟩ hpq)
      clear HX HZ hpq
      obtain ⟨xn, xv, xu⟩ := x
      obtain ⟨yn, yv, yu⟩ := x'
      dsimp only at p0 p1 p2 r0 r1 r2
      have PX3 := Lib.hid (show MbIn y N xn xv xu from PX.out)
      have PY3 := Lib.hid (show MbIn y N2 yn yv yu from PY.out)
      clear PX PY
      have PST := Lib.hid (show MbIn (((y.setCell ⟨N, 0, none⟩ (.int .i64 yn)).setCell ⟨N, 1, none⟩ (.int .i64 yv)).setCell ⟨N, 2, none⟩ (.bool yu)) N yn yv yu from obj_set (obj_set (obj_set PX3.out 0 _) 1 _) 2 _)
      have KST := Lib.hid (show KeepsBut N y (((y.setCell ⟨N, 0, none⟩ (.int .i64 yn)).setCell ⟨N, 1, none⟩ (.int .i64 yv)).setCell ⟨N, 2, none⟩ (.bool yu)) from KeepsBut.set (KeepsBut.set (KeepsBut.set (KeepsBut.refl N _) _ _) _ _) _ _)
      have f0 := obj_free PX3.out 0
      have f1 := obj_free PX3.out 1
      have f2 := obj_free PX3.out 2
      have hNy := lt_of_block PX3.out
      have OST := Lib.hid (show mbK.Own (((y.setCell ⟨N, 0, none⟩ (.int .i64 yn)).setCell ⟨N, 1, none⟩ (.int .i64 yv)).setCell ⟨N, 2, none⟩ (.bool yu)) w.heap.size u5 (Pl.allV A B i) from OY.out.keep (fun g e _ hg => KST.out.block g hg (fun q => HNO.out (by rw [e, q]))))
      have KS2 := Lib.hid (show Below w.heap.size w (((y.setCell ⟨N, 0, none⟩ (.int .i64 yn)).setCell ⟨N, 1, none⟩ (.int .i64 yv)).setCell ⟨N, 2, none⟩ (.bool yu)) from KY.out.trans (KST.out.below KY.out.size hwN))
      clear KST HNO
      rcases SP.out with ⟨rfl, rfl, e⟩ | ⟨rfl, rfl, e⟩ | ⟨rfl, rfl, e, en⟩
      · have E := Lib.hid e
        clear e SP
        go_upto_region 10 with fail
        refine abs_t (fun z => Hid (MbIn z N xn xv xu) ∧ Hid (mbK.Own z w.heap.size u5 (Pl.allV A B i)) ∧ Hid (Below w.heap.size w z)) ⟨PX3, OY, KY⟩ ?_
        clear f0 f1 f2 p0 p1 p2 r0 r1 r2 PST OST KS2 PX3 PY3 OY KY
        rintro z ⟨PM, OM, KM⟩
        obtain ⟨p0, p1, p2⟩ := MbIn.cells PM.out
        obtain ⟨gN, capN, wN, hr, ho, hk⟩ := mb_more OM.out (⟨xn, xv, xu⟩ : Mb) GL.out KM.out (Nat.le_refl _)
        have HR := Lib.hid hr
        have O2 := Lib.hid (show mbK.Own wN w.heap.size (.slice (some ⟨gN, 0, none⟩) ((Pl.allV A B i).length + 1) capN) (Pl.allV A B (i + 1)) from by
          rw [MM.out, E.out]; exact ho)
        have KN := Lib.hid hk
        clear hr ho hk
        go_wp2_with (at_builtin; refine Lib.wpList_append_run _ rfl (.tmp 58) (.tmp 60) 22 22 rfl _ _ rfl rfl _ _ HR.out ?_)
        go_roundw
        case measure => simp [intOf]; omega
        case rel => exact ⟨i + 1, by omega, by go_num, O2, KN⟩
      · have E := Lib.hid e
        clear e SP
        go_upto_region 10 with fail
        refine abs_t (fun z => Hid (MbIn z N yn yv yu) ∧ Hid (mbK.Own z w.heap.size u5 (Pl.allV A B i)) ∧ Hid (Below w.heap.size w z)) ⟨PST, OST, KS2⟩ ?_
        clear f0 f1 f2 p0 p1 p2 r0 r1 r2 PST OST KS2 PX3 PY3 OY KY
        rintro z ⟨PM, OM, KM⟩
        obtain ⟨p0, p1, p2⟩ := MbIn.cells PM.out
        obtain ⟨gN, capN, wN, hr, ho, hk⟩ := mb_more OM.out (⟨yn, yv, yu⟩ : Mb) GL.out KM.out (Nat.le_refl _)
        have HR := Lib.hid hr
        have O2 := Lib.hid (show mbK.Own wN w.heap.size (.slice (some ⟨gN, 0, none⟩) ((Pl.allV A B i).length + 1) capN) (Pl.allV A B (i + 1)) from by
          rw [MM.out, E.out]; exact ho)
        have KN := Lib.hid hk
        clear hr ho hk
        go_wp2_with (at_builtin; refine Lib.wpList_append_run _ rfl (.tmp 58) (.tmp 60) 22 22 rfl _ _ rfl rfl _ _ HR.out ?_)
        go_roundw
        case measure => simp [intOf]; omega
        case rel => exact ⟨i + 1, by omega, by go_num, O2, KN⟩
      · have E0 := Lib.hid e
        have EN := Lib.hid en
        clear e en SP
        have hc : (xv < yv) ∨ (¬ xv < yv ∧ yv = xv ∧ yu = false) ∨ (¬ xv < yv ∧ yv = xv ∧ yu = true) ∨ (¬ xv < yv ∧ yv < xv) := by
          cases yu <;> simp <;> omega
        rcases hc with h1 | ⟨h1, rfl, rfl⟩ | ⟨h1, rfl, rfl⟩ | ⟨h1, h2⟩
        · have E := Lib.hid (E0.out.trans (congrArg some (Pl.jn_new (x := ⟨xn, xv, xu⟩) (y := ⟨yn, yv, yu⟩) (.inl h1) EN.out)))
          go_upto_region 10 with fail
          refine abs_t (fun z => Hid (MbIn z N yn yv yu) ∧ Hid (mbK.Own z w.heap.size u5 (Pl.allV A B i)) ∧ Hid (Below w.heap.size w z)) ⟨PST, OST, KS2⟩ ?_
          clear f0 f1 f2 p0 p1 p2 r0 r1 r2 PST OST KS2 PX3 PY3 OY KY
          rintro z ⟨PM, OM, KM⟩
          obtain ⟨p0, p1, p2⟩ := MbIn.cells PM.out
          obtain ⟨gN, capN, wN, hr, ho, hk⟩ := mb_more OM.out (⟨yn, yv, yu⟩ : Mb) GL.out KM.out (Nat.le_refl _)
          have HR := Lib.hid hr
          have O2 := Lib.hid (show mbK.Own wN w.heap.size (.slice (some ⟨gN, 0, none⟩) ((Pl.allV A B i).length + 1) capN) (Pl.allV A B (i + 1)) from by
            rw [MM.out, E.out]; exact ho)
          have KN := Lib.hid hk
          clear hr ho hk
          go_wp2_with (at_builtin; refine Lib.wpList_append_run _ rfl (.tmp 58) (.tmp 60) 22 22 rfl _ _ rfl rfl _ _ HR.out ?_)
          go_roundw
          case measure => simp [intOf]; omega
          case rel => exact ⟨i + 1, by omega, by go_num, O2, KN⟩
        · have E := Lib.hid (E0.out.trans (congrArg some (Pl.jn_new (x := ⟨xn, yv, xu⟩) (y := ⟨yn, yv, false⟩) (.inr ⟨rfl, rfl⟩) EN.out)))
          go_upto_region 10 with fail
          refine abs_t (fun z => Hid (MbIn z N yn yv false) ∧ Hid (mbK.Own z w.heap.size u5 (Pl.allV A B i)) ∧ Hid (Below w.heap.size w z)) ⟨PST, OST, KS2⟩ ?_
          clear f0 f1 f2 p0 p1 p2 r0 r1 r2 PST OST KS2 PX3 PY3 OY KY
          rintro z ⟨PM, OM, KM⟩
          obtain ⟨p0, p1, p2⟩ := MbIn.cells PM.out
          obtain ⟨gN, capN, wN, hr, ho, hk⟩ := mb_more OM.out (⟨yn, yv, false⟩ : Mb) GL.out KM.out (Nat.le_refl _)
          have HR := Lib.hid hr
          have O2 := Lib.hid (show mbK.Own wN w.heap.size (.slice (some ⟨gN, 0, none⟩) ((Pl.allV A B i).length + 1) capN) (Pl.allV A B (i + 1)) from by
            rw [MM.out, E.out]; exact ho)
          have KN := Lib.hid hk
          clear hr ho hk
          go_wp2_with (at_builtin; refine Lib.wpList_append_run _ rfl (.tmp 58) (.tmp 60) 22 22 rfl _ _ rfl rfl _ _ HR.out ?_)
          go_roundw
          case measure => simp [intOf]; omega
          case rel => exact ⟨i + 1, by omega, by go_num, O2, KN⟩
        · have E := Lib.hid (E0.out.trans (congrArg some (Pl.jn_old (x := ⟨xn, yv, xu⟩) (y := ⟨yn, yv, true⟩) (.inr ⟨rfl, rfl⟩))))
          go_upto_region 10 with fail
          refine abs_t (fun z => Hid (MbIn z N xn yv xu) ∧ Hid (mbK.Own z w.heap.size u5 (Pl.allV A B i)) ∧ Hid (Below w.heap.size w z)) ⟨PX3, OY, KY⟩ ?_
          clear f0 f1 f2 p0 p1 p2 r0 r1 r2 PST OST KS2 PX3 PY3 OY KY
          rintro z ⟨PM, OM, KM⟩
          obtain ⟨p0, p1, p2⟩ := MbIn.cells PM.out
          obtain ⟨gN, capN, wN, hr, ho, hk⟩ := mb_more OM.out (⟨xn, yv, xu⟩ : Mb) GL.out KM.out (Nat.le_refl _)
          have HR := Lib.hid hr
          have O2 := Lib.hid (show mbK.Own wN w.heap.size (.slice (some ⟨gN, 0, none⟩) ((Pl.allV A B i).length + 1) capN) (Pl.allV A B (i + 1)) from by
            rw [MM.out, E.out]; exact ho)
          have KN := Lib.hid hk
          clear hr ho hk
          go_wp2_with (at_builtin; refine Lib.wpList_append_run _ rfl (.tmp 58) (.tmp 60) 22 22 rfl _ _ rfl rfl _ _ HR.out ?_)
          go_roundw
          case measure => simp [intOf]; omega
          case rel => exact ⟨i + 1, by omega, by go_num, O2, KN⟩
        · have E := Lib.hid (E0.out.trans (congrArg some (Pl.jn_old (x := ⟨xn, xv, xu⟩) (y := ⟨yn, yv, yu⟩) (.inl h2))))
          have h3 : (yv == xv) = false := by rw [beq_eq_false_iff_ne]; omega
          go_upto_region 10 with fail
          refine abs_t (fun z => Hid (MbIn z N xn xv xu) ∧ Hid (mbK.Own z w.heap.size u5 (Pl.allV A B i)) ∧ Hid (Below w.heap.size w z)) ⟨PX3, OY, KY⟩ ?_
          clear f0 f1 f2 p0 p1 p2 r0 r1 r2 PST OST KS2 PX3 PY3 OY KY
          rintro z ⟨PM, OM, KM⟩
          obtain ⟨p0, p1, p2⟩ := MbIn.cells PM.out
          obtain ⟨gN, capN, wN, hr, ho, hk⟩ := mb_more OM.out (⟨xn, xv, xu⟩ : Mb) GL.out KM.out (Nat.le_refl _)
          have HR := Lib.hid hr
          have O2 := Lib.hid (show mbK.Own wN w.heap.size (.slice (some ⟨gN, 0, none⟩) ((Pl.allV A B i).length + 1) capN) (Pl.allV A B (i + 1)) from by
            rw [MM.out, E.out]; exact ho)
          have KN := Lib.hid hk
          clear hr ho hk
          go_wp2_with (at_builtin; refine Lib.wpList_append_run _ rfl (.tmp 58) (.tmp 60) 22 22 rfl _ _ rfl rfl _ _ HR.out ?_)
          go_roundw
          case measure => simp [intOf]; omega
          case rel => exact ⟨i + 1, by omega, by go_num, O2, KN⟩
    · obtain rfl : i = 16 := by omega
      have OE := Lib.hid (show mbK.Own wr w.heap.size u5 (Pl.mergeV A B) from by rw [← E16.out]; exact OR.out)
      go_wp2_with fail
      go_ret
      exact ⟨_, rfl, mbK_ms OE.out (fun x hx => Pl.mbOk_num (GOK.out.ok x hx)), KR.out⟩
end Go.Proofs.YtnbcajciobfljaaDoor
