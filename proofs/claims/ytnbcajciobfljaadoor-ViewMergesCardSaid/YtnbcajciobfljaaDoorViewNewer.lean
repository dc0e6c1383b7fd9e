import Derived.Test.YtnbcajciobfljaaDoorViewMerge
import Derived.Test.YtnbcajciobfljaaDoorIRow
/-! view.Newer, Alive, Bump. -/
namespace Go.Proofs.YtnbcajciobfljaaDoor
open Go.RowKit
set_option linter.unusedVariables false
set_option linter.unusedSimpArgs false
theorem Pl.isNew_no {A : List Mb} {m : Mb} {i : Nat} (h : Pl.Place A m.n i) (hr : Pl.Ris A) (hn : Pl.has A m.n i = false) : Pl.isNew A m = true := by
  unfold Pl.isNew
  rw [h.vat hr, hn]; rfl
theorem Pl.isNew_has {A : List Mb} {m : Mb} {i : Nat} (h : Pl.Place A m.n i) (hr : Pl.Ris A) (hi : i < A.length) (hn : Pl.has A m.n i = true) : Pl.isNew A m = decide (Pl.key A[i] < Pl.key m) := by
  unfold Pl.isNew
  rw [h.vat hr, hn, if_pos rfl, List.getElem?_eq_getElem hi]
theorem Pl.has_lt {A : List Mb} {n : Int} {i : Nat} (h : Pl.has A n i = true) : i < A.length := by
  by_cases e : i < A.length
  · exact e
  · rw [Pl.has_no (by omega)] at h; cases h
theorem Pl.newer_more {A B : List Mb} {i : Nat} (h : i < B.length) : Pl.newerV A (B.take (i + 1)) = Pl.newerV A (B.take i) ++ (if Pl.isNew A B[i] = true then [B[i]] else []) := by
  rw [Pl.take_more h]; unfold Pl.newerV; rw [List.filter_append]
  congr 1
  rw [List.filter_cons]; split <;> rfl
set_option maxRecDepth 100000 in
set_option maxHeartbeats 4000000 in
theorem newer_any (v1 v2 : Value) (A B : List Mb) (w : World) (h1 : IsMs w v1 A) (h2 : IsMs w v2 B) :
    Calls Tryd.prog 10 #[v1, v2] w fun e w' => ∃ (f : Int) (v' : Value), e = .returned (.tuple #[v', errV f]) ∧ Pl.BothF A B f ∧ IsMs w' v' (if f = 0 then Pl.newerV A B else []) ∧ Below w.heap.size w w' := by
  have BO := Lib.hid (both_any v1 v2 A B w h1 h2)
  obtain ⟨o1, c1, rfl, hlc1, hcm1, -, -⟩ := ms_read h1
  obtain ⟨o2, c2, rfl, hlc2, hcm2, -, -⟩ := ms_read h2
  have H1 := Lib.hid (show IsMs w (.slice o1 A.length c1) A from h1)
  have H2 := Lib.hid (show IsMs w (.slice o2 B.length c2) B from h2)
  unfold maxLen at hcm2 hcm1
  clear h1 h2
  go_enter Tryd.func10, Tryd.ntmps10
  go_upto_region 2 with (go_at_call 17; (with_reducible refine BO.out.mono ?_); rintro r z ⟨a, rfl, ha, k⟩; have HA := Lib.hid ha; have K1 := Lib.hid k; clear ha k)
  clear BO
  by_cases h0 : a = 0
  case neg =>
    have H0 := Lib.hid h0
    rw [errV_hit a h0]
    clear h0
    go_wp2_with fail
    go_ret2
    exact ⟨a, _, by rw [errV_hit a H0.out]; rfl, HA.out, by rw [if_neg H0.out]; exact IsMs.nil _, K1.out⟩
  subst h0
  rw [errV_nil]
  have GD := Lib.hid HA.out.zero
  have O1 := Lib.hid (show mbK.Own z w.heap.size (.slice none 0 0) (Pl.newerV A (B.take 0)) from RecK.Own.nil _ _)
  go_upto_region 6 with fail
  go_loopw [7, 20] (fun s7 s20 wr => ∃ i : Nat, i ≤ B.length ∧ s20 = .int .i64 i ∧ Hid (mbK.Own wr w.heap.size s7 (Pl.newerV A (B.take i))) ∧ Hid (Below w.heap.size w wr)) (fun _ s20 _ => B.length - (intOf s20).toNat)
  case atStart => exact ⟨0, by omega, rfl, O1, K1⟩
  case round =>
    clear O1 K1
    obtain ⟨i, hi, rfl, OR, KR⟩ := hrel
    by_cases hlt : i < B.length
    · obtain ⟨_, _, e, -, -, -, rd⟩ := ms_read (H2.out.below KR.out)
      cases e
      obtain ⟨g, f, rfl, hg, q0, q1, q2, -⟩ := rd i hlt
      have GL := Lib.hid (show (Pl.newerV A (B.take i)).length ≤ 999999 from by
        have := List.length_filter_le (Pl.isNew A) (B.take i)
        have h2 := GD.out.2.len
        unfold Pl.newerV
        rw [List.length_take] at this; omega)
      have FI := Lib.hid (fun y (k : Below w.heap.size w y) => find_any (.slice o1 A.length c1) A B[i].n y (H1.out.below k) GD.out.1.ris (by have := GD.out.1.len; omega))
      have NO := Lib.hid (fun j (h : Pl.Place A B[i].n j) (hn : Pl.has A B[i].n j = false) => Pl.isNew_no h GD.out.1.ris hn)
      have YE := Lib.hid (fun j (h : Pl.Place A B[i].n j) (hj : j < A.length) (hn : Pl.has A B[i].n j = true) => Pl.isNew_has h GD.out.1.ris hj hn)
      have MM := Lib.hid (Pl.newer_more (A := A) hlt)
      clear rd
      obtain ⟨x, hx⟩ : ∃ x, B[i] = x := ⟨_, rfl⟩
      rw [hx] at FI NO YE MM q0 q1 q2
      obtain ⟨xn, xv, xu⟩ := x
      clear hx
      dsimp only at FI NO YE q0 q1 q2
      go_upto_region 8 with fail
      refine abs_t (fun y => Hid (MbIn y wr.heap.size xn xv xu) ∧ Hid (Below wr.heap.size wr y) ∧ Hid (wr.heap.size < y.heap.size)) ⟨Lib.hid (obj_new _ _), Lib.hid ((Below.refl _ _).alloc (Nat.le_refl _) _), Lib.hid (by simp)⟩ ?_
      obtain ⟨N, hN⟩ : ∃ N, wr.heap.size = N := ⟨_, rfl⟩
      have HN := Lib.hid hN
      rw [hN]
      clear q0 q1 q2 hN
      rintro y ⟨PB, KY, HY⟩
      obtain ⟨p0, p1, p2⟩ := MbIn.cells PB.out
      have KYw := Lib.hid (KR.out.trans (KY.out.mono (by have := KR.out.size; have := HN.out; omega)))
      go_upto_region 9 with (go_at_call 20; (with_reducible refine (FI.out _ KYw.out).mono ?_); rintro e z3 ⟨j, rfl, hp, k⟩; have HP := Lib.hid hp; have KZ := Lib.hid k; clear hp k)
      have PBz := Lib.hid (show MbIn z3 N xn xv xu from Below.heapAt KZ.out PB.out HY.out)
      have KZw := Lib.hid (KYw.out.trans (KZ.out.mono KYw.out.size))
      have OZ := Lib.hid (show mbK.Own z3 w.heap.size u7 (Pl.newerV A (B.take i)) from by
        have a := OR.out.below (by rw [HN.out]; exact KY.out)
        exact a.below KZ.out)
      clear p0 p1 p2 PB KYw OR
      obtain ⟨p0, p1, p2⟩ := MbIn.cells PBz.out
      have kd : Below w.heap.size w z3.drew := Below.drewN KZw.out 1
      have kz : Below z3.heap.size z3 z3.drew := Below.drewN (Below.refl _ _) 1
      obtain ⟨nw, hnw⟩ : ∃ nw, Pl.isNew A ⟨xn, xv, xu⟩ = nw := ⟨_, rfl⟩
      rw [hnw] at MM NO YE
      clear hnw
      go_cut [0, 11, 12, 40] from 24 to 40 (fun v0 v11 v12 v40 y => v0 = .slice o1 A.length c1 ∧ (∃ b : Bool, v11 = .bool b) ∧ v12 = .slice o1 A.length c1 ∧ v40 = .bool nw ∧ Hid (Below z3.heap.size z3 y))
      case first =>
        obtain ⟨hs, hhs⟩ : ∃ hs, Pl.has A xn j = hs := ⟨_, rfl⟩
        rw [hhs]
        have HHS := Lib.hid hhs
        clear hhs
        cases hs
        · have e := NO.out j HP.out HHS.out
          subst e
          go_quiet (fail)
          go_wp2_with fail
          go_meet
          exact ⟨rfl, ⟨_, rfl⟩, rfl, rfl, Lib.hid (Below.drewN (Below.refl _ _) _)⟩
        · have hj := Pl.has_lt HHS.out
          obtain ⟨_, _, e, -, -, -, rd⟩ := ms_read (H1.out.below KZw.out)
          cases e
          obtain ⟨g1, f1, rfl, hg1, q0, q1, q2, -⟩ := rd j hj
          have e := YE.out j HP.out hj HHS.out
          have LT := Lib.hid (fun y => later_any xn xv A[j].n A[j].v xu A[j].up y)
          rw [show decide (Pl.key (⟨A[j].n, A[j].v, A[j].up⟩ : Mb) < Pl.key ⟨xn, xv, xu⟩) = nw from e.symm] at LT
          clear rd e
          generalize A[j].n = yn at *
          generalize A[j].v = yv at *
          generalize A[j].up = yu at *
          have HC := Lib.hid (fun y (k : Below z3.heap.size z3 y) => (show y.cell? ⟨g1, f1 + j * 3, none⟩ = some (.int .i64 yn) ∧ y.cell? ⟨g1, f1 + j * 3 + 1, none⟩ = some (.int .i64 yv) ∧ y.cell? ⟨g1, f1 + j * 3 + 2, none⟩ = some (.bool yu) ∧ y.cell? ⟨N, 0, none⟩ = some (.int .i64 xn) ∧ y.cell? ⟨N, 1, none⟩ = some (.int .i64 xv) ∧ y.cell? ⟨N, 2, none⟩ = some (.bool xu) from
            ⟨(k.cell (p := ⟨_, _, none⟩) (Sl.lt q0)).trans q0, (k.cell (p := ⟨_, _, none⟩) (Sl.lt q1)).trans q1, (k.cell (p := ⟨_, _, none⟩) (Sl.lt q2)).trans q2, (k.cell (p := ⟨_, _, none⟩) (Sl.lt p0)).trans p0, (k.cell (p := ⟨_, _, none⟩) (Sl.lt p1)).trans p1, (k.cell (p := ⟨_, _, none⟩) (Sl.lt p2)).trans p2⟩))
          go_region_held3 (fun y => y.cell? ⟨g1, f1 + j * 3, none⟩ = some (.int .i64 yn) ∧ y.cell? ⟨g1, f1 + j * 3 + 1, none⟩ = some (.int .i64 yv) ∧ y.cell? ⟨g1, f1 + j * 3 + 2, none⟩ = some (.bool yu) ∧ y.cell? ⟨N, 0, none⟩ = some (.int .i64 xn) ∧ y.cell? ⟨N, 1, none⟩ = some (.int .i64 xv) ∧ y.cell? ⟨N, 2, none⟩ = some (.bool xu))
            (first | (exact ⟨q0, q1, q2, p0, p1, p2⟩) | (with_reducible exact s12) | (with_reducible assumption))
            (first
            | (go_at_call 21; (with_reducible refine (LT.out _).mono ?_); rintro e z1 ⟨rfl, k1⟩; have K1 := Lib.hid (kz.trans (k1.mono kz.size)); have s12 := HC.out z1 K1.out; clear k1))
          go_wp2_with fail
          go_meet
          exact ⟨rfl, ⟨_, rfl⟩, rfl, rfl, K1⟩
      case rest =>
      obtain ⟨rfl, ⟨b11, rfl⟩, rfl, rfl, KW⟩ := hcut
      have KWw := Lib.hid (KZw.out.trans (KW.out.mono KZw.out.size))
      have OW := Lib.hid (OZ.out.below KW.out)
      have PBw := Lib.hid (show MbIn wc N xn xv xu from Below.heapAt KW.out PBz.out (lt_of_block PBz.out))
      clear p0 p1 p2 kd kz PBz OZ NO YE FI
      obtain ⟨p0, p1, p2⟩ := MbIn.cells PBw.out
      cases nw
      · have O2 := Lib.hid (show mbK.Own wc w.heap.size u7 (Pl.newerV A (B.take (i + 1))) from by
          rw [MM.out, if_neg (by decide), List.append_nil]; exact OW.out)
        go_wp2_with fail
        go_roundw
        case measure => simp [intOf]; omega
        case rel => exact ⟨i + 1, by omega, by go_num, O2, KWw⟩
      · obtain ⟨gN, capN, wN, hr, ho, hk⟩ := mb_more OW.out ⟨xn, xv, xu⟩ GL.out KWw.out (Nat.le_refl _)
        have HR := Lib.hid hr
        have O2 := Lib.hid (show mbK.Own wN w.heap.size (.slice (some ⟨gN, 0, none⟩) ((Pl.newerV A (B.take i)).length + 1) capN) (Pl.newerV A (B.take (i + 1))) from by
          rw [MM.out, if_pos rfl]; exact ho)
        have KN := Lib.hid hk
        clear hr ho hk
        go_wp2_with (at_builtin; refine Lib.wpList_append_run _ rfl (.tmp 41) (.tmp 43) 22 22 rfl _ _ rfl rfl _ _ HR.out ?_)
        go_roundw
        case measure => simp [intOf]; omega
        case rel => exact ⟨i + 1, by omega, by go_num, O2, KN⟩
    · obtain rfl : i = B.length := by omega
      have GI := Lib.hid (Pl.newerV_good (A := A) GD.out.2)
      have OE := Lib.hid (show mbK.Own wr w.heap.size u7 (Pl.newerV A B) from by have := OR.out; rw [List.take_length] at this; exact this)
      go_wp2_with fail
      go_ret2
      exact ⟨0, _, rfl, HA.out, by rw [if_pos rfl]; exact mbK_ms OE.out (fun x hx => Pl.mbOk_num (GI.out.ok x hx)), KR.out⟩
end Go.Proofs.YtnbcajciobfljaaDoor
