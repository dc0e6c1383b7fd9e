import Derived.Test.YtnbcajciobfljaaDoorViewCheck
import Derived.Deep.QuietTactic
import Derived.BigQuiet
import Derived.Deep.RegionHeld3
/-! slices.BinarySearchFunc over members; view.find. -/
namespace Go.Proofs.YtnbcajciobfljaaDoor
open Go.RowKit
set_option linter.unusedVariables false
set_option linter.unusedSimpArgs false
theorem Pl.has_no {L : List Mb} {n : Int} {i : Nat} (h : L.length ≤ i) : Pl.has L n i = false := by unfold Pl.has; rw [List.getElem?_eq_none h]
theorem Pl.has_at {L : List Mb} {n : Int} {i : Nat} (h : i < L.length) : Pl.has L n i = decide (Pl.sgn L[i].n n = 0) := by
  unfold Pl.has
  rw [List.getElem?_eq_getElem h]
  simp only
  rw [Bool.eq_iff_iff]
  unfold Pl.sgn
  simp only [decide_eq_true_eq]
  split
  · omega
  · split <;> omega
set_option maxRecDepth 100000 in
set_option maxHeartbeats 4000000 in
theorem bsearch_any (oa : Option Addr) (cp : Nat) (L : List Mb) (n v : Int) (u : Bool) (w : World) (h : IsMs w (.slice oa L.length cp) L) (hr : Pl.Ris L) (hl : L.length ≤ 100000) :
    Calls Tryd.prog 24 #[.slice oa L.length cp, mbV n v u, .func (.func 25) #[] #[]] w fun e w' => ∃ i : Nat, e = .returned (.tuple #[.int .i64 i, .bool (Pl.has L n i)]) ∧ Pl.Place L n i ∧ Below w.heap.size w w' := by
  have HL := Lib.hid h
  have HR := Lib.hid (show ∀ i j (hi : i < L.length) (hj : j < L.length), i < j → L[i].n < L[j].n from fun i j hi hj hij => (List.pairwise_iff_getElem.1 hr) i j hi hj hij)
  clear h hr
  go_enter Tryd.func24, Tryd.ntmps24
  go_upto_region 1 with fail
  obtain ⟨B, hB⟩ : ∃ B, w.heap.size = B := ⟨_, rfl⟩
  refine abs_t (fun y => Hid (MbIn y B n v u) ∧ Hid (Below w.heap.size w y)) ⟨Lib.hid (by rw [← hB]; exact obj_new _ _), Lib.hid ((Below.refl _ _).alloc (Nat.le_refl _) _)⟩ ?_
  rw [hB]
  rintro y0 ⟨PB0, KB0⟩

  have HBw := Lib.hid hB
  clear hB
  go_upto_region 3 with fail
  go_loopw [9, 10] (fun s9 s10 wr => ∃ lo hi : Nat, s9 = .int .i64 lo ∧ s10 = .int .i64 hi ∧ lo ≤ hi ∧ hi ≤ L.length ∧ Hid ((∀ j (hj : j < L.length), j < lo → L[j].n < n) ∧ (∀ j (hj : j < L.length), hi ≤ j → n ≤ L[j].n)) ∧ Hid (MbIn wr B n v u) ∧ Hid (Below B w wr)) (fun s9 s10 _ => (intOf s10 - intOf s9).toNat)
  case atStart => exact ⟨0, L.length, rfl, rfl, by omega, by omega, Lib.hid ⟨fun j _ h => by omega, fun j _ h => by omega⟩, PB0, KB0⟩
  case round =>
    clear PB0 KB0
    obtain ⟨lo, hi, rfl, rfl, hlh, hhl, I, PB, KB⟩ := hrel
    obtain ⟨p0, p1, p2⟩ := MbIn.cells PB.out
    by_cases hlt : lo < hi
    · have hm : (lo + hi) / 2 < L.length := by omega
      obtain ⟨_, _, e, -, -, -, rd⟩ := ms_read (HL.out.below (KB.out.mono (by rw [HBw.out]; exact Nat.le_refl _)))
      cases e
      obtain ⟨g, f, rfl, hg, q0, q1, q2, -⟩ := rd ((lo + hi) / 2) hm
      have HX := Lib.hid (show ∀ q : Int, L[(lo + hi) / 2].n = q → L[(lo + hi) / 2].n = q from fun q h => h)
      clear rd
      generalize L[(lo + hi) / 2].v = xv at *
      generalize L[(lo + hi) / 2].up = xu at *
      obtain ⟨xn, hxn⟩ : ∃ xn, L[(lo + hi) / 2].n = xn := ⟨_, rfl⟩
      rw [hxn] at q0
      have HXN := Lib.hid hxn
      have CC := Lib.hid (fun z => compare_any xn xv n v xu u z)
      clear hxn HX
      obtain ⟨sg, hsg⟩ : ∃ sg, Pl.sgn xn n = sg := ⟨_, rfl⟩
      rw [hsg] at CC
      have HSG := Lib.hid (show (sg < 0 ↔ xn < n) from by
        rw [← hsg]; unfold Pl.sgn
        split
        · omega
        · split <;> omega)
      clear hsg
      go_upto_region 5 with fail
      have HC := Lib.hid (fun z (k : Below wr.heap.size wr z) => (show z.cell? ⟨g, f + (lo + hi) / 2 * 3, none⟩ = some (.int .i64 xn) ∧ z.cell? ⟨g, f + (lo + hi) / 2 * 3 + 1, none⟩ = some (.int .i64 xv) ∧ z.cell? ⟨g, f + (lo + hi) / 2 * 3 + 2, none⟩ = some (.bool xu) ∧ z.cell? ⟨B, 0, none⟩ = some (.int .i64 n) ∧ z.cell? ⟨B, 1, none⟩ = some (.int .i64 v) ∧ z.cell? ⟨B, 2, none⟩ = some (.bool u) from
        ⟨(k.cell (p := ⟨_, _, none⟩) (Sl.lt q0)).trans q0, (k.cell (p := ⟨_, _, none⟩) (Sl.lt q1)).trans q1, (k.cell (p := ⟨_, _, none⟩) (Sl.lt q2)).trans q2, (k.cell (p := ⟨_, _, none⟩) (Sl.lt p0)).trans p0, (k.cell (p := ⟨_, _, none⟩) (Sl.lt p1)).trans p1, (k.cell (p := ⟨_, _, none⟩) (Sl.lt p2)).trans p2⟩))
      have kd : Below wr.heap.size wr wr.drew := Below.drewN (Below.refl _ _) 1
      go_cut [31] (fun v31 z => v31 = .bool (decide (sg < 0)) ∧ Hid (Below wr.heap.size wr z))
      case first =>
        have i5 : (0 : Int) ≤ ((lo : Int) + (hi : Int)) / 2 := by omega
        have i6 : ((lo : Int) + (hi : Int)) / 2 < (L.length : Int) := by omega
        have i7 : (((lo : Int) + (hi : Int)) / 2).toNat = (lo + hi) / 2 := by omega
        go_region_held3 (fun w' => w'.cell? ⟨g, f + (lo + hi) / 2 * 3, none⟩ = some (.int .i64 xn) ∧ w'.cell? ⟨g, f + (lo + hi) / 2 * 3 + 1, none⟩ = some (.int .i64 xv) ∧ w'.cell? ⟨g, f + (lo + hi) / 2 * 3 + 2, none⟩ = some (.bool xu) ∧ w'.cell? ⟨B, 0, none⟩ = some (.int .i64 n) ∧ w'.cell? ⟨B, 1, none⟩ = some (.int .i64 v) ∧ w'.cell? ⟨B, 2, none⟩ = some (.bool u))
          (first | (exact ⟨q0, q1, q2, p0, p1, p2⟩) | (with_reducible exact s12) | (with_reducible assumption))
          (first
          | (go_at_call 25; (with_reducible refine (CC.out _).mono ?_); rintro e z1 ⟨rfl, k1⟩; have K1 := Lib.hid (kd.trans (k1.mono kd.size)); have s12 := HC.out z1 K1.out; clear k1))
        go_wp2_with fail
        go_meet
        exact ⟨rfl, K1⟩
      case rest =>
      obtain ⟨rfl, KZ⟩ := hcut
      have KBz := Lib.hid (KB.out.trans (KZ.out.mono (by have := KB.out.size; have := HBw.out; omega)))
      have PBz := Lib.hid (show MbIn _ B n v u from Below.heapAt KZ.out PB.out (lt_of_block PB.out))
      clear q0 q1 q2 p0 p1 p2 HC kd CC KB PB KZ
      by_cases hx : sg < 0
      · have HXL := Lib.hid (HSG.out.1 hx)
        go_wp2_with fail
        go_roundw
        case measure => simp [intOf]; omega
        case rel => exact ⟨(lo + hi) / 2 + 1, hi, by rw [show ((lo : Int) + (hi : Int)) / 2 + 1 = (((lo + hi) / 2 + 1 : Nat) : Int) by omega], rfl, by omega, hhl, Lib.hid ⟨fun j hj hjl => by
            by_cases e : j = (lo + hi) / 2
            · subst e; rw [HXN.out]; exact HXL.out
            · have a := HR.out j ((lo + hi) / 2) hj hm (by omega)
              have b := HXN.out
              have c := HXL.out
              omega, I.out.2⟩, PBz, KBz⟩
      · have HXL := Lib.hid (show ¬ xn < n from fun q => hx (HSG.out.2 q))
        go_wp2_with fail
        go_roundw
        case measure => simp [intOf]; omega
        case rel => exact ⟨lo, (lo + hi) / 2, rfl, by rw [show ((lo : Int) + (hi : Int)) / 2 = (((lo + hi) / 2 : Nat) : Int) by omega], by omega, by omega, Lib.hid ⟨I.out.1, fun j hj hjl => by
            by_cases e : j = (lo + hi) / 2
            · subst e; rw [HXN.out]; have := HXL.out; omega
            · have a := HR.out ((lo + hi) / 2) j hm hj (by omega)
              have b := HXN.out
              have c := HXL.out
              omega⟩, PBz, KBz⟩
    · obtain rfl : hi = lo := by omega
      have HPL := Lib.hid (show Pl.Place L n hi from ⟨hhl, I.out.1, I.out.2⟩)
      by_cases hn : hi < L.length
      · obtain ⟨_, _, e, -, -, -, rd⟩ := ms_read (HL.out.below (KB.out.mono (by rw [HBw.out]; exact Nat.le_refl _)))
        cases e
        obtain ⟨g, f, rfl, hg, q0, q1, q2, -⟩ := rd hi hn
        have HH := Lib.hid (Pl.has_at (n := n) hn)
        clear rd
        generalize L[hi].n = xn at *
        generalize L[hi].v = xv at *
        generalize L[hi].up = xu at *
        have CC := Lib.hid (fun z => compare_any xn xv n v xu u z)
        obtain ⟨sg, hsg⟩ : ∃ sg, Pl.sgn xn n = sg := ⟨_, rfl⟩
        rw [hsg] at CC HH
        clear hsg
        have i5 : (hi : Int) < (L.length : Int) := by omega
        have i9 : decide ((hi : Int) < (L.length : Int)) = true := by simp; omega
        have HC := Lib.hid (fun z (k : Below wr.heap.size wr z) => (show z.cell? ⟨g, f + hi * 3, none⟩ = some (.int .i64 xn) ∧ z.cell? ⟨g, f + hi * 3 + 1, none⟩ = some (.int .i64 xv) ∧ z.cell? ⟨g, f + hi * 3 + 2, none⟩ = some (.bool xu) ∧ z.cell? ⟨B, 0, none⟩ = some (.int .i64 n) ∧ z.cell? ⟨B, 1, none⟩ = some (.int .i64 v) ∧ z.cell? ⟨B, 2, none⟩ = some (.bool u) from
          ⟨(k.cell (p := ⟨_, _, none⟩) (Sl.lt q0)).trans q0, (k.cell (p := ⟨_, _, none⟩) (Sl.lt q1)).trans q1, (k.cell (p := ⟨_, _, none⟩) (Sl.lt q2)).trans q2, (k.cell (p := ⟨_, _, none⟩) (Sl.lt p0)).trans p0, (k.cell (p := ⟨_, _, none⟩) (Sl.lt p1)).trans p1, (k.cell (p := ⟨_, _, none⟩) (Sl.lt p2)).trans p2⟩))
        have kd : Below wr.heap.size wr wr.drew := Below.drewN (Below.refl _ _) 1
        have KBd := Lib.hid (show ∀ z, Below wr.heap.size wr z → Below w.heap.size w z from fun z k => by
          have a := KB.out
          rw [← HBw.out] at a
          exact a.trans (k.mono a.size))
        have HH2 := Lib.hid (show ∀ r : Bool, r = (sg == 0) → r = Pl.has L n hi from fun r e => by rw [e, HH.out, Bool.eq_iff_iff]; simp)
        clear KB PB
        go_upto_region 8 with fail
        go_cut [6, 7] (fun v6 v7 z => v6 = .int .i64 hi ∧ v7 = .bool (sg == 0) ∧ Hid (Below wr.heap.size wr z))
        case first =>
          go_region_held3 (fun w' => w'.cell? ⟨g, f + hi * 3, none⟩ = some (.int .i64 xn) ∧ w'.cell? ⟨g, f + hi * 3 + 1, none⟩ = some (.int .i64 xv) ∧ w'.cell? ⟨g, f + hi * 3 + 2, none⟩ = some (.bool xu) ∧ w'.cell? ⟨B, 0, none⟩ = some (.int .i64 n) ∧ w'.cell? ⟨B, 1, none⟩ = some (.int .i64 v) ∧ w'.cell? ⟨B, 2, none⟩ = some (.bool u))
            (first | (exact ⟨q0, q1, q2, p0, p1, p2⟩) | (with_reducible exact s12) | (with_reducible assumption))
            (first
            | (go_at_call 25; (with_reducible refine (CC.out _).mono ?_); rintro e z1 ⟨rfl, k1⟩; have K1 := Lib.hid (kd.trans (k1.mono kd.size)); have s12 := HC.out z1 K1.out; clear k1))
          go_wp2_with fail
          go_meet
          exact ⟨rfl, rfl, K1⟩
        case rest =>
        obtain ⟨rfl, rfl, K1⟩ := hcut
        go_wp2_with fail
        go_ret2
        exact ⟨hi, by rw [← HH2.out _ rfl]; rfl, HPL.out, KBd.out _ K1.out⟩
      · obtain rfl : hi = L.length := by omega
        have HH := Lib.hid (Pl.has_no (L := L) (n := n) (Nat.le_refl _))
        have i9 : decide ((L.length : Int) < (L.length : Int)) = false := by simp
        have KBd := Lib.hid (show Below w.heap.size w wr from by
          have a := KB.out
          rw [← HBw.out] at a
          exact a)
        go_upto_region 8 with fail
        go_quiet (fail)
        go_wp2_with fail
        go_ret2
        exact ⟨L.length, by rw [HH.out]; rfl, HPL.out, Below.drewN KBd.out _⟩
theorem find_any (vv : Value) (L : List Mb) (n : Int) (w : World) (h : IsMs w vv L) (hr : Pl.Ris L) (hl : L.length ≤ 100000) :
    Calls Tryd.prog 20 #[vv, .int .i64 n] w fun e w' => ∃ i : Nat, e = .returned (.tuple #[.int .i64 i, .bool (Pl.has L n i)]) ∧ Pl.Place L n i ∧ Below w.heap.size w w' := by
  obtain ⟨oa, cp, rfl, -, -, -, -⟩ := ms_read h
  have BS := Lib.hid (bsearch_any oa cp L n 0 false w h hr hl)
  clear h hr
  go_enter Tryd.func20, Tryd.ntmps20
  go_wp2_with (go_at_call 24; (with_reducible refine BS.out.mono ?_); rintro e w2 ⟨i, rfl, hp, k⟩; have HP := Lib.hid hp; have K := Lib.hid k; clear hp k)
  go_ret2
  exact ⟨_, rfl, HP.out, K.out⟩
end Go.Proofs.YtnbcajciobfljaaDoor
