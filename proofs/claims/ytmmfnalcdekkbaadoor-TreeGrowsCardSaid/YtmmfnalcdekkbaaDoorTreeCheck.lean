import Derived.Test.YtmmfnalcdekkbaaDoorOpenEd
import Derived.Test.YtmmfnalcdekkbaaDoorErrE
import Derived.Deep.DeepCutAuto
/-! tree.Check. -/
namespace Go.Proofs.YtmmfnalcdekkbaaDoor
open Go.RowKit
set_option linter.unusedVariables false
set_option linter.unusedSimpArgs false
/-- the world is forgotten but for S -/
theorem abs_t {P : Program} {c : Code} {Q : Exit → Act → World → Prop} {a : Act} {W : World} (S : World → Prop) (h : S W) (k : ∀ wq, S wq → c.wp P Q a wq) : c.wp P Q a W := k W h
def Pl.amB (n m : Int) : Bool := decide (0 ≤ n ∧ n < m)
theorem Pl.amB_iff (n m : Int) : Pl.amB n m = true ↔ 0 ≤ n ∧ n < m := by simp [Pl.amB]
theorem among_any (n m : Int) (w : World) : Calls Tryd.prog 16 #[.int .i64 n, .int .i64 m] w fun e w' => e = .returned (.bool (Pl.amB n m)) ∧ w = w' := by
  unfold Pl.amB
  go_enter Tryd.func16, Tryd.ntmps16
  go_wp2
  all_goals (go_ret; exact ⟨by simp [*]; try omega, rfl⟩)
/-- an edge in memory -/
def EdIn (w : World) (g : Nat) (a b c : Int) : Prop := w.heap[g]? = some (.cells #[.int .i64 a, .int .i64 b, .int .i64 c] 38 (0, 0))
theorem EdIn.cells {w : World} {g : Nat} {a b c : Int} (h : EdIn w g a b c) : w.cell? ⟨g, 0, none⟩ = some (.int .i64 a) ∧ w.cell? ⟨g, 1, none⟩ = some (.int .i64 b) ∧ w.cell? ⟨g, 2, none⟩ = some (.int .i64 c) := ⟨obj_cell h rfl, obj_cell h rfl, obj_cell h rfl⟩
set_option maxHeartbeats 2000000 in
theorem edsame_any (a b c a' b' c' : Int) (w : World) : Calls Tryd.prog 19 #[edV a b c, edV a' b' c'] w fun e w' => e = .returned (.bool (Pl.edSame ⟨a, b, c⟩ ⟨a', b', c'⟩)) ∧ Below w.heap.size w w' := by
  have fin : ∀ r : Bool, (r = true ↔ ((a = a' ∧ b = b') ∨ (a = b' ∧ b = a'))) → Ending.returned (.bool r) = .returned (.bool (Pl.edSame ⟨a, b, c⟩ ⟨a', b', c'⟩)) := fun r h => by
    have : Pl.edSame ⟨a, b, c⟩ ⟨a', b', c'⟩ = r := by
      unfold Pl.edSame
      cases r with
      | false => exact decide_eq_false (fun q => by have := h.2 q; cases this)
      | true => exact decide_eq_true (h.1 rfl)
    rw [this]
  have Fin := Lib.hid fin
  clear fin
  go_enter Tryd.func19, Tryd.ntmps19
  go_wp2
  all_goals
    go_ret
    refine ⟨Fin.out _ ?_, ((Below.refl _ _).alloc (Nat.le_refl _) _).alloc (by simp) _⟩
    simp [*]
    try omega
set_option maxHeartbeats 2000000 in
theorem check1_any (a b c a' b' c' : Int) (B : Nat) (w : World) (h : EdIn w B a b c) : Calls Tryd.prog 18 #[edV a' b' c', .pointer (some ⟨B, 0, none⟩)] w fun e w' => e = .returned (.bool (Pl.edSame ⟨a, b, c⟩ ⟨a', b', c'⟩)) ∧ Below w.heap.size w w' := by
  have S := Lib.hid (fun y => edsame_any a b c a' b' c' y)
  have h2 := obj_old h (.cells #[.int .i64 a', .int .i64 b', .int .i64 c'] 38)
  obtain ⟨q0, q1, q2⟩ := EdIn.cells h2
  have K0 := Lib.hid ((Below.refl w.heap.size w).alloc (Nat.le_refl _) (.cells #[.int .i64 a', .int .i64 b', .int .i64 c'] 38))
  clear h h2
  go_enter Tryd.func18, Tryd.ntmps18
  go_wp2_with (go_at_call 19; (with_reducible refine (S.out _).mono ?_); rintro e w2 ⟨rfl, k⟩; have K := Lib.hid (K0.out.trans (k.mono (by simp))); clear k)
  go_ret
  exact ⟨rfl, K.out⟩
/-- the first of a list that is so -/
def FirstIx {α : Type} (p : α → Bool) (L : List α) (k : Int) : Prop := (k = -1 ∧ ∀ x ∈ L, p x = false) ∨ ∃ j, ∃ h : j < L.length, k = (j : Int) ∧ p L[j] = true ∧ ∀ i (hi : i < j), p (L[i]'(Nat.lt_trans hi h)) = false
theorem FirstIx.any {α : Type} {p : α → Bool} {L : List α} {k : Int} (h : FirstIx p L k) : decide (0 ≤ k) = L.any p := by
  rcases h with ⟨rfl, h⟩ | ⟨j, hj, rfl, h1, h2⟩
  · rw [List.any_eq_false.2 (fun x hx => by simp [h x hx])]; rfl
  · rw [List.any_eq_true.2 ⟨_, List.getElem_mem hj, h1⟩]; simp
set_option maxRecDepth 100000 in
set_option maxHeartbeats 2000000 in
theorem edindex_any (a b c : Int) (B : Nat) (oa : Option Addr) (cp : Nat) (L : List Ed) (w : World) (h : EdIn w B a b c) (hL : IsEds w (.slice oa L.length cp) L) :
    Calls Tryd.prog 25 #[.slice oa L.length cp, .func (.func 18) #[] #[.pointer (some ⟨B, 0, none⟩)]] w fun e w' => ∃ k : Int, e = .returned (.int .i64 k) ∧ FirstIx (Pl.edSame ⟨a, b, c⟩) L k ∧ Below w.heap.size w w' := by
  have hm := hL.1.len
  unfold maxLen at hm
  have HL := Lib.hid hL
  have HB := Lib.hid h
  clear h hL
  go_enter Tryd.func25, Tryd.ntmps25
  go_upto_region 2 with fail
  go_loopw [8] (fun s8 wr => ∃ i : Nat, i ≤ L.length ∧ s8 = .int .i64 i ∧ Hid (∀ j (hj : j < L.length), j < i → Pl.edSame ⟨a, b, c⟩ L[j] = false) ∧ Hid (Below w.heap.size w wr)) (fun s8 _ => L.length - (intOf s8).toNat)
  case atStart => exact ⟨0, by omega, rfl, Lib.hid (fun j _ h => by omega), Lib.hid (Below.refl _ _)⟩
  case round =>
    obtain ⟨i, hi, rfl, HN, KB⟩ := hrel
    by_cases hlt : i < L.length
    · obtain ⟨_, _, e, -, -, rd⟩ := eds_read (HL.out.below KB.out)
      cases e
      obtain ⟨g, f, rfl, hg, q0, q1, q2, -⟩ := rd i hlt
      have CK := Lib.hid (check1_any a b c L[i].a L[i].b L[i].c B wr (Below.heapAt KB.out HB.out (lt_of_block HB.out)))
      have HX := Lib.hid (show ∀ (r : Bool), Pl.edSame ⟨a, b, c⟩ ⟨L[i].a, L[i].b, L[i].c⟩ = r → Pl.edSame ⟨a, b, c⟩ L[i] = r from fun r h => h)
      clear rd
      obtain ⟨xa, hxa⟩ : ∃ x, L[i].a = x := ⟨_, rfl⟩
      obtain ⟨xb, hxb⟩ : ∃ x, L[i].b = x := ⟨_, rfl⟩
      obtain ⟨xc, hxc⟩ : ∃ x, L[i].c = x := ⟨_, rfl⟩
      rw [hxa] at q0 CK HX
      rw [hxb] at q1 CK HX
      rw [hxc] at q2 CK HX
      clear hxa hxb hxc
      obtain ⟨r, hr⟩ : ∃ r, Pl.edSame ⟨a, b, c⟩ ⟨xa, xb, xc⟩ = r := ⟨_, rfl⟩
      have HR := Lib.hid (HX.out r hr)
      rw [hr] at CK
      clear hr HX
      go_upto_region 4 with fail
      cases r
      · go_wp2_with (go_at_call 18; (with_reducible refine CK.out.mono ?_); rintro e w2 ⟨rfl, k⟩; have K := Lib.hid (KB.out.trans (k.mono KB.out.size)); clear k)
        go_roundw
        case measure => simp [intOf]; omega
        case rel => exact ⟨i + 1, by omega, by go_num, Lib.hid (fun j hj hji => by
          by_cases e : j = i
          · subst e; exact HR.out
          · exact HN.out j hj (by omega)), K⟩
      · go_wp2_with (go_at_call 18; (with_reducible refine CK.out.mono ?_); rintro e w2 ⟨rfl, k⟩; have K := Lib.hid (KB.out.trans (k.mono KB.out.size)); clear k)
        go_ret
        exact ⟨_, rfl, .inr ⟨i, hlt, rfl, HR.out, fun j hj => HN.out j (by omega) hj⟩, K.out⟩
    · go_wp2_with fail
      go_ret
      exact ⟨_, rfl, .inl ⟨rfl, fun x hx => by
        obtain ⟨j, hj, rfl⟩ := List.getElem_of_mem hx
        exact HN.out j hj (by omega)⟩, KB.out⟩
set_option maxHeartbeats 2000000 in
theorem edcontains_any (a b c : Int) (B : Nat) (oa : Option Addr) (cp : Nat) (L : List Ed) (w : World) (h : EdIn w B a b c) (n : Nat) (hn : n = L.length) (hL : IsEds w (.slice oa n cp) L) :
    Calls Tryd.prog 17 #[.slice oa n cp, .func (.func 18) #[] #[.pointer (some ⟨B, 0, none⟩)]] w fun e w' => e = .returned (.bool (L.any (Pl.edSame ⟨a, b, c⟩))) ∧ Below w.heap.size w w' := by
  subst hn
  have IX := Lib.hid (edindex_any a b c B oa cp L w h hL)
  clear h hL
  go_enter Tryd.func17, Tryd.ntmps17
  go_wp2_with (go_at_call 25; (with_reducible refine IX.out.mono ?_); rintro e w2 ⟨k, rfl, hk, kb⟩; have HK := Lib.hid hk; have K := Lib.hid kb; clear hk kb)
  go_ret
  exact ⟨ret_bool HK.out.any, K.out⟩
theorem Pl.edFault_ok {n : Int} {L : List Ed} {k : Nat} {e : Ed} (h : Pl.edOk n e = true) (h2 : (L.take k).any (Pl.edSame e) = false) : Pl.edFault n L k e = 0 := by unfold Pl.edFault; rw [if_pos h, if_neg (by rw [h2]; decide)]
theorem Pl.edFault_clash {n : Int} {L : List Ed} {k : Nat} {e : Ed} (h : Pl.edOk n e = true) (h2 : (L.take k).any (Pl.edSame e) = true) : Pl.edFault n L k e = 7 := by unfold Pl.edFault; rw [if_pos h, if_pos h2]
theorem Pl.edFault_bad {n : Int} {L : List Ed} {k : Nat} {e : Ed} (h : Pl.edOk n e = false) : Pl.edFault n L k e = 1 := by unfold Pl.edFault; rw [if_neg (by rw [h]; decide)]
set_option maxRecDepth 100000 in
set_option maxHeartbeats 4000000 in
theorem treeCheck_any (n : Int) (v : Value) (L : List Ed) (w : World) (hL0 : IsEds w v L) :
    Calls Tryd.prog 6 #[.int .i64 n, v] w fun e w' => ∃ f : Int, e = .returned (errV f) ∧ Pl.EdgesF n L f ∧ Below w.heap.size w w' := by
  obtain ⟨oa, cp, rfl, hlc, hcm, -⟩ := eds_read hL0
  have hL : IsEds w (.slice oa L.length cp) L := hL0
  have HL := Lib.hid hL
  unfold maxLen at hcm
  clear hL hL0
  by_cases hn : n < 1 ∨ 16 < n
  · have HF := Lib.hid (show Pl.EdgesF n L 1 by unfold Pl.EdgesF; rw [if_pos hn])
    rcases hn with hn | hn
    · go_enter Tryd.func6, Tryd.ntmps6
      go_wp2_with fail
      go_ret
      exact ⟨1, rfl, HF.out, Below.refl _ _⟩
    · go_enter Tryd.func6, Tryd.ntmps6
      have hn2 : ¬ n < 1 := by omega
      go_wp2_with fail
      go_ret
      exact ⟨1, rfl, HF.out, Below.refl _ _⟩
  by_cases hl : 200 < L.length
  · have HF := Lib.hid (show Pl.EdgesF n L 4 by unfold Pl.EdgesF; rw [if_neg hn, if_pos hl])
    obtain ⟨n1, n2⟩ : 1 ≤ n ∧ n ≤ 16 := by omega
    clear hn
    go_enter Tryd.func6, Tryd.ntmps6
    go_wp2_with fail
    go_ret
    exact ⟨4, rfl, HF.out, Below.refl _ _⟩
  have HG := Lib.hid (show (∀ k (h : k < L.length), Pl.edFault n L k L[k] = 0) → Pl.EdgesF n L 0 from fun h => by unfold Pl.EdgesF; rw [if_neg hn, if_neg hl]; exact .inl ⟨rfl, h⟩)
  have HB := Lib.hid (show ∀ f : Int, f ≠ 0 → ∀ k (h : k < L.length), Pl.edFault n L k L[k] = f → (∀ j (hj : j < k), Pl.edFault n L j (L[j]'(Nat.lt_trans hj h)) = 0) → Pl.EdgesF n L f from fun f hf k h h1 h2 => by unfold Pl.EdgesF; rw [if_neg hn, if_neg hl]; exact .inr ⟨hf, k, h, h1, h2⟩)
  obtain ⟨n1, n2⟩ : 1 ≤ n ∧ n ≤ 16 := by omega
  have hl2 : L.length ≤ 200 := by omega
  clear hn hl
  go_enter Tryd.func6, Tryd.ntmps6
  go_upto_region 6 with fail
  go_loopw [20] (fun s20 wr => ∃ i : Nat, i ≤ L.length ∧ s20 = .int .i64 i ∧ Hid (∀ j (hj : j < L.length), j < i → Pl.edFault n L j L[j] = 0) ∧ Hid (Below w.heap.size w wr)) (fun s20 _ => L.length - (intOf s20).toNat)
  case atStart => exact ⟨0, by omega, rfl, Lib.hid (fun j _ h => by omega), Lib.hid (Below.refl _ _)⟩
  case round =>
    obtain ⟨i, hi, rfl, HN, KB⟩ := hrel
    by_cases hlt : i < L.length
    · obtain ⟨_, _, e, -, -, rd⟩ := eds_read (HL.out.below KB.out)
      cases e
      obtain ⟨g, f, rfl, hg, q0, q1, q2, -⟩ := rd i hlt
      have CC := Lib.hid (fun y (B : Nat) (hB : EdIn y B L[i].a L[i].b L[i].c) (kk : Below w.heap.size w y) => edcontains_any L[i].a L[i].b L[i].c B (some ⟨g, f, none⟩) cp (L.take i) y hB i (by simp; omega) ((HL.out.below kk).take i hi))
      have GE := Lib.hid (show Pl.edOk n ⟨L[i].a, L[i].b, L[i].c⟩ = true → (L.take i).any (Pl.edSame ⟨L[i].a, L[i].b, L[i].c⟩) = false → Pl.edFault n L i L[i] = 0 from fun h h2 => Pl.edFault_ok h h2)
      have GC := Lib.hid (show Pl.edOk n ⟨L[i].a, L[i].b, L[i].c⟩ = true → (L.take i).any (Pl.edSame ⟨L[i].a, L[i].b, L[i].c⟩) = true → Pl.edFault n L i L[i] = 7 from fun h h2 => Pl.edFault_clash h h2)
      have GX := Lib.hid (show Pl.edOk n ⟨L[i].a, L[i].b, L[i].c⟩ = false → Pl.edFault n L i L[i] = 1 from fun h => Pl.edFault_bad h)
      clear rd
      generalize L[i].a = xa at *
      generalize L[i].b = xb at *
      generalize L[i].c = xc at *
      go_upto_region 8 with fail
      obtain ⟨B, hBz⟩ : ∃ B, wr.heap.size = B := ⟨_, rfl⟩
      refine abs_t (fun y => Hid (EdIn y wr.heap.size xa xb xc) ∧ Hid (Below w.heap.size w y)) ⟨Lib.hid (obj_new _ _), Lib.hid (KB.out.alloc KB.out.size _)⟩ ?_
      rw [hBz]
      clear q0 q1 q2 hBz
      rintro y ⟨EB, KY⟩
      obtain ⟨q0, q1, q2⟩ := EB.out.cells
      obtain ⟨ok, hok⟩ : ∃ ok, Pl.edOk n ⟨xa, xb, xc⟩ = ok := ⟨_, rfl⟩
      have HOK := Lib.hid hok
      go_cut [53] from 25 to 53 (fun v z => v = .bool (!ok) ∧ y = z)
      case first =>
        have HA := Lib.hid (Pl.amB_iff xa n)
        have HB2 := Lib.hid (Pl.amB_iff xb n)
        obtain ⟨ba, hba⟩ : ∃ r, Pl.amB xa n = r := ⟨_, rfl⟩
        obtain ⟨bb, hbb⟩ : ∃ r, Pl.amB xb n = r := ⟨_, rfl⟩
        have CA := Lib.hid (fun y => among_any xa n y)
        have CB := Lib.hid (fun y => among_any xb n y)
        rw [hba] at CA HA
        rw [hbb] at CB HB2
        have HE := Lib.hid (show (ok = true ↔ (0 ≤ xa ∧ xa < n ∧ 0 ≤ xb ∧ xb < n ∧ xa ≠ xb ∧ 1 ≤ xc ∧ xc ≤ 1000000)) from by rw [← hok]; simp [Pl.edOk])
        clear hba hbb hok
        by_cases hall : ba = true ∧ bb = true ∧ xa ≠ xb ∧ 1 ≤ xc ∧ xc ≤ 1000000
        · obtain ⟨rfl, rfl, h3, h4, h5⟩ := hall
          have d3 : (xa == xb) = false := by rw [beq_eq_false_iff_ne]; exact h3
          have hk : ok = true := HE.out.2 ⟨(HA.out.1 rfl).1, (HA.out.1 rfl).2, (HB2.out.1 rfl).1, (HB2.out.1 rfl).2, h3, h4, h5⟩
          have HK := Lib.hid hk
          clear h3 hk
          go_wp2_with (first | (go_at_call 16; (with_reducible refine (CA.out _).mono ?_); rintro e w2 ⟨rfl, rfl⟩) | (go_at_call 16; (with_reducible refine (CB.out _).mono ?_); rintro e w2 ⟨rfl, rfl⟩))
          go_meet
          exact ⟨by rw [HK.out]; simp; omega, rfl⟩
        · have hk : ok = false := by
            cases q : ok with
            | false => rfl
            | true =>
              exfalso
              have := HE.out.1 q
              exact hall ⟨HA.out.2 (by omega), HB2.out.2 (by omega), by omega, by omega, by omega⟩
          have HK := Lib.hid hk
          clear hk
          have HALL := Lib.hid hall
          clear hall
          cases ba
          · go_wp2_with (first | (go_at_call 16; (with_reducible refine (CA.out _).mono ?_); rintro e w2 ⟨rfl, rfl⟩) | (go_at_call 16; (with_reducible refine (CB.out _).mono ?_); rintro e w2 ⟨rfl, rfl⟩))
            go_meet
            exact ⟨by rw [HK.out]; rfl, rfl⟩
          · cases bb
            · go_wp2_with (first | (go_at_call 16; (with_reducible refine (CA.out _).mono ?_); rintro e w2 ⟨rfl, rfl⟩) | (go_at_call 16; (with_reducible refine (CB.out _).mono ?_); rintro e w2 ⟨rfl, rfl⟩))
              go_meet
              exact ⟨by rw [HK.out]; rfl, rfl⟩
            · have h5 : (xa == xb) = true ∨ ((xa == xb) = false ∧ xc < 1) ∨ ((xa == xb) = false ∧ 1 ≤ xc ∧ 1000000 < xc) := by
                by_cases e : xa = xb
                · exact .inl (by simp [e])
                · have e2 : (xa == xb) = false := by rw [beq_eq_false_iff_ne]; exact e
                  by_cases e3 : xc < 1
                  · exact .inr (.inl ⟨e2, e3⟩)
                  · refine .inr (.inr ⟨e2, by omega, ?_⟩)
                    by_cases e4 : 1000000 < xc
                    · exact e4
                    · exact absurd ⟨rfl, rfl, e, by omega, by omega⟩ HALL.out
              rcases h5 with h5 | ⟨h5, h6⟩ | ⟨h5, h6, h7⟩
              all_goals
                go_wp2_with (first | (go_at_call 16; (with_reducible refine (CA.out _).mono ?_); rintro e w2 ⟨rfl, rfl⟩) | (go_at_call 16; (with_reducible refine (CB.out _).mono ?_); rintro e w2 ⟨rfl, rfl⟩))
                go_meet
                exact ⟨by rw [HK.out]; rfl, rfl⟩
      case rest =>
      obtain ⟨rfl, rfl⟩ := hcut
      clear hok q0 q1 q2
      cases ok
      · go_wp2_with fail
        go_ret
        exact ⟨1, rfl, HB.out 1 (by decide) i hlt (GX.out HOK.out) (fun j hj => HN.out j (by omega) hj), KY.out⟩
      · have CCy := Lib.hid (CC.out _ B EB.out KY.out)
        obtain ⟨r, hr⟩ : ∃ r, (L.take i).any (Pl.edSame ⟨xa, xb, xc⟩) = r := ⟨_, rfl⟩
        rw [hr] at CCy
        have HR := Lib.hid hr
        have hic : i ≤ cp := by omega
        clear hr
        cases r
        · go_wp2_with (go_at_call 17; (with_reducible refine CCy.out.mono ?_); rintro e w2 ⟨rfl, k⟩; have K := Lib.hid (KY.out.trans (k.mono KY.out.size)); clear k)
          go_roundw
          case measure => simp [intOf]; omega
          case rel => exact ⟨i + 1, by omega, by go_num, Lib.hid (fun j hj hji => by
            by_cases e : j = i
            · subst e; exact GE.out HOK.out HR.out
            · exact HN.out j hj (by omega)), K⟩
        · go_wp2_with (go_at_call 17; (with_reducible refine CCy.out.mono ?_); rintro e w2 ⟨rfl, k⟩; have K := Lib.hid (KY.out.trans (k.mono KY.out.size)); clear k)
          go_ret
          exact ⟨7, rfl, HB.out 7 (by decide) i hlt (GC.out HOK.out HR.out) (fun j hj => HN.out j (by omega) hj), K.out⟩
    · go_wp2_with fail
      go_ret
      exact ⟨0, rfl, HG.out (fun k hk => HN.out k hk (by omega)), KB.out⟩
end Go.Proofs.YtmmfnalcdekkbaaDoor
