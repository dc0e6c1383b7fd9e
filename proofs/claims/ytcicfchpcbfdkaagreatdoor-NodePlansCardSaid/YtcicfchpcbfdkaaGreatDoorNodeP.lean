import Derived.Test.YtcicfchpcbfdkaaGreatDoorNode
import Derived.Deep.CutBlock
/-! node: planned, get, fresh. -/
namespace Go.Proofs.YtcicfchpcbfdkaaGreatDoor
open Go.RowKit
set_option linter.unusedVariables false
set_option linter.unusedSimpArgs false
/-- what a plan's numbers may not be -/
def Pl.planBad (id tr par ep : Int) : Prop := ¬ (1 ≤ tr ∧ tr ≤ 8) ∨ (par ≠ -1 ∧ ¬ (0 ≤ par ∧ par ≤ 15)) ∨ par = id ∨ ¬ (0 ≤ ep ∧ ep ≤ 65535)
def Pl.kidBad (id par k : Int) : Prop := ¬ (0 ≤ k ∧ k ≤ 15) ∨ k = id ∨ k = par
instance (id tr par ep : Int) : Decidable (Pl.planBad id tr par ep) := by unfold Pl.planBad; infer_instance
instance (id par k : Int) : Decidable (Pl.kidBad id par k) := by unfold Pl.kidBad; infer_instance
def Pl.planF (id tr par ep : Int) (A : List Int) : Int := if Pl.planBad id tr par ep then 1 else if ∃ k ∈ A, Pl.kidBad id par k then 1 else if A.Nodup then 0 else 7
theorem Pl.nodeOk_iff (n : Int) : Pl.nodeOk n = decide (0 ≤ n ∧ n ≤ 15) := by
  unfold Pl.nodeOk; rw [Bool.decide_and]
theorem take_nextN (l : List Int) (i : Nat) (h : i < l.length) : l.take (i + 1) = l.take i ++ [l[i]] := by
  rw [List.take_add_one]; simp [h]
theorem Pl.nodup_take {A : List Int} {i : Nat} (hi : i < A.length) : (A.take (i + 1)).Nodup ↔ (A.take i).Nodup ∧ A[i] ∉ A.take i := by
  rw [take_nextN A i hi, List.nodup_append]
  constructor
  · rintro ⟨h1, _, h3⟩
    exact ⟨h1, fun h => h3 _ h _ (by simp) rfl⟩
  · rintro ⟨h1, h2⟩
    refine ⟨h1, by simp, fun a ha b hb e => ?_⟩
    simp at hb; subst hb; subst e; exact h2 ha
set_option maxRecDepth 100000 in
set_option maxHeartbeats 4000000 in
theorem nodePlanned_any (b : Nat) (now id last : Int) (T : Nat → Value) (sm pl : Nat) (lt : Value) (tr par ep : Int) (v : Value) (A : List Int) (w : World) (h : NodeAt w b now id last T sm pl lt) (hA : Sl encI w v A) :
    Calls Tryz.prog 32 #[.pointer (some ⟨b, 0, none⟩), .int .i64 tr, .int .i64 par, v, .int .i64 ep] w fun e w' => e = .returned (errV (Pl.planF id tr par ep A)) ∧ w = w' := by
  have HF := Lib.hid (show Pl.planF id tr par ep A = if Pl.planBad id tr par ep then 1 else if ∃ k ∈ A, Pl.kidBad id par k then 1 else if A.Nodup then 0 else 7 from rfl)
  obtain ⟨c0, c1, -⟩ := h.cells
  have hm := hA.len
  unfold maxLen at hm
  obtain ⟨bv, fv, cv, oav, rfl, nv, gv⟩ := hA.shape
  have HSL := Lib.hid (show ∀ i, i < A.length → Sl encI w (.slice oav i cv) (A.take i) ∧ A.length ≤ cv ∧ cv ≤ 9223372036854775807 from fun i hi => by
    have hlt : (A.take i).length = i := by simp; omega
    rcases hA with ⟨h1, _⟩ | ⟨b, off, cap, e, h1, h2, h3⟩
    · subst h1; simp at hi
    · cases e
      unfold maxLen at h2
      refine ⟨.inr ⟨b, off, cv, by rw [hlt], by rw [hlt]; omega, by unfold maxLen; omega, fun j hj => ?_⟩, h1, by omega⟩
      rw [hlt] at hj
      rw [h3 j (by omega), List.getElem_take])
  have GV := Lib.hid gv
  have NV := Lib.hid nv
  have HS := Lib.hid hA
  have TK := Lib.hid (pullTrack_any tr w)
  have NP := Lib.hid (nodeNode_any par w)
  have SQ := Lib.hid (seq_any ep w)
  clear h hA gv nv
  generalize Pl.planF id tr par ep A = F at *
  go_enter Tryz.func32, Tryz.ntmps32
  by_cases hb : Pl.planBad id tr par ep
  · rw [if_pos hb] at HF
    have F1 := Lib.hid HF.out
    clear HF
    have HC : ((decide (1 ≤ tr) && decide (tr ≤ 8)) = false) ∨ ((decide (1 ≤ tr) && decide (tr ≤ 8)) = true ∧ par ≠ -1 ∧ Pl.nodeOk par = false) ∨ ((decide (1 ≤ tr) && decide (tr ≤ 8)) = true ∧ (par = -1 ∨ (par ≠ -1 ∧ Pl.nodeOk par = true)) ∧ par = id) ∨ ((decide (1 ≤ tr) && decide (tr ≤ 8)) = true ∧ (par = -1 ∨ (par ≠ -1 ∧ Pl.nodeOk par = true)) ∧ par ≠ id ∧ Pl.seq ep = false) := by
      unfold Pl.planBad at hb
      rw [Pl.nodeOk_iff, ← Bool.decide_and]
      have hsq : Pl.seq ep = decide (0 ≤ ep ∧ ep ≤ 65535) := by rw [Bool.eq_iff_iff, decide_eq_true_iff]; exact Pl.seq_iff ep
      rw [hsq]
      simp only [decide_eq_false_iff_not, decide_eq_true_eq]
      omega
    clear hb
    generalize (decide (1 ≤ tr) && decide (tr ≤ 8)) = bt at *
    generalize Pl.nodeOk par = bp at *
    generalize Pl.seq ep = bs at *
    have fin : ∀ {x : World}, (Ending.returned (.iface 62 (.int .i64 1)) = .returned (errV F)) := fun {x} => by rw [F1.out]; rfl
    have FIN := Lib.hid (@fin w)
    clear fin
    rcases HC with rfl | ⟨rfl, h1, rfl⟩ | ⟨rfl, h1, rfl⟩ | ⟨rfl, h1, h2, rfl⟩
    · go_wp2_with (go_at_call 37; refine TK.out.mono ?_; rintro e w1 ⟨rfl, rfl⟩)
      go_ret
      exact ⟨FIN.out, rfl⟩
    · have d1 : (par != -1) = true := by simpa using h1
      clear h1
      go_wp2_with (first
        | (go_at_call 37; refine TK.out.mono ?_; rintro e w1 ⟨rfl, rfl⟩)
        | (go_at_call 25; refine NP.out.mono ?_; rintro e w1 ⟨rfl, rfl⟩))
      go_ret
      exact ⟨FIN.out, rfl⟩
    · rcases h1 with rfl | ⟨h1, rfl⟩
      · go_wp2_with (first
          | (go_at_call 37; refine TK.out.mono ?_; rintro e w1 ⟨rfl, rfl⟩)
          | (go_at_call 25; refine NP.out.mono ?_; rintro e w1 ⟨rfl, rfl⟩))
        go_ret
        exact ⟨FIN.out, rfl⟩
      · have d1 : (par != -1) = true := by simpa using h1
        clear h1
        go_wp2_with (first
          | (go_at_call 37; refine TK.out.mono ?_; rintro e w1 ⟨rfl, rfl⟩)
          | (go_at_call 25; refine NP.out.mono ?_; rintro e w1 ⟨rfl, rfl⟩))
        go_ret
        exact ⟨FIN.out, rfl⟩
    · have d2 : (par == id) = false := by simpa using h2
      clear h2
      rcases h1 with rfl | ⟨h1, rfl⟩
      · go_wp2_with (first
          | (go_at_call 37; refine TK.out.mono ?_; rintro e w1 ⟨rfl, rfl⟩)
          | (go_at_call 25; refine NP.out.mono ?_; rintro e w1 ⟨rfl, rfl⟩)
          | (go_at_call 56; refine SQ.out.mono ?_; rintro e w1 ⟨rfl, rfl⟩))
        go_ret
        exact ⟨FIN.out, rfl⟩
      · have d1 : (par != -1) = true := by simpa using h1
        clear h1
        go_wp2_with (first
          | (go_at_call 37; refine TK.out.mono ?_; rintro e w1 ⟨rfl, rfl⟩)
          | (go_at_call 25; refine NP.out.mono ?_; rintro e w1 ⟨rfl, rfl⟩)
          | (go_at_call 56; refine SQ.out.mono ?_; rintro e w1 ⟨rfl, rfl⟩))
        go_ret
        exact ⟨FIN.out, rfl⟩
  · rw [if_neg hb] at HF
    have HC : (decide (1 ≤ tr) && decide (tr ≤ 8)) = true ∧ (par = -1 ∨ (par ≠ -1 ∧ Pl.nodeOk par = true)) ∧ par ≠ id ∧ Pl.seq ep = true := by
      unfold Pl.planBad at hb
      rw [Pl.nodeOk_iff, ← Bool.decide_and]
      have hsq : Pl.seq ep = decide (0 ≤ ep ∧ ep ≤ 65535) := by rw [Bool.eq_iff_iff, decide_eq_true_iff]; exact Pl.seq_iff ep
      rw [hsq]
      simp only [decide_eq_true_eq]
      omega
    clear hb
    generalize (decide (1 ≤ tr) && decide (tr ≤ 8)) = bt at *
    generalize Pl.nodeOk par = bp at *
    generalize Pl.seq ep = bs at *
    obtain ⟨rfl, h1, h2, rfl⟩ := HC
    have d2 : (par == id) = false := by simpa using h2
    clear h2
    go_upto_region 1 with fail
    go_cut [39] from 15 to 39 (fun v z => v = .bool false ∧ w = z)
    case first =>
      rcases h1 with rfl | ⟨h1, rfl⟩
      · go_wp2_with (first
          | (go_at_call 37; refine TK.out.mono ?_; rintro e w1 ⟨rfl, rfl⟩)
          | (go_at_call 25; refine NP.out.mono ?_; rintro e w1 ⟨rfl, rfl⟩)
          | (go_at_call 56; refine SQ.out.mono ?_; rintro e w1 ⟨rfl, rfl⟩))
        go_meet
        exact ⟨rfl, rfl⟩
      · have d1 : (par != -1) = true := by simpa using h1
        clear h1
        go_wp2_with (first
          | (go_at_call 37; refine TK.out.mono ?_; rintro e w1 ⟨rfl, rfl⟩)
          | (go_at_call 25; refine NP.out.mono ?_; rintro e w1 ⟨rfl, rfl⟩)
          | (go_at_call 56; refine SQ.out.mono ?_; rintro e w1 ⟨rfl, rfl⟩))
        go_meet
        exact ⟨rfl, rfl⟩
    case rest =>
    obtain ⟨rfl, rfl⟩ := hcut
    clear c0 TK SQ NP
    have NK := Lib.hid (fun k => nodeNode_any k w)
    go_upto_region 3 with fail
    go_upto_block 0 with fail
    go_cut [10, 12] from 43 to 64 (fun _ _ z => w = z ∧ Hid (∀ k ∈ A, ¬ Pl.kidBad id par k))
    case first =>
      go_upto_region 4 with fail
      go_loopw [12, 43] (fun _ s43 wr => ∃ i : Nat, i ≤ A.length ∧ s43 = .int .i64 i ∧ w = wr ∧ Hid (∀ j (hj : j < i) (hl : j < A.length), ¬ Pl.kidBad id par A[j])) (fun _ s43 _ => A.length - (RowKit.intOf s43).toNat)
      case atStart => exact ⟨0, by omega, rfl, rfl, Lib.hid (fun j hj => by omega)⟩
      case round =>
        as_aux_lemma =>
        obtain ⟨i, hi, rfl, rfl, HN⟩ := hrel
        by_cases hlt : i < A.length
        · have e1 : (i : Int) < (A.length : Int) := by omega
          have hne : A ≠ [] := fun e => by rw [e] at hlt; simp at hlt
          obtain rfl := NV.out hne
          have q : w.cell? ⟨bv, fv + i, none⟩ = some (.int .i64 A[i]) := GV.out i hlt
          have HG := Lib.hid (show ¬ Pl.kidBad id par A[i] → ∀ j (hj : j < i + 1) (hl : j < A.length), ¬ Pl.kidBad id par A[j] from fun h j hj hl => by
            by_cases e : j = i
            · subst e; exact h
            · exact HN.out j (by omega) hl)
          have HB := Lib.hid (show Pl.kidBad id par A[i] → Ending.returned (.iface 62 (.int .i64 1)) = .returned (errV F) from fun h => by
            rw [HF.out, if_pos ⟨_, List.getElem_mem _, h⟩]; rfl)
          generalize A[i] = k at *
          have NP := Lib.hid (NK.out k)
          have HC : (Pl.nodeOk k = false ∧ Pl.kidBad id par k) ∨ (Pl.nodeOk k = true ∧ k = id ∧ Pl.kidBad id par k) ∨ (Pl.nodeOk k = true ∧ k ≠ id ∧ k = par ∧ Pl.kidBad id par k) ∨ (Pl.nodeOk k = true ∧ k ≠ id ∧ k ≠ par ∧ ¬ Pl.kidBad id par k) := by
            rw [Pl.nodeOk_iff]
            unfold Pl.kidBad
            simp only [decide_eq_false_iff_not, decide_eq_true_eq]
            omega
          generalize Pl.nodeOk k = bk at *
          rcases HC with ⟨rfl, hk⟩ | ⟨rfl, h1, hk⟩ | ⟨rfl, h1, h2, hk⟩ | ⟨rfl, h1, h2, hk⟩
          · have FIN := Lib.hid (HB.out hk)
            clear HB HG hk
            go_wp2_with (go_at_call 25; refine NP.out.mono ?_; rintro e w1 ⟨rfl, rfl⟩)
            go_ret
            exact ⟨FIN.out, rfl⟩
          · have FIN := Lib.hid (HB.out hk)
            have d1 : (k == id) = true := by simpa using h1
            clear HB HG hk h1
            go_wp2_with (go_at_call 25; refine NP.out.mono ?_; rintro e w1 ⟨rfl, rfl⟩)
            go_ret
            exact ⟨FIN.out, rfl⟩
          · have FIN := Lib.hid (HB.out hk)
            have d1 : (k == id) = false := by simpa using h1
            have d3 : (k == par) = true := by simpa using h2
            clear HB HG hk h1 h2
            go_wp2_with (go_at_call 25; refine NP.out.mono ?_; rintro e w1 ⟨rfl, rfl⟩)
            go_ret
            exact ⟨FIN.out, rfl⟩
          · have G2 := Lib.hid (HG.out hk)
            have d1 : (k == id) = false := by simpa using h1
            have d3 : (k == par) = false := by simpa using h2
            clear HB HG hk h1 h2
            go_wp2_with (go_at_call 25; refine NP.out.mono ?_; rintro e w1 ⟨rfl, rfl⟩)
            go_roundw
            case measure => simp only [RowKit.intOf]; omega
            case rel => exact ⟨i + 1, by omega, by simp, by first | rfl | trivial, G2⟩
        · have e1 : ¬ (i : Int) < (A.length : Int) := by omega
          have HG := Lib.hid (show ∀ k ∈ A, ¬ Pl.kidBad id par k from fun k hk => by
            obtain ⟨j, hj, rfl⟩ := List.mem_iff_getElem.1 hk
            exact HN.out j (by omega) hj)
          clear hlt
          go_wp2_with fail
          go_meet
          exact ⟨rfl, HG⟩
    case rest =>
    obtain ⟨rfl, HK⟩ := hcut
    have HF2 := Lib.hid (show F = if A.Nodup then 0 else 7 from by rw [HF.out, if_neg]; rintro ⟨k, hk, h⟩; exact HK.out k hk h)
    go_upto_region 10 with fail
    clear HF HK NK
    go_loopw [13, 14, 67] (fun _ _ s67 wr => ∃ i : Nat, i ≤ A.length ∧ s67 = .int .i64 i ∧ w = wr ∧ Hid (A.take i).Nodup) (fun _ _ s67 _ => A.length - (RowKit.intOf s67).toNat)
    case atStart => exact ⟨0, by omega, rfl, rfl, Lib.hid (by simp)⟩
    case round =>
      as_aux_lemma =>
      obtain ⟨i, hi, rfl, rfl, HN⟩ := hrel
      by_cases hlt : i < A.length
      · have e1 : (i : Int) < (A.length : Int) := by omega
        have hne : A ≠ [] := fun e => by rw [e] at hlt; simp at hlt
        obtain rfl := NV.out hne
        have q : w.cell? ⟨bv, fv + i, none⟩ = some (.int .i64 A[i]) := GV.out i hlt
        obtain ⟨hs1, hs2, hs3⟩ := HSL.out i hlt
        have CT := Lib.hid (containsI_any _ _ A[i] w hs1)
        have HT := Lib.hid (Pl.nodup_take hlt)
        have HB := Lib.hid (show A[i] ∈ A.take i → Ending.returned (.iface 62 (.int .i64 7)) = .returned (errV F) from fun h => by
          rw [HF2.out, if_neg]; rfl
          intro hn
          have h2 : (A.take (i + 1)).Nodup := hn.sublist (List.take_sublist _ _)
          exact (HT.out.1 h2).2 h)
        clear hs1
        have i2 : (i : Int) ≤ (cv : Int) := by omega
        have i3 : i ≤ cv := by omega
        by_cases hx : A[i] ∈ A.take i
        · have FIN := Lib.hid (HB.out hx)
          rw [decide_eq_true hx] at CT
          clear HB HT hx
          generalize A[i] = k at *
          go_wp2_with (go_at_call 47; (with_reducible refine CT.out.mono ?_); rintro e w1 ⟨rfl, rfl⟩)
          go_ret
          exact ⟨FIN.out, rfl⟩
        · have G2 := Lib.hid (HT.out.2 ⟨HN.out, hx⟩)
          rw [decide_eq_false hx] at CT
          clear HB HT hx
          generalize A[i] = k at *
          go_wp2_with (go_at_call 47; (with_reducible refine CT.out.mono ?_); rintro e w1 ⟨rfl, rfl⟩)
          go_roundw
          case measure => simp only [RowKit.intOf]; omega
          case rel => exact ⟨i + 1, by omega, by simp, by first | rfl | trivial, G2⟩
      · have e1 : ¬ (i : Int) < (A.length : Int) := by omega
        have hie : i = A.length := by omega
        subst hie
        rw [List.take_length] at HN
        have FIN := Lib.hid (show Ending.returned Value.nilIface = .returned (errV F) from by rw [HF2.out, if_pos HN.out]; rfl)
        clear hlt
        go_wp2_with fail
        go_ret
        exact ⟨FIN.out, rfl⟩
end Go.Proofs.YtcicfchpcbfdkaaGreatDoor
