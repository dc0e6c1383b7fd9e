import Derived.Test.YtmmfnalcdekkbaaDoorTreePath
import Derived.Laws.OwnMore
/-! tree's Kids, Path, Cost; slices.Reverse. -/
namespace Go.Proofs.YtmmfnalcdekkbaaDoor
open Go.RowKit
set_option linter.unusedVariables false
set_option linter.unusedSimpArgs false
/-- turned round up to i -/
def revTo (A : List Int) (i : Nat) : List Int := (List.range A.length).map (fun k => if k < i ∨ A.length - i ≤ k then A.getD (A.length - 1 - k) 0 else A.getD k 0)
theorem revTo_len (A : List Int) (i : Nat) : (revTo A i).length = A.length := by simp [revTo]
theorem revTo_at (A : List Int) (i k : Nat) (hk : k < A.length) : (revTo A i)[k]? = some (if k < i ∨ A.length - i ≤ k then A.getD (A.length - 1 - k) 0 else A.getD k 0) := by simp [revTo, hk]
theorem revTo_zero (A : List Int) : revTo A 0 = A := by
  refine List.ext_getElem (revTo_len A 0) (fun k h1 h2 => ?_)
  have := revTo_at A 0 k h2
  rw [List.getElem?_eq_getElem h1] at this
  rw [Option.some.inj this, if_neg (by omega)]
  simp [List.getD, h2]
theorem revTo_next (A : List Int) (i : Nat) (hi : i < A.length - 1 - i) : ((revTo A i).set i (A.getD (A.length - 1 - i) 0)).set (A.length - 1 - i) (A.getD i 0) = revTo A (i + 1) := by
  refine List.ext_getElem (by simp [revTo_len]) (fun k h1 h2 => ?_)
  rw [revTo_len] at h2
  have e1 := revTo_at A (i + 1) k h2
  rw [List.getElem?_eq_getElem (by rw [revTo_len]; exact h2)] at e1
  rw [Option.some.inj e1]
  have e0 := revTo_at A i k h2
  rw [List.getElem?_eq_getElem (by rw [revTo_len]; exact h2)] at e0
  rw [List.getElem_set, List.getElem_set]
  by_cases a : A.length - 1 - i = k
  · rw [if_pos a, if_pos (by omega), show A.length - 1 - k = i by omega]
  · rw [if_neg a]
    by_cases b : i = k
    · subst b; rw [if_pos rfl, if_pos (by omega)]
    · rw [if_neg b, Option.some.inj e0]
      by_cases c : k < i ∨ A.length - i ≤ k
      · rw [if_pos c, if_pos (by omega)]
      · rw [if_neg c, if_neg (by omega)]
theorem revTo_done (A : List Int) (i : Nat) (hi : ¬ i < A.length - 1 - i) (hA : 0 < A.length) (hi2 : i ≤ A.length) : revTo A i = A.reverse := by
  refine List.ext_getElem (by simp [revTo_len]) (fun k h1 h2 => ?_)
  rw [revTo_len] at h1
  have e1 := revTo_at A i k h1
  rw [List.getElem?_eq_getElem (by rw [revTo_len]; exact h1)] at e1
  rw [Option.some.inj e1, List.getElem_reverse]
  by_cases c : k < i ∨ A.length - i ≤ k
  · rw [if_pos c]; simp [List.getD]; rw [List.getElem?_eq_getElem (by omega)]; rfl
  · rw [if_neg c]
    have : A.length - 1 - k = k := by omega
    simp [List.getD, this, h1]
theorem ORow.at_ {w : World} {M g : Nat} {cap : Nat} {A : List Int} {n : Nat} (h : ORow w M (.slice (some ⟨g, 0, none⟩) n cap) A) (k : Nat) (hk : k < A.length) : w.cell? ⟨g, k, none⟩ = some (.int .i64 (A.getD k 0)) := by
  have := World.ownsRow.cells h (g := g) rfl k (encI A[k]) (by simp [hk])
  rw [Addr.add_lit, Nat.zero_add] at this
  rw [this]; simp [List.getD, hk]
theorem ORow.put {w : World} {M g : Nat} {cap : Nat} {A : List Int} {n : Nat} (h : ORow w M (.slice (some ⟨g, 0, none⟩) n cap) A) (k : Nat) (v : Int) : ORow (w.setCell ⟨g, k, none⟩ (.int .i64 v)) M (.slice (some ⟨g, 0, none⟩) n cap) (A.set k v) := by
  have hn : n = A.length := by
    rcases h.2 with ⟨e, _⟩ | ⟨g', cap', cur, e, _⟩
    · cases e
    · cases e; rfl
  subst hn
  obtain ⟨s1, _⟩ := World.ownsRow.stored h k (.int .i64 v)
  unfold ORow
  rw [List.length_set, List.map_set]
  exact s1
theorem ORow.lower {w : World} {M M' : Nat} {v : Value} {A : List Int} (h : ORow w M v A) (hM : M' ≤ M) : ORow w M' v A := by
  obtain ⟨h1, h2⟩ := h
  refine ⟨h1, ?_⟩
  rcases h2 with h2 | ⟨g, cap, cur, e, hb, hg, hc, hm, hs, ht⟩
  · exact .inl h2
  · exact .inr ⟨g, cap, cur, e, by omega, hg, hc, hm, hs, ht⟩
theorem ORow.free {w : World} {M g : Nat} {cap : Nat} {A : List Int} {n : Nat} (h : ORow w M (.slice (some ⟨g, 0, none⟩) n cap) A) (k : Nat) : w.frozen? ⟨g, k, none⟩ = false := by
  have hn : n = A.length := by
    rcases h.2 with ⟨e, _⟩ | ⟨g', cap', cur, e, _⟩
    · cases e
    · cases e; rfl
  subst hn
  exact World.ownsRow.frozenAt h k
set_option maxRecDepth 100000 in
set_option maxHeartbeats 4000000 in
theorem reverse_own (M g cap : Nat) (A : List Int) (hA : 0 < A.length) (hl : A.length ≤ 100000) (w : World) (h : ORow w M (.slice (some ⟨g, 0, none⟩) A.length cap) A) :
    Calls Tryd.prog 23 #[.slice (some ⟨g, 0, none⟩) A.length cap] w fun e w' => e = .returned (.tuple #[]) ∧ ORow w' M (.slice (some ⟨g, 0, none⟩) A.length cap) A.reverse ∧ KeepsBut g w w' := by
  have H := Lib.hid h
  clear h
  have hw0 : IntKind.i64.wrap ((A.length : Int) - 1) = (A.length : Int) - 1 := by rw [IntKind.wrap_i64]; omega
  go_enter Tryd.func23, Tryd.ntmps23
  go_upto_region 1 with fail
  clear hw0
  go_loopw [2, 3] (fun s2 s3 wr => ∃ i : Nat, i ≤ A.length ∧ (i : Int) ≤ (A.length : Int) - i + 1 ∧ s2 = .int .i64 i ∧ s3 = .int .i64 ((A.length : Int) - 1 - i) ∧ Hid (ORow wr M (.slice (some ⟨g, 0, none⟩) A.length cap) (revTo A i)) ∧ Hid (KeepsBut g w wr)) (fun s2 _ _ => A.length - (intOf s2).toNat)
  case atStart => exact ⟨0, by omega, by omega, rfl, by simp, Lib.hid (by rw [revTo_zero]; exact H.out), Lib.hid (KeepsBut.refl _ _)⟩
  case round =>
    obtain ⟨i, hi, hi2, rfl, hs, RO, KB⟩ := hrel
    by_cases hlt : i < A.length - 1 - i
    · obtain ⟨j, hj⟩ : ∃ j : Nat, A.length - 1 - i = j := ⟨_, rfl⟩
      have hs2 := hs.trans (show Value.int .i64 ((A.length : Int) - 1 - i) = .int .i64 (j : Int) from by congr 1; omega)
      clear hs
      subst hs2
      have NX := Lib.hid (revTo_next A i hlt)
      rw [hj] at NX
      have hij : i < j := by omega
      have hjl : j < A.length := by omega
      have hne : i ≠ j := by omega
      have hne' : j ≠ i := by omega
      have c0 := RO.out.at_ i (by rw [revTo_len]; omega)
      have c1 := RO.out.at_ j (by rw [revTo_len]; omega)
      have f0 : wr.frozen? ⟨g, i, none⟩ = false := RO.out.free i
      have f1 : wr.frozen? ⟨g, j, none⟩ = false := RO.out.free j
      have e0 : (revTo A i).getD i 0 = A.getD i 0 := by rw [List.getD, revTo_at A i i (by omega), if_neg (by omega)]; rfl
      have e1 : (revTo A i).getD j 0 = A.getD j 0 := by rw [List.getD, revTo_at A i j (by omega), if_neg (by omega)]; rfl
      rw [e0] at c0
      rw [e1] at c1
      clear e0 e1
      have hw1 : IntKind.i64.wrap ((j : Int) - 1) = (j : Int) - 1 := by rw [IntKind.wrap_i64]; omega
      have HJ := Lib.hid hj
      clear hj
      have RN : Hid (ORow ((wr.setCell ⟨g, i, none⟩ (.int .i64 (A.getD j 0))).setCell ⟨g, j, none⟩ (.int .i64 (A.getD i 0))).drew M (.slice (some ⟨g, 0, none⟩) A.length cap) (revTo A (i + 1))) := Lib.hid (by
        have := (RO.out.put i (A.getD j 0)).put j (A.getD i 0)
        rw [NX.out] at this
        exact this)
      have KN : Hid (KeepsBut g w ((wr.setCell ⟨g, i, none⟩ (.int .i64 (A.getD j 0))).setCell ⟨g, j, none⟩ (.int .i64 (A.getD i 0))).drew) := Lib.hid (Keeps.drew (KeepsBut.set (KeepsBut.set KB.out _ _) _ _))
      obtain ⟨vi, hvi⟩ : ∃ x, A.getD i 0 = x := ⟨_, rfl⟩
      obtain ⟨vj, hvj⟩ : ∃ x, A.getD j 0 = x := ⟨_, rfl⟩
      rw [hvi] at c0 RN KN
      rw [hvj] at c1 RN KN
      clear hvi hvj NX RO KB
      go_upto_region 3 with fail
      go_region
      go_wp2_with fail
      go_roundw
      case measure => simp [intOf]; omega
      case rel => exact ⟨i + 1, by omega, by omega, by go_num, by have := HJ.out; congr 1; omega, RN, KN⟩
    · have RV := Lib.hid (show ORow wr M (.slice (some ⟨g, 0, none⟩) A.length cap) A.reverse by
        have := RO.out
        rw [revTo_done A i hlt hA hi] at this; exact this)
      clear RO
      by_cases hil : i ≤ A.length - 1
      · obtain ⟨j, hj⟩ : ∃ j : Nat, A.length - 1 - i = j := ⟨_, rfl⟩
        have hs2 := hs.trans (show Value.int .i64 ((A.length : Int) - 1 - i) = .int .i64 (j : Int) from by congr 1; omega)
        clear hs
        subst hs2
        have hij : ¬ i < j := by omega
        clear hj
        go_wp2_with fail
        go_end0
        exact ⟨rfl, RV.out, KB.out⟩
      · have hs2 := hs.trans (show Value.int .i64 ((A.length : Int) - 1 - i) = .int .i64 (-1) from by congr 1; omega)
        clear hs
        subst hs2
        go_wp2_with fail
        go_end0
        exact ⟨rfl, RV.out, KB.out⟩
/-- the fault of a question about parents -/
def PathF (ps : List Int) (x f : Int) : Prop := (f ≠ 0 ∧ TreeF ps f) ∨ (GoodT ps ∧ ¬ (0 ≤ x ∧ x < ps.length) ∧ f = 1) ∨ (GoodT ps ∧ (0 ≤ x ∧ x < ps.length) ∧ f = 0)
theorem treecheck_good (v : Value) (ps : List Int) (w : World) (hv : IsSl w v ps) (hg : GoodT ps) :
    Calls Tryd.prog 21 #[v] w fun e w' => e = .returned .nilIface ∧ Below w.heap.size w w' :=
  (treecheck_any v ps w hv).mono fun e w' ⟨f, h1, h2, h3⟩ => by
    obtain rfl := h2.eq (TreeF.good.2 hg)
    exact ⟨h1, h3⟩
theorem treecheck_bad (v : Value) (ps : List Int) (w : World) (hv : IsSl w v ps) (hg : ¬ GoodT ps) :
    Calls Tryd.prog 21 #[v] w fun e w' => ∃ f : Int, e = .returned (.iface 42 (.int .i64 f)) ∧ (f ≠ 0 ∧ TreeF ps f) ∧ Below w.heap.size w w' :=
  (treecheck_any v ps w hv).mono fun e w' ⟨f, h1, h2, h3⟩ => by
    have hf : f ≠ 0 := fun e => by subst e; exact hg (TreeF.good.1 h2)
    rw [errV_hit _ hf] at h1
    exact ⟨f, h1, ⟨hf, h2⟩, h3⟩
def kidsL (ps : List Int) (x : Int) (k : Nat) : List Int := ((List.range k).filter (fun i => decide (atL ps i = x))).map (fun (i : Nat) => (i : Int))
theorem kidsL_hit (ps : List Int) (x : Int) (k : Nat) (h : atL ps k = x) : kidsL ps x (k + 1) = kidsL ps x k ++ [(k : Int)] := by simp [kidsL, List.range_succ, h]
theorem kidsL_miss (ps : List Int) (x : Int) (k : Nat) (h : atL ps k ≠ x) : kidsL ps x (k + 1) = kidsL ps x k := by simp [kidsL, List.range_succ, h]
theorem kidsL_len (ps : List Int) (x : Int) (k : Nat) : (kidsL ps x k).length ≤ k := by
  unfold kidsL
  rw [List.length_map]
  have := List.length_filter_le (fun i => decide (atL ps i = x)) (List.range k)
  simpa using this
set_option maxRecDepth 100000 in
set_option maxHeartbeats 4000000 in
theorem treeKids_any (v : Value) (ps : List Int) (x : Int) (w : World) (hv0 : IsSl w v ps) :
    Calls Tryd.prog 12 #[v, .int .i64 x] w fun e w' => ∃ (f : Int) (v' : Value), PathF ps x f ∧ e = .returned (.tuple #[v', errV f]) ∧ ORow w' w.heap.size v' (if f = 0 then kidsL ps x ps.length else []) ∧ Below w.heap.size w w' := by
  obtain ⟨oa, cp, rfl, hm, -⟩ := isl_read hv0
  have HV := Lib.hid hv0
  unfold maxLen at hm
  by_cases hg : GoodT ps
  · have TC := Lib.hid (treecheck_good _ ps w hv0 hg)
    have HG := Lib.hid hg
    have hl := hg.len
    have AM := Lib.hid (fun y => among_any x ps.length y)
    have HA := Lib.hid (Pl.amB_iff x ps.length)
    obtain ⟨r, hr⟩ : ∃ r, Pl.amB x ps.length = r := ⟨_, rfl⟩
    rw [hr] at AM HA
    clear hr hg hv0
    cases r
    · have HF := Lib.hid (show PathF ps x 1 from .inr (.inl ⟨HG.out, fun h => (by have := HA.out.2 h; cases this), rfl⟩))
      go_enter Tryd.func12, Tryd.ntmps12
      go_wp2_with (first
        | (go_at_call 21; (with_reducible refine TC.out.mono ?_); rintro e w2 ⟨rfl, k⟩; have K := Lib.hid k; clear k)
        | (go_at_call 16; (with_reducible refine (AM.out _).mono ?_); rintro e w3 ⟨rfl, rfl⟩))
      go_ret2
      exact ⟨1, _, HF.out, rfl, World.ownsRow_nil _ _ _ _, K.out⟩
    · have HF := Lib.hid (show PathF ps x 0 from .inr (.inr ⟨HG.out, HA.out.1 rfl, rfl⟩))
      go_enter Tryd.func12, Tryd.ntmps12
      go_upto_region 8 with (first
        | (go_at_call 21; (with_reducible refine TC.out.mono ?_); rintro e w2 ⟨rfl, k⟩; have K := Lib.hid k; clear k)
        | (go_at_call 16; (with_reducible refine (AM.out _).mono ?_); rintro e w3 ⟨rfl, rfl⟩))
      go_loopw [7, 23] (fun s7 s23 wr => ∃ (i : Nat) (A : List Int), i ≤ ps.length ∧ A.length ≤ i ∧ s23 = .int .i64 i ∧ Hid (A = kidsL ps x i) ∧ Hid (ORow wr w.heap.size s7 A) ∧ Hid (Below w.heap.size w wr)) (fun _ s23 _ => ps.length - (intOf s23).toNat)
      case atStart => exact ⟨0, [], by omega, by simp, rfl, Lib.hid rfl, Lib.hid (World.ownsRow_nil _ _ _ _), K⟩
      case round =>
        clear K TC AM
        obtain ⟨i, A, hi, hA, rfl, HE, RO, KB⟩ := hrel
        by_cases hlt : i < ps.length
        · obtain ⟨_, _, e, -, rd⟩ := isl_read (HV.out.below KB.out)
          cases e
          obtain ⟨g, f, rfl, hg, q0⟩ := rd i hlt
          clear rd
          obtain ⟨p, hp⟩ : ∃ p, atL ps i = p := ⟨_, rfl⟩
          have HPi := Lib.hid hp
          rw [hp] at q0
          clear hp
          by_cases hpx : p = x
          · have d : (p == x) = true := by simp [hpx]
            have HE2 := Lib.hid (show A ++ [(i : Int)] = kidsL ps x (i + 1) by rw [kidsL_hit ps x i (HPi.out.trans hpx), HE.out])
            clear hpx
            have roA : Hid ((wr.alloc (.cells #[.int .i64 (i : Int)] 3)).ownsRow w.heap.size 3 1 u7 A.length (A.map encI)) := Lib.hid (RO.out.alloc _)
            have kA : Hid (Below w.heap.size w (wr.alloc (.cells #[.int .i64 (i : Int)] 3))) := Lib.hid (KB.out.alloc KB.out.size _)
            have RUN := Lib.hid (run_moreInt2 _ w.heap.size u7 (i : Int) A.length (A.map encI) roA.out wr.heap.size (obj_new _ _) (by omega) (by have := KB.out.size; simp; omega))
            have hgb : Hid (∀ g, u7.ownBlock = some g → w.heap.size ≤ g) := Lib.hid (fun g e => (RO.out.lt g e).1)
            clear RO HE
            go_upto_region 12 with (at_builtin; obtain ⟨vN, wN, hr, ho, hgr, hbk⟩ := RUN.out; obtain ⟨gN, capN, rfl⟩ := Joins.ownsRow_form ho (by omega); refine Lib.wpList_append_run _ rfl (.tmp 31) (.tmp 33) 23 23 rfl _ _ rfl rfl _ _ hr ?_)
            have RO : Hid (ORow wN w.heap.size (.slice (some ⟨gN, 0, none⟩) (A.length + 1) capN) (A ++ [(i : Int)])) := Lib.hid (by unfold ORow; rw [List.map_append, List.length_append]; exact ho)
            have KN : Hid (Below w.heap.size w wN) := Lib.hid ⟨hgr.os.trans kA.out.os, hgr.tape.trans kA.out.tape, hgr.output.trans kA.out.output, Nat.le_trans kA.out.size hgr.size, fun j hj => (hgr.block j (Nat.lt_of_lt_of_le hj kA.out.size) (fun e => by have := hgb.out j e.symm; omega)).trans (kA.out.block j hj)⟩
            clear hr ho hgr hbk RUN roA kA hgb q0
            go_wp2_with fail
            go_roundw
            case measure => simp [intOf]; omega
            case rel => exact ⟨i + 1, A ++ [(i : Int)], by omega, by simp; omega, by go_num, HE2, RO, KN⟩
          · have d : (p == x) = false := by simp [hpx]
            have HE2 := Lib.hid (show A = kidsL ps x (i + 1) by rw [kidsL_miss ps x i (by rw [HPi.out]; exact hpx), HE.out])
            clear hpx
            go_wp2_with fail
            go_roundw
            case measure => simp [intOf]; omega
            case rel => exact ⟨i + 1, A, by omega, by omega, by go_num, HE2, RO, KB⟩
        · obtain ⟨o7, c7, hv7, -⟩ := isl_read RO.out.sl
          subst hv7
          have HE2 := Lib.hid (show A = kidsL ps x ps.length by rw [HE.out, show i = ps.length by omega])
          go_wp2_with fail
          go_ret2
          exact ⟨0, _, HF.out, rfl, by rw [if_pos rfl, ← HE2.out]; exact RO.out, KB.out⟩
  · have TC := Lib.hid (treecheck_bad _ ps w hv0 hg)
    clear hg hv0
    go_enter Tryd.func12, Tryd.ntmps12
    go_wp2_with (go_at_call 21; (with_reducible refine TC.out.mono ?_); rintro e w2 ⟨f, rfl, hf, k⟩; have K := Lib.hid k; have HF := Lib.hid hf; clear k hf)
    go_ret2
    exact ⟨f, _, .inl HF.out, by rw [errV_hit _ HF.out.1]; rfl, by rw [if_neg HF.out.1]; exact World.ownsRow_nil _ _ _ _, K.out⟩
theorem upOf_ne (ps : List Int) (x : Int) (h : 0 ≤ x) : 0 < (upOf ps x).length := by
  unfold upOf
  rw [Pl.upL, if_neg (by omega)]; simp
set_option maxRecDepth 100000 in
set_option maxHeartbeats 4000000 in
theorem treePath_any (v : Value) (ps : List Int) (x : Int) (w : World) (hv0 : IsSl w v ps) :
    Calls Tryd.prog 13 #[v, .int .i64 x] w fun e w' => ∃ (f : Int) (v' : Value), PathF ps x f ∧ e = .returned (.tuple #[v', errV f]) ∧ ORow w' w.heap.size v' (if f = 0 then (upOf ps x).reverse else []) ∧ Below w.heap.size w w' := by
  obtain ⟨oa, cp, rfl, hm, -⟩ := isl_read hv0
  have HV := Lib.hid hv0
  unfold maxLen at hm
  by_cases hg : GoodT ps
  · have TC := Lib.hid (treecheck_good _ ps w hv0 hg)
    have HG := Lib.hid hg
    have hl := hg.len
    have AM := Lib.hid (fun y => among_any x ps.length y)
    have HA := Lib.hid (Pl.amB_iff x ps.length)
    obtain ⟨r, hr⟩ : ∃ r, Pl.amB x ps.length = r := ⟨_, rfl⟩
    rw [hr] at AM HA
    clear hr hg hv0
    cases r
    · have HF := Lib.hid (show PathF ps x 1 from .inr (.inl ⟨HG.out, fun h => (by have := HA.out.2 h; cases this), rfl⟩))
      go_enter Tryd.func13, Tryd.ntmps13
      go_wp2_with (first
        | (go_at_call 21; (with_reducible refine TC.out.mono ?_); rintro e w2 ⟨rfl, k⟩; have K := Lib.hid k; clear k)
        | (go_at_call 16; (with_reducible refine (AM.out _).mono ?_); rintro e w3 ⟨rfl, rfl⟩))
      go_ret2
      exact ⟨1, _, HF.out, rfl, World.ownsRow_nil _ _ _ _, K.out⟩
    · have HF := Lib.hid (show PathF ps x 0 from .inr (.inr ⟨HG.out, HA.out.1 rfl, rfl⟩))
      have hx := HA.out.1 rfl
      have UP := Lib.hid (fun y (kk : Below w.heap.size w y) => treeUp_any (.slice oa ps.length cp) ps x y (HV.out.below kk) (by omega) HG.out.ok hx.2)
      rw [show Pl.upL (atL ps) (ps.length + 1) x = upOf ps x from rfl] at UP
      have hne := upOf_ne ps x hx.1
      have hle : (upOf ps x).length ≤ ps.length + 1 := Pl.upL_len _ _ _
      obtain ⟨A, hA⟩ : ∃ A, upOf ps x = A := ⟨_, rfl⟩
      rw [hA] at UP hne hle
      have HAx := Lib.hid hA
      clear hA hx
      go_enter Tryd.func13, Tryd.ntmps13
      go_upto_region 6 with (first
        | (go_at_call 21; (with_reducible refine TC.out.mono ?_); rintro e w2 ⟨rfl, k⟩; have K := Lib.hid k; clear k)
        | (go_at_call 16; (with_reducible refine (AM.out _).mono ?_); rintro e w3 ⟨rfl, rfl⟩))
      go_upto_region 7 with (go_at_call 22; (with_reducible refine (UP.out _ K.out).mono ?_); rintro e w4 ⟨v', rfl, ho, k⟩)
      obtain ⟨gN, capN, hvN⟩ := Joins.ownsRow_form ho (by omega)
      subst hvN
      have RO := Lib.hid (ORow.lower ho K.out.size)
      have K4 := Lib.hid (K.out.trans (k.mono K.out.size))
      have HGN := Lib.hid (show w.heap.size ≤ gN from by have := (ho.lt gN rfl).1; have := K.out.size; omega)
      clear ho k
      have RV := Lib.hid (reverse_own w.heap.size gN capN A hne (by omega) w4 RO.out)
      go_wp2_with (go_at_call 23; (with_reducible refine RV.out.mono ?_); rintro e w5 ⟨rfl, ho, k⟩; have RO5 := Lib.hid ho; have K5 := Lib.hid (K4.out.trans (k.below K4.out.size HGN.out)); clear ho k)
      go_ret2
      exact ⟨0, _, HF.out, rfl, by rw [if_pos rfl, HAx.out]; exact RO5.out, K5.out⟩
  · have TC := Lib.hid (treecheck_bad _ ps w hv0 hg)
    clear hg hv0
    go_enter Tryd.func13, Tryd.ntmps13
    go_wp2_with (go_at_call 21; (with_reducible refine TC.out.mono ?_); rintro e w2 ⟨f, rfl, hf, k⟩; have K := Lib.hid k; have HF := Lib.hid hf; clear k hf)
    go_ret2
    exact ⟨f, _, .inl HF.out, by rw [errV_hit _ HF.out.1]; rfl, by rw [if_neg HF.out.1]; exact World.ownsRow_nil _ _ _ _, K.out⟩
end Go.Proofs.YtmmfnalcdekkbaaDoor
