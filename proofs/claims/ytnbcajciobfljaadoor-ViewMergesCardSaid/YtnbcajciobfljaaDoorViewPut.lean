import Derived.Test.YtnbcajciobfljaaDoorViewFind
import Derived.Test.YtnbcajciobfljaaDoorMbIns
import Derived.Test.YtnbcajciobfljaaDoorAppend
import Derived.Lib.LazyBuf
/-! view.put; slices.Clone of members. -/
namespace Go.Proofs.YtnbcajciobfljaaDoor
open Go.RowKit
set_option linter.unusedVariables false
set_option linter.unusedSimpArgs false
theorem nilMbs (a : Option Addr) (n c : Nat) (w : World) : (binOp .eql 22 (.slice a n c) (.slice none 0 0)).run Tryd.prog w = .ok (.bool a.isNone) w :=
  run_eql_slice_nil w _ _ a n c Tryd.underlying22
theorem own_empty {w : World} {M g : Nat} (h : w.heap[g]? = some (.cells #[] 30 (0, 0))) (hM : M ≤ g) : mbK.Own w M (.slice (some ⟨g, 0, none⟩) 0 0) [] :=
  ⟨rfl, .inr ⟨g, 0, #[], rfl, hM, h, Nat.le_refl _, by unfold maxLen; omega, rfl, rfl⟩⟩
set_option maxHeartbeats 2000000 in
theorem cloneMb_any (v : Value) (L : List Mb) (w : World) (hv : IsMs w v L) (hl : L.length ≤ 1000) :
    Calls Tryd.prog 18 #[v] w fun e w' => ∃ v', e = .returned v' ∧ mbK.Own w' w.heap.size v' L ∧ Below w.heap.size w w' := by
  obtain ⟨i0, hi, hz0, hz1, hz2⟩ := info_parts infoMb
  have enil := nilMbs
  rcases hv.1 with ⟨rfl, oa, cap, rfl, hm, hn⟩ | ⟨b, off, cap, rfl, hlc, hm, hc⟩
  · rcases oa with _ | a
    · have := hn rfl
      subst this
      go_enter Tryd.func18, Tryd.ntmps18
      go_wp2
      go_ret
      exact ⟨_, rfl, RecK.Own.nil _ _, Below.refl _ _⟩
    · have OE := Lib.hid (own_empty (obj_new w (.cells #[] 30)) (Nat.le_refl _))
      go_enter Tryd.func18, Tryd.ntmps18
      go_wp2_with (at_builtin; refine Lib.wpList_append_run _ rfl (.tmp 5) (.tmp 6) 22 22 rfl _ _ rfl rfl _ _ (run_clone_none _ 22 _ 30 i0 Tryd.underlying22 hi _ _ cap) ?_)
      go_ret
      exact ⟨_, rfl, OE.out, (Below.refl _ _).alloc (Nat.le_refl _) _⟩
  · by_cases h0 : L = []
    · subst h0
      have OE := Lib.hid (own_empty (obj_new w (.cells #[] 30)) (Nat.le_refl _))
      go_enter Tryd.func18, Tryd.ntmps18
      go_wp2_with (at_builtin; refine Lib.wpList_append_run _ rfl (.tmp 5) (.tmp 6) 22 22 rfl _ _ rfl rfl _ _ (run_clone_none _ 22 _ 30 i0 Tryd.underlying22 hi _ _ cap) ?_)
      go_ret
      exact ⟨_, rfl, OE.out, (Below.refl _ _).alloc (Nat.le_refl _) _⟩
    · have hp : 0 < L.length := List.length_pos_iff.2 h0
      have hb : b < w.heap.size := Sl.lt (hc 0 hp 0 _ rfl)
      have hcell : ∀ W : World, Below w.heap.size w W → ∀ (j : Nat) u, (mbK.all L)[j]? = some u → W.cell? ((⟨b, off, none⟩ : Addr).add j) = some u := by
        intro W hW j u hu
        have hj : j < L.length * 3 := by have := (List.getElem?_eq_some_iff.1 hu).1; rw [mb_len] at this; exact this
        rw [Addr.add_lit, hW.cell (p := ⟨b, off + j, none⟩) hb]
        have hq : j / 3 < L.length := by omega
        have e := hc (j / 3) hq (j % 3)
        rw [show off + (j / 3 * 3 + j % 3) = off + j by omega] at e
        refine e u ?_
        have := RecK.all_at mbK mbK_ok L (j / 3) L[j / 3] (List.getElem?_eq_getElem hq) (j % 3) (Nat.mod_lt _ (by decide))
        rw [show mbK.n = 3 from rfl, show j / 3 * 3 + j % 3 = j by omega, hu] at this
        exact this.symm
      have run := fun (W : World) (hW : Below w.heap.size w W) (base : Option Addr) => run_clone_own (P := Tryd.prog) W 22 22 30 i0 _ 3 24 Tryd.underlying22 hi hz0 hz1 hz2 rfl (by decide) base ⟨b, off, none⟩ L.length cap (mbK.all L) (mb_len L) (hcell W hW) (fun u hu => RecK.all_one' mbK mbK_ok _ u hu) (by unfold maxLen; omega) (by omega) hp
      have Run := Lib.hid run
      have key : ∀ (W : World) (hW : Below w.heap.size w W) v' w', w'.ownsRow W.heap.size 30 3 v' L.length (mbK.all L) → W.grownBy w' none → mbK.Own w' w.heap.size v' L ∧ Below w.heap.size w w' := fun W hW v' w' h1 h2 => ⟨by
          refine ⟨h1.1, ?_⟩
          rcases h1.2 with h | ⟨g, cap, cur, e, a1, a2⟩
          · exact .inl h
          · exact .inr ⟨g, cap, cur, e, Nat.le_trans hW.size a1, a2⟩, hW.trans ((below_grown h2).mono hW.size)⟩
      have Key := Lib.hid key
      clear run key hcell hc hv
      go_enter Tryd.func18, Tryd.ntmps18
      go_wp2_with (at_builtin; obtain ⟨v', w', hr, ho, hg⟩ := Run.out (w.alloc (.cells #[] 30)) ((Below.refl _ _).alloc (Nat.le_refl _) _) (some ⟨w.heap.size, 0, none⟩); refine Lib.wpList_append_run _ rfl (.tmp 5) (.tmp 6) 22 22 rfl _ _ rfl rfl _ _ hr ?_)
      go_ret
      exact ⟨_, rfl, Key.out _ ((Below.refl _ _).alloc (Nat.le_refl _) _) _ _ ho hg⟩
theorem set3 (l : List Value) (k : Nat) (a b c : Value) (h : k + 3 ≤ l.length) : ((l.set k a).set (k + 1) b).set (k + 2) c = l.take k ++ [a, b, c] ++ l.drop (k + 3) := by
  apply List.ext_getElem?
  intro j
  have hm : min k l.length = k := by omega
  simp only [List.getElem?_set, List.getElem?_append, List.getElem?_take, List.length_take, List.length_append, List.length_set, List.getElem?_drop, hm, List.length_cons, List.length_nil]
  rcases Nat.lt_trichotomy j k with q | q | q
  · rw [if_neg (by omega), if_neg (by omega), if_neg (by omega), if_pos (by omega), if_pos q, if_pos q]
  · subst q
    rw [if_neg (by omega), if_neg (by omega), if_pos rfl, if_pos (by omega), if_pos (by omega), if_neg (by omega), Nat.sub_self]; rfl
  · by_cases q1 : j = k + 1
    · subst q1
      rw [if_neg (by omega), if_pos rfl, if_pos (by omega), if_pos (by omega), if_neg (by omega), show k + 1 - k = 1 by omega]; rfl
    · by_cases q2 : j = k + 2
      · subst q2
        rw [if_pos rfl, if_pos (by omega), if_pos (by omega), if_neg (by omega), show k + 2 - k = 2 by omega]; rfl
      · rw [if_neg (by omega), if_neg (by omega), if_neg (by omega), if_neg (by omega), show k + 3 + (j - (k + (0 + 1 + 1 + 1))) = j by omega]
theorem own_set {w : World} {M g c i : Nat} {L : List Mb} (m : Mb) (h : mbK.Own w M (.slice (some ⟨g, 0, none⟩) L.length c) L) (hi : i < L.length) :
    mbK.Own (((w.setCell ⟨g, i * 3, none⟩ (.int .i64 m.n)).setCell ⟨g, i * 3 + 1, none⟩ (.int .i64 m.v)).setCell ⟨g, i * 3 + 2, none⟩ (.bool m.up)) M (.slice (some ⟨g, 0, none⟩) L.length c) (L.set i m) := by
  obtain ⟨hMg, hlc, hcm, cur, hg, hs, ht⟩ := own_open h
  have h1 := obj_set hg (i * 3) (.int .i64 m.n)
  have h2 := obj_set h1 (i * 3 + 1) (.int .i64 m.v)
  have h3 := obj_set h2 (i * 3 + 2) (.bool m.up)
  have hcl : L.length * 3 ≤ cur.toList.length := by simp [hs]; omega
  refine own_close (tl := cur.toList.drop (L.length * 3)) hMg h3 (by simp) (by simpa using hlc) hcm (by simp [hs]) ?_
  simp only [Array.toList_setIfInBounds]
  rw [set3 _ _ _ _ _ (by omega)]
  have e1 : cur.toList.take (i * 3) = mbK.all (L.take i) := by
    have := RecK.all_take mbK_ok L i
    rw [show i * mbK.n = i * 3 from rfl, ← ht, List.take_take, Nat.min_eq_left (by omega)] at this
    exact this
  have e2 : cur.toList.drop (i * 3 + 3) = mbK.all (L.drop (i + 1)) ++ cur.toList.drop (L.length * 3) := by
    have := RecK.all_drop mbK_ok L (i + 1)
    rw [show (i + 1) * mbK.n = i * 3 + 3 from by rw [show mbK.n = 3 from rfl]; omega] at this
    rw [← this, ← ht]
    have e : cur.toList = cur.toList.take (L.length * 3) ++ cur.toList.drop (L.length * 3) := (List.take_append_drop _ _).symm
    rw [show cur.toList.drop (i * 3 + 3) = (cur.toList.take (L.length * 3) ++ cur.toList.drop (L.length * 3)).drop (i * 3 + 3) by rw [List.take_append_drop], List.drop_append, List.length_take]
    rw [show i * 3 + 3 - min (L.length * 3) cur.toList.length = 0 by omega, List.drop_zero]
  rw [e1, e2, List.set_eq_take_append_cons_drop, if_pos hi, RecK.all_app, RecK.all_cons]
  simp [mbK, Mb.cells]
end Go.Proofs.YtnbcajciobfljaaDoor
