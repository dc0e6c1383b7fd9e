import Derived.Test.YthgdkakkbaoccaaDoorPullWant
import Derived.Test.YthgdkakkbaoccaaDoorWantRow
/-! Contracts of package pull: Changed, Ask. -/
namespace Go.Proofs.YthgdkakkbaoccaaDoor
open Go.RowKit Go.Maps Go.Proofs
set_option linter.unusedVariables false
set_option linter.unusedSimpArgs false
/-- n is what is needed -/
def IsNeed (g : Int → Option Int) (n : Int) : Prop := -1 ≤ n ∧ (∀ i x, g i = some x → x ≤ n) ∧ (n = -1 ∨ ∃ i, g i = some n)
theorem IsNeed.unique {g : Int → Option Int} {n m : Int} (h0 : ∀ i x, g i = some x → 0 ≤ x ∧ x ≤ 3) (h : IsNeed g n) (k : IsNeed g m) : n = m := by
  obtain ⟨a, b, c⟩ := h
  obtain ⟨a', b', c'⟩ := k
  rcases c with rfl | ⟨i, hi⟩
  · rcases c' with rfl | ⟨j, hj⟩
    · rfl
    · have := b j m hj; have := h0 j m hj; omega
  · have q1 := b' i n hi
    rcases c' with rfl | ⟨j, hj⟩
    · have := h0 i n hi; omega
    · have := b j m hj; omega
theorem pullNeed_is (M : Nat) (b : Nat) (now th : Int) (mp : Nat → Nat) (told asked : Nat → Int) (C : Nat → Nat) (F : Nat → Int → Option Int) (t : Nat) (ht : 1 ≤ t ∧ t ≤ 8) (hF : ∀ i x, F t i = some x → 0 ≤ x ∧ x ≤ 3) (n : Int) (hn : IsNeed (F t) n) (w : World) (h : Pul M w b now th mp told asked C F) :
    Calls Tryd.prog 44 #[.pointer (some ⟨b, 0, none⟩), .int .i64 t] w fun e w' => e = .returned (.int .i64 n) ∧ Below w.heap.size w w' :=
  (pullNeed_any M b now th mp told asked C F t ht hF w h).mono fun e w' ⟨m, h1, h2, h3, h4, h5⟩ => ⟨by rw [h1, IsNeed.unique hF ⟨h2, h3, h4⟩ hn], h5⟩
/-- what has changed, ahead of k -/
def chgL (nd told : Nat → Int) (k : Nat) : List Wt := ((List.range k).filter (fun t : Nat => decide (1 ≤ t) && decide (nd t + 1 ≠ told t))).map (fun t : Nat => (⟨0, (t : Int), nd t⟩ : Wt))
def toldN (nd told : Nat → Int) (k : Nat) : Nat → Int := fun j => if 1 ≤ j ∧ j < k then nd j + 1 else told j
theorem chgL_one (nd told : Nat → Int) : chgL nd told 1 = [] := by simp [chgL]
theorem chgL_same (nd told : Nat → Int) (k : Nat) (h : nd k + 1 = told k) : chgL nd told (k + 1) = chgL nd told k := by
  simp [chgL, List.range_succ, List.filter_append, h]
theorem chgL_more (nd told : Nat → Int) (k : Nat) (hk : 1 ≤ k) (h : nd k + 1 ≠ told k) : chgL nd told (k + 1) = chgL nd told k ++ [⟨0, k, nd k⟩] := by
  simp [chgL, List.range_succ, List.filter_append, h, hk]
theorem chgL_len (nd told : Nat → Int) (k : Nat) : (chgL nd told k).length ≤ k := by
  unfold chgL; rw [List.length_map]; exact Nat.le_trans (List.length_filter_le _ _) (by simp)
theorem toldN_one (nd told : Nat → Int) : toldN nd told 1 = told := by funext j; unfold toldN; rw [if_neg (by omega)]
theorem toldN_same (nd told : Nat → Int) (k : Nat) (h : nd k + 1 = told k) : toldN nd told (k + 1) = toldN nd told k := by
  funext j; unfold toldN
  by_cases e : j = k
  · subst e; split <;> simp_all
  · by_cases e2 : 1 ≤ j ∧ j < k
    · rw [if_pos (by omega), if_pos e2]
    · rw [if_neg (by omega), if_neg e2]
theorem toldN_more (nd told : Nat → Int) (k : Nat) (hk : 1 ≤ k) : (fun j => if j = k then nd k + 1 else toldN nd told k j) = toldN nd told (k + 1) := by
  funext j; unfold toldN
  by_cases e : j = k
  · subst e; rw [if_pos rfl, if_pos (by omega)]
  · rw [if_neg e]
    by_cases e2 : 1 ≤ j ∧ j < k
    · rw [if_pos e2, if_pos (by omega)]
    · rw [if_neg e2, if_neg (by omega)]
theorem toldN_at (nd told : Nat → Int) (k : Nat) : toldN nd told k k = told k := by unfold toldN; rw [if_neg (by omega)]
theorem Pul.row {M N : Nat} {w1 w2 : World} {b : Nat} {now th : Int} {mp : Nat → Nat} {told asked : Nat → Int} {C : Nat → Nat} {F : Nat → Int → Option Int} {row : Option Nat} (h : Pul M w1 b now th mp told asked C F) (hb : b < N) (hm : ∀ k, k < 9 → mp k < N) (hgr : w1.grownBy w2 row) (hrow : ∀ g, row = some g → N ≤ g) : Pul M w2 b now th mp told asked C F := by
  refine ⟨?_, fun j hj => (h.map j hj).block (hgr.block _ (h.map j hj).lt (fun e => by have := hrow _ e.symm; have := hm j hj; omega)), h.ne, h.inj, h.low⟩
  have e := hgr.block b (lt_of_block h.at_) (fun e => by have := hrow _ e.symm; omega)
  have a := h.at_
  unfold PullAt at *
  rw [e]; exact a
theorem FP.row {w w1 w2 : World} {b : Nat} {mp : Nat → Nat} {row : Option Nat} (kk : FP b mp w w1) (hgr : w1.grownBy w2 row) (hrow : ∀ g, row = some g → w.heap.size ≤ g) : FP b mp w w2 :=
  ⟨hgr.os.trans kk.os, hgr.tape.trans kk.tape, hgr.output.trans kk.output, Nat.le_trans kk.size hgr.size, fun k hk hne => (hgr.block k (Nat.lt_of_lt_of_le hk kk.size) (fun e => by have := hrow _ e.symm; omega)).trans (kk.block k hk hne)⟩
set_option maxRecDepth 100000 in
set_option maxHeartbeats 4000000 in
theorem pullChanged_any (M : Nat) (b : Nat) (now th : Int) (mp : Nat → Nat) (told asked : Nat → Int) (C : Nat → Nat) (F : Nat → Int → Option Int) (hF : ∀ t i x, F t i = some x → 0 ≤ x ∧ x ≤ 3) (nd : Nat → Int) (hnd : ∀ t, 1 ≤ t → t ≤ 8 → IsNeed (F t) (nd t)) (hnl : ∀ t, nd t ≤ 3) (w : World) (hM : M ≤ w.heap.size) (h : Pul M w b now th mp told asked C F) :
    Calls Tryd.prog 41 #[.pointer (some ⟨b, 0, none⟩)] w fun e w' => ∃ v, e = .returned v ∧ WRow w' w.heap.size v (chgL nd told 9) ∧ Pul M w' b now th mp (toldN nd told 9) asked C F ∧ FP b mp w w' := by
  have HF := Lib.hid hF
  have HND := Lib.hid hnd
  have HNL := Lib.hid hnl
  have hblt := lt_of_block h.at_
  have hmlt := Lib.hid (fun k hk => (h.map k hk).lt)
  have h' : Hid (Pul M w b now th mp (toldN nd told 1) asked C F) := Lib.hid (by rw [toldN_one]; exact h)
  clear hF hnd hnl h
  go_enter Tryd.func41, Tryd.ntmps41
  go_wp2_with fail
  go_loopw [3, 4] (fun s3 s4 wr => ∃ k : Nat, 1 ≤ k ∧ k ≤ 9 ∧ s4 = .int .i64 k ∧ Hid (WRow wr w.heap.size s3 (chgL nd told k)) ∧ Hid (Pul M wr b now th mp (toldN nd told k) asked C F) ∧ Hid (FP b mp w wr)) (fun _ s4 _ => 9 - (intOf s4).toNat)
  case atStart => exact ⟨1, by omega, by omega, rfl, Lib.hid (World.ownsRow_nil _ _ _ _), h', Lib.hid (Keeps.refl _ _)⟩
  case round =>
    clear h'
    obtain ⟨k, hk1, hk9, rfl, ro, h, kk⟩ := hrel
    by_cases hlt : k ≤ 8
    · have hsz := kk.out.size
      have NE := Lib.hid (pullNeed_is M b now th mp _ asked C F k ⟨hk1, hlt⟩ (HF.out k) (nd k) (HND.out k hk1 hlt) wr h.out)
      go_upto_region 6 with (go_at_call 44; refine NE.out.mono ?_; rintro e w2 ⟨rfl, k2⟩)
      have h2 := Lib.hid (h.out.below k2)
      have kk2 : Hid (FP b mp w w2) := Lib.hid (Keeps.trans kk.out (Below.toKeeps k2 (Nat.le_refl _)))
      have ro2 := Lib.hid (wantRow_below ro.out k2)
      clear h kk ro k2 NE
      have hn1 := (HND.out k hk1 hlt).1
      have hn3 := HNL.out k
      have hsum : IntKind.i64.wrap (nd k + 1) = nd k + 1 := by rw [IntKind.wrap_i64]; omega
      have ct := h2.out.at_.told_ k (by omega)
      rw [toldN_at] at ct
      have ft := obj_free h2.out.at_ (11 + k)
      by_cases hch : nd k + 1 = told k
      · go_wp2_with fail
        go_roundw
        case measure => simp [intOf]; omega
        case rel => exact ⟨k + 1, by omega, by omega, rfl, by rw [chgL_same nd told k hch]; exact ro2, by rw [toldN_same nd told k hch]; exact h2, kk2⟩
      · have roA : Hid (WRow (w2.alloc (.cells #[.int .i64 0, .int .i64 k, .int .i64 (nd k)] 91)) w.heap.size u3 (chgL nd told k)) := Lib.hid (wantRow_below ro2.out ((Below.refl _ _).alloc (Nat.le_refl _) _))
        have hlen := chgL_len nd told k
        have RUN := Lib.hid (run_moreWant _ w.heap.size u3 ⟨0, k, nd k⟩ (chgL nd told k) roA.out w2.heap.size (obj_new _ _) (by omega) (by have := kk2.out.size; simp; omega))
        have hA := Lib.hid (h2.out.below ((Below.refl _ _).alloc (Nat.le_refl _) (.cells #[.int .i64 0, .int .i64 k, .int .i64 (nd k)] 91)))
        have kA : Hid (FP b mp w (w2.alloc (.cells #[.int .i64 0, .int .i64 k, .int .i64 (nd k)] 91))) := Lib.hid (Keeps.trans kk2.out (Below.toKeeps ((Below.refl _ _).alloc (Nat.le_refl _) _) (Nat.le_refl _)))
        have hrow := Lib.hid (fun g (e : u3.ownBlock = some g) => (ro2.out.lt g e).1)
        clear h2 kk2 ro2
        go_upto_region 8 with (at_builtin; obtain ⟨vN, wN, hr, ho, hgr, hbk⟩ := RUN.out; obtain ⟨gN, capN, rfl⟩ := Joins.ownsRow_form ho (by simp); refine Lib.wpList_append_run _ rfl (.tmp 22) (.tmp 26) 85 85 rfl _ _ rfl rfl _ _ hr ?_)
        have hN := hA.out.row hblt hmlt.out hgr hrow.out
        have kN := kA.out.row hgr hrow.out
        have cN := hN.at_.told_ k (by omega)
        have fN := obj_free hN.at_ (11 + k)
        have HN := Lib.hid hN
        have KN := Lib.hid kN
        have RO : Hid (WRow wN w.heap.size (.slice (some ⟨gN, 0, none⟩) ((chgL nd told k).length + 1) capN) (chgL nd told k ++ [⟨0, k, nd k⟩])) := Lib.hid (by simpa [List.length_append] using ho)
        clear hN kN ho hgr hbk hr RUN hA kA hrow ct ft
        go_wp2_with fail
        go_roundw
        case measure => simp [intOf]; omega
        case rel => exact ⟨k + 1, by omega, by omega, rfl, by rw [chgL_more nd told k hk1 hch]; exact Lib.hid (wantRow_keep RO.out (fun g hg hM' _ => Below.heap_setCell _ _ _ _ (by simp; omega))), by rw [← toldN_more nd told k hk1]; exact Lib.hid (HN.out.set (HN.out.at_.setTold k (by omega) _)), Lib.hid (Keeps.setCell KN.out (.inl (.inl rfl)) _)⟩
    · obtain rfl : k = 9 := by omega
      go_wp2_with fail
      go_ret
      exact ⟨_, rfl, ro.out, h.out, kk.out⟩
end Go.Proofs.YthgdkakkbaoccaaDoor
