import Derived.Test.YthgdkakkbaoccaaDoorRefPullD
import Derived.StillTailTactics
/-! The reference's Pull: Changed, Ask. -/
namespace Go.Proofs.YthgdkakkbaoccaaDoor
open Go.RowKit
set_option linter.unusedVariables false
set_option linter.unusedSimpArgs false
set_option maxRecDepth 100000 in
set_option maxHeartbeats 4000000 in
theorem rPullChanged_any (M b : Nat) (now th : Int) (v : Value) (L : List Wt) (told asked : Nat → Int) (hL : L.length ≤ 100000) (hl : ∀ x ∈ L, 0 ≤ x.lay) (nd : Nat → Int) (hnd : ∀ (t : Nat) (n : Int), 1 ≤ t → t ≤ 8 → NeedL L t n → n = nd t) (hnl : ∀ t, -1 ≤ nd t ∧ nd t ≤ 3) (w : World) (h : RPul M w b now th v L told asked) :
    Calls Tryd.prog 48 #[.pointer (some ⟨b, 0, none⟩)] w fun e w' => ∃ v', e = .returned v' ∧ WRow w' w.heap.size v' (chgL nd told 9) ∧ RPul M w' b now th v L (toldN nd told 9) asked ∧ RFP b v w w' := by
  have HND := Lib.hid hnd
  have HNL := Lib.hid hnl
  have HL := Lib.hid hl
  have hblt := lt_of_block h.at_
  have h' : Hid (RPul M w b now th v L (toldN nd told 1) asked) := Lib.hid (by rw [toldN_one]; exact h)
  have HRLT := Lib.hid (fun g (e : v.ownBlock = some g) => (h.row.lt g e).2)
  clear hnd hnl h hl
  go_enter Tryd.func48, Tryd.ntmps48
  go_wp2_with fail
  go_loopw [3, 4] (fun s3 s4 wr => ∃ k : Nat, 1 ≤ k ∧ k ≤ 9 ∧ s4 = .int .i64 k ∧ Hid (WRow wr w.heap.size s3 (chgL nd told k)) ∧ Hid (RPul M wr b now th v L (toldN nd told k) asked) ∧ Hid (RFP b v w wr)) (fun _ s4 _ => 9 - (RowKit.intOf s4).toNat)
  case atStart => exact ⟨1, by omega, by omega, rfl, Lib.hid (World.ownsRow_nil _ _ _ _), h', Lib.hid (Keeps.refl _ _)⟩
  case round =>
    clear h'
    obtain ⟨k, hk1, hk9, rfl, ro, h, kk⟩ := hrel
    by_cases hlt : k ≤ 8
    · have hsz := kk.out.size
      have NE := Lib.hid (rPullNeed_any M b now th v L _ asked (k : Int) (by omega) HL.out wr h.out)
      go_upto_region 6 with (go_at_call 51; refine NE.out.mono ?_; rintro e w2 ⟨n, rfl, hn, rfl⟩; have HN := Lib.hid hn; clear hn)
      have hnk := HND.out k n hk1 hlt HN.out
      clear HN NE
      obtain ⟨hn1, hn3⟩ := HNL.out k
      subst hnk
      have hsum : IntKind.i64.wrap (nd k + 1) = nd k + 1 := by rw [IntKind.wrap_i64]; omega
      have ct := h.out.at_.told_ k (by omega)
      rw [toldN_at] at ct
      have ft := obj_free h.out.at_ (3 + k)
      by_cases hch : nd k + 1 = told k
      · have HCH := Lib.hid hch
        have d1 : ((nd k + 1) == told k) = true := by simpa using hch
        clear hch
        go_wp2_with fail
        go_roundw
        case measure => simp [RowKit.intOf]; omega
        case rel => exact ⟨k + 1, by omega, by omega, rfl, by rw [chgL_same nd told k HCH.out]; exact ro, by rw [toldN_same nd told k HCH.out]; exact h, kk⟩
      · have HCH := Lib.hid hch
        have d1 : ((nd k + 1) == told k) = false := by simpa using hch
        have roA : Hid (WRow (wr.alloc (.cells #[.int .i64 0, .int .i64 k, .int .i64 (nd k)] 91)) w.heap.size u3 (chgL nd told k)) := Lib.hid (wantRow_below ro.out ((Below.refl _ _).alloc (Nat.le_refl _) _))
        have hlen := chgL_len nd told k
        have RUN := Lib.hid (run_moreWant _ w.heap.size u3 ⟨0, k, nd k⟩ (chgL nd told k) roA.out wr.heap.size (obj_new _ _) (by omega) (by have := kk.out.size; simp; omega))
        have hA := Lib.hid (h.out.below ((Below.refl _ _).alloc (Nat.le_refl _) (.cells #[.int .i64 0, .int .i64 k, .int .i64 (nd k)] 91)))
        have kA : Hid (RFP b v w (wr.alloc (.cells #[.int .i64 0, .int .i64 k, .int .i64 (nd k)] 91))) := Lib.hid (kk.out.alloc _)
        have hrow := Lib.hid (fun g (e : u3.ownBlock = some g) => (ro.out.lt g e).1)
        clear h kk ro hch
        go_upto_region 8 with (at_builtin; obtain ⟨vN, wN, hr, ho, hgr, hbk⟩ := RUN.out; obtain ⟨gN, capN, rfl⟩ := Joins.ownsRow_form ho (by simp); refine Lib.wpList_append_run _ rfl (.tmp 22) (.tmp 26) 85 85 rfl _ _ rfl rfl _ _ hr ?_)
        have hN : RPul M wN b now th v L (toldN nd told k) asked := ⟨by
            have e := hgr.block b (lt_of_block hA.out.at_) (fun e => by have := hrow.out b e.symm; omega)
            have a := hA.out.at_
            unfold RPullAt at *
            rw [e]; exact a, World.ownsRow.kept hA.out.row hgr (by
              cases hv : v.ownBlock with
              | none => exact .inl rfl
              | some g => exact .inr (fun e => by have := HRLT.out g hv; have := hrow.out g e.symm; omega)), hA.out.low⟩
        have kN : RFP b v w wN := ⟨hgr.os.trans kA.out.os, hgr.tape.trans kA.out.tape, hgr.output.trans kA.out.output, Nat.le_trans kA.out.size hgr.size, fun j hj hne => (hgr.block j (Nat.lt_of_lt_of_le hj kA.out.size) (fun e => by have := hrow.out j e.symm; omega)).trans (kA.out.block j hj hne)⟩
        have cN := hN.at_.told_ k (by omega)
        have fN := obj_free hN.at_ (3 + k)
        have HN := Lib.hid hN
        have KN := Lib.hid kN
        have RO : Hid (WRow wN w.heap.size (.slice (some ⟨gN, 0, none⟩) ((chgL nd told k).length + 1) capN) (chgL nd told k ++ [⟨0, k, nd k⟩])) := Lib.hid (by simpa [List.length_append] using ho)
        clear hN kN ho hgr hbk hr RUN hA kA hrow ct ft
        go_wp2_with fail
        go_roundw
        case measure => simp [RowKit.intOf]; omega
        case rel => exact ⟨k + 1, by omega, by omega, rfl, by rw [chgL_more nd told k hk1 HCH.out]; exact Lib.hid (wantRow_keep RO.out (fun g hg hM' _ => Below.heap_setCell _ _ _ _ (by simp; omega))), by rw [← toldN_more nd told k hk1]; exact Lib.hid (HN.out.set (HN.out.at_.setTold k (by omega) _)), Lib.hid (Keeps.setCell KN.out (.inl (.inl rfl)) _)⟩
    · obtain rfl : k = 9 := by omega
      go_wp2_with fail
      go_ret
      exact ⟨_, rfl, ro.out, h.out, kk.out⟩
end Go.Proofs.YthgdkakkbaoccaaDoor
