import Derived.Test.YtlfdkoebjddokaaDoorOrderAny
import Derived.Test.YtlfdkoebjddokaaDoorOrderPop
import Derived.Test.YtlfdkoebjddokaaDoorErrV
/-! Contracts of order.Push, Gone and Pop where they do nothing; Gone. -/
namespace Go.Proofs.YtlfdkoebjddokaaDoor
open Go.RowKit
set_option linter.unusedVariables false
set_option linter.unusedSimpArgs false
set_option maxRecDepth 100000 in
set_option maxHeartbeats 4000000 in
theorem orderPush_bad (b : Nat) (cur wait next now : Int) (bm : Nat) (num : Int) (s t l lv : Int) (st : Bool) (oa : Option Addr) (bn bc : Nat) (hbn : bn ≤ maxLen) (f : Int) (hf : f ≠ 0) (hnx : next ≤ 1099511627876)
    (hE : (¬ Pl.clockOk cur now ∧ f = Pl.clockFault now) ∨ (Pl.clockOk cur now ∧ Pl.long num = false ∧ f = 1) ∨ (Pl.clockOk cur now ∧ Pl.long num = true ∧ ¬ Pl.pkOk s t l lv bn ∧ f = Pl.pkFault s t l lv bn) ∨ (Pl.clockOk cur now ∧ Pl.long num = true ∧ Pl.pkOk s t l lv bn ∧ 0 ≤ next ∧ next + 200 ≤ num ∧ f = 4)) (w : World) (h : OrderAt w b cur wait next bm) :
    Calls Tryd.prog 8 #[.pointer (some ⟨b, 0, none⟩), .int .i64 num, pkV s t l lv st (.slice oa bn bc), .int .i64 now] w fun e w' => e = .returned (.tuple #[.bool false, .iface 70 (.int .i64 f)]) ∧ Below w.heap.size w w' := by
  have BA : Below w.heap.size w (w.alloc (.cells #[.int .i64 s, .int .i64 t, .int .i64 l, .int .i64 lv, .bool st, .slice oa bn bc] 38)) := (Below.refl _ _).alloc (Nat.le_refl _) _
  have HBA := Lib.hid BA
  have h2 : OrderAt (w.alloc (.cells #[.int .i64 s, .int .i64 t, .int .i64 l, .int .i64 lv, .bool st, .slice oa bn bc] 38)) b cur wait next bm := by
    have e := Below.heap_alloc w (.cells #[.int .i64 s, .int .i64 t, .int .i64 l, .int .i64 lv, .bool st, .slice oa bn bc] 38) b (lt_of_block h)
    unfold OrderAt at *
    rw [e]; exact h
  have k0 := obj_cell h2 (k := 0) rfl
  have H2 := Lib.hid h2
  clear h BA h2
  rcases hE with ⟨hc, rfl⟩ | ⟨hc, hl, rfl⟩ | ⟨hc, hl, hp, rfl⟩ | ⟨hc, hl, hp, hn0, hnf, rfl⟩
  · clear hf
    go_enter Tryd.func8, Tryd.ntmps8
    go_wp2_with fail
    refine (clockCheck_bad b 0 cur now hc _ k0).mono ?_
    rintro e w' ⟨rfl, rfl⟩
    go_wp2_with fail
    go_ret2
    exact ⟨rfl, HBA.out⟩
  · clear hf
    go_enter Tryd.func8, Tryd.ntmps8
    go_wp2_with fail
    refine (clockCheck_ok b 0 cur now hc _ k0).mono ?_
    rintro e w' ⟨rfl, rfl⟩
    go_wp2_with fail
    refine (long_any num _).mono ?_
    rw [hl]
    rintro e w' ⟨rfl, rfl⟩
    go_wp2_with fail
    go_ret2
    exact ⟨rfl, HBA.out⟩
  · have HP := Lib.hid hp
    clear hf hp
    go_enter Tryd.func8, Tryd.ntmps8
    go_wp2_with fail
    refine (clockCheck_ok b 0 cur now hc _ k0).mono ?_
    rintro e w' ⟨rfl, rfl⟩
    go_wp2_with fail
    refine (long_any num _).mono ?_
    rw [hl]
    rintro e w' ⟨rfl, rfl⟩
    go_wp2_with fail
    refine (check_bad s t l lv st oa bn bc hbn HP.out _).mono ?_
    rintro e w2 ⟨rfl, k2⟩
    go_wp2
    go_ret2
    exact ⟨rfl, HBA.out.trans (k2.mono (by simp))⟩
  · have HPO := Lib.hid hp
    have W1 : IntKind.i64.wrap (next + 200) = next + 200 := by rw [IntKind.wrap_i64]; omega
    clear hf hp
    go_enter Tryd.func8, Tryd.ntmps8
    go_wp2_with fail
    refine (clockCheck_ok b 0 cur now hc _ k0).mono ?_
    rintro e w' ⟨rfl, rfl⟩
    go_wp2_with fail
    refine (long_any num _).mono ?_
    rw [hl]
    rintro e w' ⟨rfl, rfl⟩
    go_wp2_with fail
    refine (check_ok s t l lv st oa bn bc HPO.out _).mono ?_
    rintro e w2 ⟨rfl, k2⟩
    have h3 : OrderAt w2 b cur wait next bm := Below.heapAt k2 H2.out (lt_of_block H2.out)
    have c2 := obj_cell h3 (k := 2) rfl
    have KK := Lib.hid (HBA.out.trans (k2.mono (by simp)))
    clear k2 k0 h3
    go_wp2_with fail
    go_ret2
    exact ⟨rfl, KK.out⟩
set_option maxRecDepth 100000 in
theorem orderGone_bad (b : Nat) (cur wait next now : Int) (bm : Nat) (num : Int) (f : Int)
    (hE : (¬ Pl.clockOk cur now ∧ f = Pl.clockFault now) ∨ (Pl.clockOk cur now ∧ Pl.long num = false ∧ f = 1) ∨ (Pl.clockOk cur now ∧ Pl.long num = true ∧ next < 0 ∧ f = 6)) (w : World) (h : OrderAt w b cur wait next bm) :
    Calls Tryd.prog 9 #[.pointer (some ⟨b, 0, none⟩), .int .i64 num, .int .i64 now] w fun e w' => e = .returned (.iface 70 (.int .i64 f)) ∧ w = w' := by
  have k0 := obj_cell h (k := 0) rfl
  have k2 := obj_cell h (k := 2) rfl
  clear h
  rcases hE with ⟨hc, rfl⟩ | ⟨hc, hl, rfl⟩ | ⟨hc, hl, hn, rfl⟩
  · go_enter Tryd.func9, Tryd.ntmps9
    go_wp2_with fail
    refine (clockCheck_bad b 0 cur now hc _ k0).mono ?_
    rintro e w' ⟨rfl, rfl⟩
    go_wp2_with fail
    go_ret
    exact ⟨rfl, rfl⟩
  · go_enter Tryd.func9, Tryd.ntmps9
    go_wp2_with fail
    refine (clockCheck_ok b 0 cur now hc _ k0).mono ?_
    rintro e w' ⟨rfl, rfl⟩
    go_wp2_with fail
    refine (long_any num _).mono ?_
    rw [hl]
    rintro e w' ⟨rfl, rfl⟩
    go_wp2_with fail
    go_ret
    exact ⟨rfl, rfl⟩
  · go_enter Tryd.func9, Tryd.ntmps9
    go_wp2_with fail
    refine (clockCheck_ok b 0 cur now hc _ k0).mono ?_
    rintro e w' ⟨rfl, rfl⟩
    go_wp2_with fail
    refine (long_any num _).mono ?_
    rw [hl]
    rintro e w' ⟨rfl, rfl⟩
    go_wp2_with fail
    go_ret
    exact ⟨rfl, rfl⟩
set_option maxRecDepth 100000 in
theorem orderPop_bad (b : Nat) (cur wait next now : Int) (bm : Nat) (hc : ¬ Pl.clockOk cur now) (w : World) (h : OrderAt w b cur wait next bm) :
    Calls Tryd.prog 12 #[.pointer (some ⟨b, 0, none⟩), .int .i64 now] w fun e w' => e = .returned (.tuple #[.slice none 0 0, .iface 70 (.int .i64 (Pl.clockFault now))]) ∧ w = w' := by
  have k0 := obj_cell h (k := 0) rfl
  clear h
  go_enter Tryd.func12, Tryd.ntmps12
  go_wp2_with fail
  refine (clockCheck_bad b 0 cur now hc _ k0).mono ?_
  rintro e w' ⟨rfl, rfl⟩
  go_wp2_with fail
  go_ret2
  exact ⟨rfl, rfl⟩
set_option maxRecDepth 100000 in
set_option maxHeartbeats 2000000 in
theorem orderGone_ok (b : Nat) (cur wait next now : Int) (bm c : Nat) (f : Int → Option Value) (num : Int) (hc : Pl.clockOk cur now) (hl : Pl.long num = true) (hn1 : 0 ≤ next) (hn2 : next ≤ 1099511627876) (hk : AllKept f) (hcc : c < 1000000) (w : World) (hO : Ord w b cur wait next bm c f) :
    Calls Tryd.prog 9 #[.pointer (some ⟨b, 0, none⟩), .int .i64 num, .int .i64 now] w fun e w' => ∃ c' : Nat, e = .returned .nilIface ∧ Ord w' b now wait next bm c' (Pl.keepF f num next (keptV num true 0 0 0 0 false (.slice none 0 0) now)) ∧ c' ≤ c + 1 ∧ KB2 b bm w w' := by
  obtain ⟨hm1, hm2⟩ := (Pl.long_iff num).1 hl
  have k0 := obj_cell hO.at_ (k := 0) rfl
  have f0 := obj_free hO.at_ 0
  have k2 := obj_cell hO.at_ (k := 2) rfl
  have HK := Lib.hid hk
  clear hk
  go_enter Tryd.func9, Tryd.ntmps9
  go_wp2_with fail
  refine (clockCheck_ok b 0 cur now hc _ k0).mono ?_
  rintro e w' ⟨rfl, rfl⟩
  go_wp2_with fail
  refine (long_any num _).mono ?_
  rw [hl]
  rintro e w' ⟨rfl, rfl⟩
  go_wp2_with fail
  refine (clockSet_any b 0 now _ _ k0 f0).mono ?_
  rintro e w3 ⟨rfl, rfl⟩
  go_upto_region 9 with fail
  refine abs_at (fun y => Ord y b now wait next bm c f ∧ Hid (KB2 b bm w y)) ⟨hO.set (obj_set hO.at_ 0 _), Lib.hid (Keeps.setCell (Keeps.refl _ _) (.inl (.inl rfl)) _)⟩ ?_
  clear hO k0 f0 k2
  rintro w4 ⟨hO, kk⟩
  go_wp2_with fail
  refine (orderKeep_any b now wait next bm c f num true 0 0 0 0 false (.slice none 0 0) now HK.out hm1 hm2 hn1 (by omega) hcc _ hO.at_ hO.map hO.ne).mono ?_
  rintro e w5 ⟨rfl, h1, ⟨c', h2, h3⟩, h4⟩
  have KK := Lib.hid (show KB2 b bm w w5 from Keeps.trans kk.out (h4.mono (fun j hj e => .inr e)))
  have HO := Lib.hid (show Ord w5 b now wait next bm c' _ from ⟨h1, h3, hO.ne⟩)
  clear h1 h3 h4 hO kk
  go_wp2_with fail
  go_ret
  exact ⟨c', rfl, HO.out, h2, KK.out⟩
end Go.Proofs.YtlfdkoebjddokaaDoor
