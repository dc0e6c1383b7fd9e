import Derived.Test.YthgdkakkbaoccaaDoorPullChanged
/-! Contracts of package pull: Ask. -/
namespace Go.Proofs.YthgdkakkbaoccaaDoor
open Go.RowKit Go.Maps Go.Proofs
set_option linter.unusedVariables false
set_option linter.unusedSimpArgs false
/-- may it be asked for? -/
def Pl.askDue (asked th now : Int) : Bool := !(decide (0 < asked) && decide (now - (asked - 1) < th))
def askN (asked : Nat → Int) (t : Nat) (th now : Int) : Nat → Int := fun j => if j = t then (if Pl.askDue (asked t) th now then now + 1 else asked t) else asked j
theorem askN_no {asked : Nat → Int} {t : Nat} {th now : Int} (hd : Pl.askDue (asked t) th now = false) : askN asked t th now = asked := by
  funext j; unfold askN; rw [hd]; by_cases e : j = t
  · subst e; simp
  · rw [if_neg e]
theorem askN_yes {asked : Nat → Int} {t : Nat} {th now : Int} (hd : Pl.askDue (asked t) th now = true) : askN asked t th now = fun j => if j = t then now + 1 else asked j := by
  funext j; unfold askN; rw [hd]; rfl
set_option maxHeartbeats 2000000 in
theorem pullAsk_none (M : Nat) (b : Nat) (cur th : Int) (mp : Nat → Nat) (told asked : Nat → Int) (C : Nat → Nat) (F : Nat → Int → Option Int) (t : Nat) (ht : 1 ≤ t ∧ t ≤ 8) (now : Int) (hn : Pl.clockOk cur now) (hC : C t = 0) (w : World) (h : Pul M w b cur th mp told asked C F) :
    Calls Tryd.prog 43 #[.pointer (some ⟨b, 0, none⟩), .int .i64 t, .int .i64 now] w fun e w' => e = .returned (.tuple #[.bool false, .iface 103 (.int .i64 5)]) ∧ w = w' := by
  have R := Lib.hid (fun y => pullTrack_ok t ⟨by omega, by omega⟩ y)
  have K := Lib.hid (clockCheck_ok b 0 cur now hn w h.at_.now_)
  have hn' := hn
  unfold Pl.clockOk at hn'
  have c2 := h.at_.map_ t (by omega)
  have hm := h.map t (by omega)
  clear h
  rw [hC] at hm
  go_enter Tryd.func43, Tryd.ntmps43
  go_wp2_with (first
    | (go_at_call 74; refine (R.out _).mono ?_; rintro e w' ⟨rfl, rfl⟩)
    | (go_at_call 65; refine K.out.mono ?_; rintro e w' ⟨rfl, rfl⟩)
    | (at_len; refine wpList_mlen _ rfl _ 143 rfl 3 3 Tryd.underlying143 (mp t) 0 _ rfl hm ?_; rw [show ((0 : Nat) : Int) = 0 from rfl]))
  go_ret2
  exact ⟨rfl, rfl⟩
set_option maxHeartbeats 4000000 in
theorem pullAsk_ok (M : Nat) (b : Nat) (cur th : Int) (mp : Nat → Nat) (told asked : Nat → Int) (C : Nat → Nat) (F : Nat → Int → Option Int) (t : Nat) (ht : 1 ≤ t ∧ t ≤ 8) (now : Int) (hn : Pl.clockOk cur now) (hC : 0 < C t) (hCm : C t ≤ 1000000) (ha : 0 ≤ asked t ∧ asked t ≤ 1000001) (w : World) (h : Pul M w b cur th mp told asked C F) :
    Calls Tryd.prog 43 #[.pointer (some ⟨b, 0, none⟩), .int .i64 t, .int .i64 now] w fun e w' => e = .returned (.tuple #[.bool (Pl.askDue (asked t) th now), .nilIface]) ∧ Pul M w' b now th mp told (askN asked t th now) C F ∧ FP b mp w w' := by
  have R := Lib.hid (fun y => pullTrack_ok t ⟨by omega, by omega⟩ y)
  have K := Lib.hid (clockCheck_ok b 0 cur now hn w h.at_.now_)
  have hn' := hn
  unfold Pl.clockOk at hn'
  have ht9 : t < 9 := by omega
  have c2 := h.at_.map_ t ht9
  have hm := h.map t ht9
  have HH := Lib.hid h
  have S := Lib.hid (clockSet_any b 0 now (.int .i64 cur) w h.at_.now_ (obj_free h.at_ 0))
  have h2 := Lib.hid (h.set (h.at_.setNow now))
  have cz : ¬ ((C t : Int) = 0) := by omega
  clear h
  go_enter Tryd.func43, Tryd.ntmps43
  go_upto_region 9 with (first
    | (go_at_call 74; refine (R.out _).mono ?_; rintro e w' ⟨rfl, rfl⟩)
    | (go_at_call 65; refine K.out.mono ?_; rintro e w' ⟨rfl, rfl⟩)
    | (go_at_call 66; refine S.out.mono ?_; rintro e w' ⟨rfl, rfl⟩)
    | (at_len; refine wpList_mlen _ rfl _ 143 rfl 3 3 Tryd.underlying143 (mp t) (C t) _ rfl hm ?_))
  refine abs_at (fun y => Hid (Pul M y b now th mp told asked C F) ∧ Hid (FP b mp w y)) ⟨h2, Lib.hid (Keeps.setCell (Keeps.refl _ _) (.inl (.inl rfl)) _)⟩ ?_
  clear S HH hm c2 K h2
  rintro y ⟨h, kk⟩
  have c1 := h.out.at_.th_
  have ca := h.out.at_.asked_ t ht9
  have fa := obj_free h.out.at_ (20 + t)
  have W1 : IntKind.i64.wrap (asked t - 1) = asked t - 1 := by rw [IntKind.wrap_i64]; omega
  have W2 : IntKind.i64.wrap (now - (asked t - 1)) = now - (asked t - 1) := by rw [IntKind.wrap_i64]; omega
  have W3 : IntKind.i64.wrap (now + 1) = now + 1 := by rw [IntKind.wrap_i64]; omega
  by_cases d0 : 0 < asked t
  · by_cases d1 : now - (asked t - 1) < th
    · have hd := Lib.hid (show Pl.askDue (asked t) th now = false by simp [Pl.askDue, d0, d1])
      go_wp2
      go_ret2
      rw [askN_no hd.out, hd.out]
      exact ⟨rfl, h.out, kk.out⟩
    · have hd := Lib.hid (show Pl.askDue (asked t) th now = true by simp [Pl.askDue, d0, d1])
      go_wp2
      go_ret2
      rw [askN_yes hd.out, hd.out]
      exact ⟨rfl, h.out.set (h.out.at_.setAsked t ht9 _), Keeps.setCell kk.out (.inl (.inl rfl)) _⟩
  · have hd := Lib.hid (show Pl.askDue (asked t) th now = true by simp [Pl.askDue, d0])
    go_wp2
    go_ret2
    rw [askN_yes hd.out, hd.out]
    exact ⟨rfl, h.out.set (h.out.at_.setAsked t ht9 _), Keeps.setCell kk.out (.inl (.inl rfl)) _⟩
/-- asked at what may not be -/
theorem pullAsk_bad (b : Nat) (n now : Int) (hn : ¬ ((1 ≤ n ∧ n ≤ 8) ∧ 0 ≤ now ∧ now ≤ 1000000)) (w : World) :
    Calls Tryd.prog 43 #[.pointer (some ⟨b, 0, none⟩), .int .i64 n, .int .i64 now] w fun e w' => e = .returned (.tuple #[.bool false, .iface 103 (.int .i64 1)]) ∧ w = w' := by
  by_cases ht : 1 ≤ n ∧ n ≤ 8
  · have R := Lib.hid (fun y => pullTrack_ok n ht y)
    have H := Lib.hid (show ¬ (0 ≤ now ∧ now ≤ 1000000) from fun x => hn ⟨ht, x⟩)
    clear hn ht
    go_enter Tryd.func43, Tryd.ntmps43
    go_upto_region 2 with (go_at_call 74; refine (R.out _).mono ?_; rintro e w' ⟨rfl, rfl⟩)
    all_goals first
      | (exfalso; have := H.out; omega)
      | skip
    all_goals
      go_wp2
      go_ret2
      exact ⟨rfl, rfl⟩
  · have R := Lib.hid (fun y => pullTrack_bad n ht y)
    clear hn ht
    go_enter Tryd.func43, Tryd.ntmps43
    go_wp2_with (go_at_call 74; refine (R.out _).mono ?_; rintro e w' ⟨rfl, rfl⟩)
    go_ret2
    exact ⟨rfl, rfl⟩
/-- .. at a time that goes back -/
theorem pullAsk_back (M : Nat) (b : Nat) (cur th : Int) (mp : Nat → Nat) (told asked : Nat → Int) (C : Nat → Nat) (F : Nat → Int → Option Int) (t : Nat) (ht : 1 ≤ t ∧ t ≤ 8) (now : Int) (h0 : 0 ≤ now ∧ now ≤ 1000000) (hn : ¬ Pl.clockOk cur now) (w : World) (h : Pul M w b cur th mp told asked C F) :
    Calls Tryd.prog 43 #[.pointer (some ⟨b, 0, none⟩), .int .i64 t, .int .i64 now] w fun e w' => e = .returned (.tuple #[.bool false, .iface 103 (.int .i64 6)]) ∧ w = w' := by
  have R := Lib.hid (fun y => pullTrack_ok t ⟨by omega, by omega⟩ y)
  have hf : Pl.clockFault now = 6 := by unfold Pl.clockFault; rw [if_neg (by omega)]
  have K := Lib.hid (clockCheck_bad b 0 cur now hn w h.at_.now_)
  rw [hf] at K
  obtain ⟨h1, h2⟩ := h0
  clear h hn hf
  go_enter Tryd.func43, Tryd.ntmps43
  go_wp2_with (first
    | (go_at_call 74; refine (R.out _).mono ?_; rintro e w' ⟨rfl, rfl⟩)
    | (go_at_call 65; refine K.out.mono ?_; rintro e w' ⟨rfl, rfl⟩))
  go_ret2
  exact ⟨rfl, rfl⟩
end Go.Proofs.YthgdkakkbaoccaaDoor
