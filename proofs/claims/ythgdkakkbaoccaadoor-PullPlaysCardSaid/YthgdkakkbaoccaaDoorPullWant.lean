import Derived.Test.YthgdkakkbaoccaaDoorPull
/-! Contracts of package pull: Want, Need. -/
namespace Go.Proofs.YthgdkakkbaoccaaDoor
open Go.RowKit Go.Maps Go.Proofs
set_option linter.unusedVariables false
set_option linter.unusedSimpArgs false
/-- may it be wanted? -/
def Pl.rightOk (who n : Int) : Prop := 0 ≤ who ∧ who ≤ 200 ∧ 1 ≤ n ∧ n ≤ 8
instance (who n : Int) : Decidable (Pl.rightOk who n) := by unfold Pl.rightOk; infer_instance
theorem pullRight_ok (who n : Int) (h : Pl.rightOk who n) (w : World) : Calls Tryd.prog 73 #[.int .i64 who, .int .i64 n] w fun e w' => e = .returned (.bool true) ∧ w = w' :=
  (pullRight_any who n w).mono fun e w' ⟨h1, h2⟩ => ⟨by obtain ⟨a, b, c, d⟩ := h; rw [h1]; simp [a, b, c, d], h2⟩
theorem pullRight_bad (who n : Int) (h : ¬ Pl.rightOk who n) (w : World) : Calls Tryd.prog 73 #[.int .i64 who, .int .i64 n] w fun e w' => e = .returned (.bool false) ∧ w = w' :=
  (pullRight_any who n w).mono fun e w' ⟨h1, h2⟩ => ⟨by unfold Pl.rightOk at h; rw [h1]; congr 2; simp; omega, h2⟩
theorem pullTrack_ok (n : Int) (h : 1 ≤ n ∧ n ≤ 8) (w : World) : Calls Tryd.prog 74 #[.int .i64 n] w fun e w' => e = .returned (.bool true) ∧ w = w' :=
  (pullTrack_any n w).mono fun e w' ⟨h1, h2⟩ => ⟨by rw [h1]; simp [h.1, h.2], h2⟩
theorem pullTrack_bad (n : Int) (h : ¬ (1 ≤ n ∧ n ≤ 8)) (w : World) : Calls Tryd.prog 74 #[.int .i64 n] w fun e w' => e = .returned (.bool false) ∧ w = w' :=
  (pullTrack_any n w).mono fun e w' ⟨h1, h2⟩ => ⟨by rw [h1]; congr 2; simp; omega, h2⟩
/-- one who wants, more -/
def wantF (F : Nat → Int → Option Int) (t : Nat) (who lay : Int) : Nat → Int → Option Int := fun j => if j = t then (fun i => if i = who then some lay else F t i) else F j
def wantC (C : Nat → Nat) (F : Nat → Int → Option Int) (t : Nat) (who : Int) : Nat → Nat := fun j => if j = t then (if (F t who).isSome then C t else C t + 1) else C j
theorem pullWant_bad (b : Nat) (who n lay : Int) (h : ¬ (Pl.rightOk who n ∧ 0 ≤ lay ∧ lay ≤ 3)) (w : World) :
    Calls Tryd.prog 39 #[.pointer (some ⟨b, 0, none⟩), .int .i64 who, .int .i64 n, .int .i64 lay] w fun e w' => e = .returned (.iface 103 (.int .i64 1)) ∧ Below w.heap.size w w' := by
  by_cases hr : Pl.rightOk who n
  · have R := Lib.hid (fun y => pullRight_ok who n hr y)
    have H := Lib.hid (show ¬ (0 ≤ lay ∧ lay ≤ 3) from fun x => h ⟨hr, x.1, x.2⟩)
    clear h hr
    go_enter Tryd.func39, Tryd.ntmps39
    go_upto_region 2 with (go_at_call 73; refine (R.out _).mono ?_; rintro e w' ⟨rfl, rfl⟩)
    all_goals first
      | (exfalso; have := H.out; omega)
      | skip
    all_goals
      go_wp2
      go_ret
      exact ⟨rfl, Below.refl _ _⟩
  · have R := Lib.hid (fun y => pullRight_bad who n hr y)
    clear h hr
    go_enter Tryd.func39, Tryd.ntmps39
    go_wp2_with (go_at_call 73; refine (R.out _).mono ?_; rintro e w' ⟨rfl, rfl⟩)
    go_ret
    exact ⟨rfl, Below.refl _ _⟩
theorem pullWant_ok (M : Nat) (b : Nat) (now th : Int) (mp : Nat → Nat) (told asked : Nat → Int) (C : Nat → Nat) (F : Nat → Int → Option Int) (who : Int) (t : Nat) (lay : Int) (hr : Pl.rightOk who t) (hl : 0 ≤ lay ∧ lay ≤ 3) (hC : C t < 1000000) (w : World) (h : Pul M w b now th mp told asked C F) :
    Calls Tryd.prog 39 #[.pointer (some ⟨b, 0, none⟩), .int .i64 who, .int .i64 t, .int .i64 lay] w fun e w' => e = .returned .nilIface ∧ Pul M w' b now th mp told asked (wantC C F t who) (wantF F t who lay) ∧ FP b mp w w' := by
  have R := Lib.hid (fun y => pullRight_ok who t hr y)
  obtain ⟨r0, r1, r2, r3⟩ := hr
  obtain ⟨l0, l1⟩ := hl
  have ht : t < 9 := by omega
  have hw : (Lit.int .i64 who).wf = true := by simp [Lit.wf, IntKind.min, IntKind.max, IntKind.signed, IntKind.bits]; omega
  have HH := Lib.hid h
  have c2 := h.at_.map_ t ht
  have hm := h.map t ht
  clear h
  go_enter Tryd.func39, Tryd.ntmps39
  go_wp2_with (first
    | (go_at_call 73; refine (R.out _).mono ?_; rintro e w' ⟨rfl, rfl⟩)
    | (at_mapUpdate; refine wpList_mput _ rfl (.tmp 27) (.tmp 28) (.tmp 29) 143 rfl 3 3 plaw Tryd.underlying3 Tryd.underlying143 (mp t) (C t) _ rfl hm (by unfold maxLen; omega) who (.int .i64 lay) rfl rfl hw ?_; intro w6 hm6 hgr))
  have hg := hgr.block
  rw [WF.put, WF.isSome] at hm6
  go_ret
  refine ⟨rfl, HH.out.mapped t ht hm6 (fun k hk hne => hg k hk (by simp; omega)), ⟨hgr.os, hgr.tape, hgr.output, hgr.size, fun k hk hne => hg k hk (by
    rintro e; simp at e; exact hne (.inr ⟨t, ht, by omega⟩))⟩⟩
/-- the greatest of those that came -/
def Needs (g : Int → Option Int) (left : Int → Bool) (n : Int) : Prop := -1 ≤ n ∧ (∀ i x, g i = some x → left i = false → x ≤ n) ∧ (n = -1 ∨ ∃ i, g i = some n)
theorem Needs.start (g : Int → Option Int) : Needs g (fun i => (WF g i).isSome) (-1) := ⟨by omega, fun i x h hl => (by have hl' : (WF g i).isSome = false := hl; rw [WF.isSome, h] at hl'; cases hl'), .inl rfl⟩
theorem Needs.step {g : Int → Option Int} {left : Int → Bool} {n : Int} (h : Needs g left n) (i x : Int) (hx : g i = some x) (h0 : 0 ≤ x) : Needs g (fun j => left j && !decide (j = i)) (max n x) := by
  rw [Int.max_def]
  obtain ⟨a, b, c⟩ := h
  refine ⟨by split <;> omega, fun j y hy hl => ?_, ?_⟩
  · by_cases e : j = i
    · subst e; rw [hx] at hy; cases hy; split <;> omega
    · have := b j y hy (by simpa [e] using hl)
      split <;> omega
  · split
    · exact .inr ⟨i, hx⟩
    · exact c
theorem if_max (n y : Int) : (if n < y then y else n) = max n y := by
  rw [Int.max_def]; split <;> split <;> omega
set_option maxHeartbeats 2000000 in
theorem pullNeed_any (M : Nat) (b : Nat) (now th : Int) (mp : Nat → Nat) (told asked : Nat → Int) (C : Nat → Nat) (F : Nat → Int → Option Int) (t : Nat) (ht : 1 ≤ t ∧ t ≤ 8) (hF : ∀ i x, F t i = some x → 0 ≤ x ∧ x ≤ 3) (w : World) (h : Pul M w b now th mp told asked C F) :
    Calls Tryd.prog 44 #[.pointer (some ⟨b, 0, none⟩), .int .i64 t] w fun e w' => ∃ n : Int, e = .returned (.int .i64 n) ∧ -1 ≤ n ∧ (∀ i x, F t i = some x → x ≤ n) ∧ (n = -1 ∨ ∃ i, F t i = some n) ∧ Below w.heap.size w w' := by
  have R := Lib.hid (fun y => pullTrack_ok t ⟨by omega, by omega⟩ y)
  have ht9 : t < 9 := by omega
  have HF := Lib.hid hF
  have c2 := h.at_.map_ t ht9
  have hm := h.map t ht9
  have hbl := hm.lt
  clear h hF
  go_enter Tryd.func44, Tryd.ntmps44
  go_wp2_with (first
    | (go_at_call 74; refine (R.out _).mono ?_; rintro e w' ⟨rfl, rfl⟩)
    | (at_range; refine wpList_mrange _ rfl _ 143 rfl 3 3 plaw Tryd.underlying143 (mp t) (C t) _ rfl hm ?_; intro w0 hrg0 hg0 hs0)
    | go_in)
  go_frame
  clear hm
  have ST := Lib.hid (Needs.start (F t))
  go_loopw [5] (fun s5 wr => ∃ (left : Int → Bool) (cnt : Nat) (n : Int), s5 = .int .i64 n ∧ RangesAt Tryd.prog 3 wr (mp t) w.heap.size (C t) (WF (F t)) left cnt ∧ Hid (Needs (F t) left n) ∧ Hid (Below w.heap.size w wr))
    (fun _ wr => wr.rangeLeft (mp t) w.heap.size)
  case atStart => exact ⟨_, _, -1, rfl, hrg0, ST, Lib.hid ⟨hg0.os, hg0.tape, hg0.output, hg0.size, fun k hk => hg0.block k (by omega) (by simp)⟩⟩
  case round =>
    clear hrg0 hg0 hs0 ST
    obtain ⟨left, cnt, n, rfl, hrg, hst, kk⟩ := hrel
    have HLE := Lib.hid hrg.left_eq
    go_wp2_with (first
      | (at_next; refine wpList_mnext _ rfl _ rfl 3 plaw Tryd.underlying3 (mp t) w.heap.size (C t) _ left cnt rfl hrg ?_ ?_)
      | go_in)
    · intro h0 hl0
      clear hrg
      go_wp2
      go_ret
      obtain ⟨a, b', c'⟩ := hst.out
      exact ⟨n, rfl, a, fun i x hx => b' i x hx (hl0 i), c', kk.out⟩
    · intro x v w1 cnt1 hw hlx hfx hrg1 hlt hg1 hs1 hen
      obtain ⟨y, hy, rfl⟩ : ∃ y, F t x = some y ∧ v = .int .i64 y := by
        unfold WF at hfx
        cases e : F t x with
        | none => rw [e] at hfx; cases hfx
        | some y => rw [e] at hfx; cases hfx; exact ⟨y, rfl, rfl⟩
      have HY := Lib.hid hy
      have HS := Lib.hid (hst.out.step x y hy (HF.out x y hy).1)
      have HR := Lib.hid hrg1
      have HL1 := Lib.hid hrg1.left_eq
      have KP : Keeps (fun k => k = w.heap.size) wr w1 := ⟨hg1.os, hg1.tape, hg1.output, hg1.size, fun k hk hne => hg1.block k hk (fun e => hne (Option.some.inj e))⟩
      have KB : Hid (Below w.heap.size w w1) := Lib.hid (kk.out.trans (Keeps.below KP kk.out.size (fun j hj e => by omega)))
      clear KP
      clear hrg1 hg1 hs1 hy hrg hfx
      go_wp2
      go_roundw
      case measure => rw [HLE.out, HL1.out]; omega
      case rel => first | exact ⟨_, cnt1, _, rfl, HR.out, HS, KB⟩ | exact ⟨_, cnt1, _, rfl, HR.out, Lib.hid (by rw [if_max]; exact HS.out), KB⟩
theorem pullNeed_bad (b : Nat) (n : Int) (h : ¬ (1 ≤ n ∧ n ≤ 8)) (w : World) :
    Calls Tryd.prog 44 #[.pointer (some ⟨b, 0, none⟩), .int .i64 n] w fun e w' => e = .returned (.int .i64 (-1)) ∧ w = w' := by
  have R := Lib.hid (fun y => pullTrack_bad n h y)
  clear h
  go_enter Tryd.func44, Tryd.ntmps44
  go_wp2_with (go_at_call 74; refine (R.out _).mono ?_; rintro e w' ⟨rfl, rfl⟩)
  go_ret
  exact ⟨rfl, rfl⟩
end Go.Proofs.YthgdkakkbaoccaaDoor
