import Derived.Test.YtcicfchpcbfdkaaGreatDoorPull
/-! Contracts of package pull: Want, Need. -/
namespace Go.Proofs.YtcicfchpcbfdkaaGreatDoor
open Go.RowKit Go.Maps Go.Proofs
set_option linter.unusedVariables false
set_option linter.unusedSimpArgs false
/-- may it be wanted? -/
def Pl.rightOk (who n : Int) : Prop := 0 ≤ who ∧ who ≤ 200 ∧ 1 ≤ n ∧ n ≤ 8
instance (who n : Int) : Decidable (Pl.rightOk who n) := by unfold Pl.rightOk; infer_instance
theorem pullRight_ok (who n : Int) (h : Pl.rightOk who n) (w : World) : Calls Tryz.prog 98 #[.int .i64 who, .int .i64 n] w fun e w' => e = .returned (.bool true) ∧ w = w' :=
  (pullRight_any who n w).mono fun e w' ⟨h1, h2⟩ => ⟨by obtain ⟨a, b, c, d⟩ := h; rw [h1]; simp [a, b, c, d], h2⟩
theorem pullRight_bad (who n : Int) (h : ¬ Pl.rightOk who n) (w : World) : Calls Tryz.prog 98 #[.int .i64 who, .int .i64 n] w fun e w' => e = .returned (.bool false) ∧ w = w' :=
  (pullRight_any who n w).mono fun e w' ⟨h1, h2⟩ => ⟨by unfold Pl.rightOk at h; rw [h1]; congr 2; simp; omega, h2⟩
theorem pullTrack_ok (n : Int) (h : 1 ≤ n ∧ n ≤ 8) (w : World) : Calls Tryz.prog 37 #[.int .i64 n] w fun e w' => e = .returned (.bool true) ∧ w = w' :=
  (pullTrack_any n w).mono fun e w' ⟨h1, h2⟩ => ⟨by rw [h1]; simp [h.1, h.2], h2⟩
theorem pullTrack_bad (n : Int) (h : ¬ (1 ≤ n ∧ n ≤ 8)) (w : World) : Calls Tryz.prog 37 #[.int .i64 n] w fun e w' => e = .returned (.bool false) ∧ w = w' :=
  (pullTrack_any n w).mono fun e w' ⟨h1, h2⟩ => ⟨by rw [h1]; congr 2; simp; omega, h2⟩
/-- one who wants, more -/
def wantF (F : Nat → Int → Option Int) (t : Nat) (who lay : Int) : Nat → Int → Option Int := fun j => if j = t then (fun i => if i = who then some lay else F t i) else F j
def wantC (C : Nat → Nat) (F : Nat → Int → Option Int) (t : Nat) (who : Int) : Nat → Nat := fun j => if j = t then (if (F t who).isSome then C t else C t + 1) else C j
theorem pullWant_bad (b : Nat) (who n lay : Int) (h : ¬ (Pl.rightOk who n ∧ 0 ≤ lay ∧ lay ≤ 3)) (w : World) :
    Calls Tryz.prog 70 #[.pointer (some ⟨b, 0, none⟩), .int .i64 who, .int .i64 n, .int .i64 lay] w fun e w' => e = .returned (.iface 62 (.int .i64 1)) ∧ Below w.heap.size w w' := by
  by_cases hr : Pl.rightOk who n
  · have R := Lib.hid (fun y => pullRight_ok who n hr y)
    have H := Lib.hid (show ¬ (0 ≤ lay ∧ lay ≤ 3) from fun x => h ⟨hr, x.1, x.2⟩)
    clear h hr
    go_enter Tryz.func70, Tryz.ntmps70
    go_upto_region 2 with (go_at_call 98; refine (R.out _).mono ?_; rintro e w' ⟨rfl, rfl⟩)
    all_goals first
      | (exfalso; have := H.out; omega)
      | skip
    all_goals
      go_wp2
      go_ret
      exact ⟨rfl, Below.refl _ _⟩
  · have R := Lib.hid (fun y => pullRight_bad who n hr y)
    clear h hr
    go_enter Tryz.func70, Tryz.ntmps70
    go_wp2_with (go_at_call 98; refine (R.out _).mono ?_; rintro e w' ⟨rfl, rfl⟩)
    go_ret
    exact ⟨rfl, Below.refl _ _⟩
theorem pullWant_ok (M : Nat) (b : Nat) (now th : Int) (mp : Nat → Nat) (told asked : Nat → Int) (C : Nat → Nat) (F : Nat → Int → Option Int) (who : Int) (t : Nat) (lay : Int) (hr : Pl.rightOk who t) (hl : 0 ≤ lay ∧ lay ≤ 3) (hC : C t < 1000000) (w : World) (h : Pul M w b now th mp told asked C F) :
    Calls Tryz.prog 70 #[.pointer (some ⟨b, 0, none⟩), .int .i64 who, .int .i64 t, .int .i64 lay] w fun e w' => e = .returned .nilIface ∧ Pul M w' b now th mp told asked (wantC C F t who) (wantF F t who lay) ∧ FP b mp w w' := by
  have R := Lib.hid (fun y => pullRight_ok who t hr y)
  obtain ⟨r0, r1, r2, r3⟩ := hr
  obtain ⟨l0, l1⟩ := hl
  have ht : t < 9 := by omega
  have hw : (Lit.int .i64 who).wf = true := by simp [Lit.wf, IntKind.min, IntKind.max, IntKind.signed, IntKind.bits]; omega
  have HH := Lib.hid h
  have c2 := h.at_.map_ t ht
  have hm := h.map t ht
  clear h
  go_enter Tryz.func70, Tryz.ntmps70
  go_wp2_with (first
    | (go_at_call 98; refine (R.out _).mono ?_; rintro e w' ⟨rfl, rfl⟩)
    | (at_mapUpdate; refine wpList_mput _ rfl (.tmp 27) (.tmp 28) (.tmp 29) 111 rfl 3 3 plaw Tryz.underlying3 Tryz.underlying111 (mp t) (C t) _ rfl hm (by unfold maxLen; omega) who (.int .i64 lay) rfl rfl hw ?_; intro w6 hm6 hgr))
  have hg := hgr.block
  rw [WF.put, WF.isSome] at hm6
  go_ret
  refine ⟨rfl, HH.out.mapped t ht hm6 (fun k hk hne => hg k hk (by simp; omega)), ⟨hgr.os, hgr.tape, hgr.output, hgr.size, fun k hk hne => hg k hk (by
    rintro e; simp at e; exact hne (.inr ⟨t, ht, by omega⟩))⟩⟩
/-- the greatest of those that came -/
def Needs (g : Int → Option Int) (left : Int → Bool) (n : Int) : Prop := -1 ≤ n ∧ (∀ i x, g i = some x → left i = false → x ≤ n) ∧ (n = -1 ∨ ∃ i, g i = some n)
theorem Needs.start (g : Int → Option Int) : Needs g (fun i => (WF g i).isSome) (-1) := ⟨by omega, fun i x h hl => (by have hl' : (WF g i).isSome = false := hl; rw [WF.isSome, h] at hl'; cases hl'), .inl rfl⟩
theorem Needs.step {g : Int → Option Int} {left : Int → Bool} {n : Int} (h : Needs g left n) (i x : Int) (hx : g i = some x) (h0 : 0 ≤ x) : Needs g (fun j => left j && !decide (j = i)) (max n x) := by
  rw [Int.max_def]
  obtain ⟨a, b, c⟩ := h
  refine ⟨by split <;> omega, fun j y hy hl => ?_, ?_⟩
  · by_cases e : j = i
    · subst e; rw [hx] at hy; cases hy; split <;> omega
    · have := b j y hy (by simpa [e] using hl)
      split <;> omega
  · split
    · exact .inr ⟨i, hx⟩
    · exact c
theorem if_max (n y : Int) : (if n < y then y else n) = max n y := by
  rw [Int.max_def]; split <;> split <;> omega
end Go.Proofs.YtcicfchpcbfdkaaGreatDoor
