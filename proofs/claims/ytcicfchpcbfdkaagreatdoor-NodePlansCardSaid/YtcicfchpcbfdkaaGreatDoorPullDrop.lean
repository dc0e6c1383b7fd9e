import Derived.Test.YtcicfchpcbfdkaaGreatDoorPullWant
/-! pull.Drop. -/
namespace Go.Proofs.YtcicfchpcbfdkaaGreatDoor
open Go.RowKit
set_option linter.unusedVariables false
set_option linter.unusedSimpArgs false
set_option maxHeartbeats 1000000
theorem zeroInt (w : World) : (zeroValue 3).run Tryz.prog w = .ok (.int .i64 0) w := by kernel_rfl
/-- one who wants, less -/
def dropF (F : Nat → Int → Option Int) (t : Nat) (who : Int) : Nat → Int → Option Int := fun j => if j = t then (fun i => if i = who then none else F t i) else F j
def dropC (C : Nat → Nat) (t : Nat) : Nat → Nat := fun j => if j = t then C t - 1 else C j
theorem pullDrop_bad (b : Nat) (who n : Int) (h : ¬ Pl.rightOk who n) (w : World) :
    Calls Tryz.prog 69 #[.pointer (some ⟨b, 0, none⟩), .int .i64 who, .int .i64 n] w fun e w' => e = .returned (.iface 62 (.int .i64 1)) ∧ w = w' := by
  have R := Lib.hid (fun y => pullRight_bad who n h y)
  clear h
  go_enter Tryz.func69, Tryz.ntmps69
  go_wp2_with (go_at_call 98; refine (R.out _).mono ?_; rintro e w' ⟨rfl, rfl⟩)
  go_ret
  exact ⟨rfl, rfl⟩
theorem pullDrop_none (M : Nat) (b : Nat) (now th : Int) (mp : Nat → Nat) (told asked : Nat → Int) (C : Nat → Nat) (F : Nat → Int → Option Int) (who : Int) (t : Nat) (hr : Pl.rightOk who t) (hF : F t who = none) (w : World) (h : Pul M w b now th mp told asked C F) :
    Calls Tryz.prog 69 #[.pointer (some ⟨b, 0, none⟩), .int .i64 who, .int .i64 t] w fun e w' => e = .returned (.iface 62 (.int .i64 5)) ∧ w = w' := by
  have R := Lib.hid (fun y => pullRight_ok who t hr y)
  obtain ⟨r0, r1, r2, r3⟩ := hr
  have ht : t < 9 := by omega
  have hw : (Lit.int .i64 who).wf = true := by simp [Lit.wf, IntKind.min, IntKind.max, IntKind.signed, IntKind.bits]; omega
  have HF := Lib.hid (show WF (F t) who = none from by unfold WF; rw [hF]; rfl)
  have c2 := h.at_.map_ t ht
  have hm := h.map t ht
  clear h hF
  go_enter Tryz.func69, Tryz.ntmps69
  go_wp2_with (first
    | (go_at_call 98; refine (R.out _).mono ?_; rintro e w' ⟨rfl, rfl⟩)
    | (at_lookup; refine wpList_mlook _ rfl (.tmp 20) (.tmp 21) 111 rfl 3 3 plaw Tryz.underlying3 Tryz.underlying111 (zeroInt _) (mp t) (C t) _ rfl hm who rfl hw ?_; rw [HF.out]; simp only [Option.getD_none, Option.isSome_none]))
  go_ret
  exact ⟨rfl, rfl⟩
theorem pullDrop_ok (M : Nat) (b : Nat) (now th : Int) (mp : Nat → Nat) (told asked : Nat → Int) (C : Nat → Nat) (F : Nat → Int → Option Int) (who : Int) (t : Nat) (hr : Pl.rightOk who t) (lay : Int) (hF : F t who = some lay) (w : World) (h : Pul M w b now th mp told asked C F) :
    Calls Tryz.prog 69 #[.pointer (some ⟨b, 0, none⟩), .int .i64 who, .int .i64 t] w fun e w' => e = .returned .nilIface ∧ Pul M w' b now th mp told asked (dropC C t) (dropF F t who) ∧ FP b mp w w' := by
  have R := Lib.hid (fun y => pullRight_ok who t hr y)
  obtain ⟨r0, r1, r2, r3⟩ := hr
  have ht : t < 9 := by omega
  have hw : (Lit.int .i64 who).wf = true := by simp [Lit.wf, IntKind.min, IntKind.max, IntKind.signed, IntKind.bits]; omega
  have HF := Lib.hid (show WF (F t) who = some (.int .i64 lay) from by unfold WF; rw [hF]; rfl)
  have HH := Lib.hid h
  have c2 := h.at_.map_ t ht
  have hm := h.map t ht
  clear h hF
  go_enter Tryz.func69, Tryz.ntmps69
  go_wp2_with (first
    | (go_at_call 98; refine (R.out _).mono ?_; rintro e w' ⟨rfl, rfl⟩)
    | (at_lookup; refine wpList_mlook _ rfl (.tmp 20) (.tmp 21) 111 rfl 3 3 plaw Tryz.underlying3 Tryz.underlying111 (zeroInt _) (mp t) (C t) _ rfl hm who rfl hw ?_; rw [HF.out]; simp only [Option.getD_some, Option.isSome_some])
    | (at_delete; refine wpList_mdel _ rfl (.tmp 33) (.tmp 34) 111 3 rfl 3 plaw Tryz.underlying3 Tryz.underlying111 (mp t) (C t) _ rfl hm who rfl hw ?_; intro w6 hm6 hturn))
  have hgr := hturn.grown
  have hb := hgr.block
  rw [WF.del, HF.out] at hm6
  simp only [Option.isSome_some, if_true] at hm6
  go_ret
  exact ⟨rfl, HH.out.mapped t ht hm6 (fun k hk hne => hb k hk (by simp; omega)), ⟨hgr.os, hgr.tape, hgr.output, hgr.size, fun k hk hne => hb k hk (by
    rintro e; simp at e; exact hne (.inr ⟨t, ht, by omega⟩))⟩⟩
end Go.Proofs.YtcicfchpcbfdkaaGreatDoor
