import Derived.Test.YthgdkakkbaoccaaDoorPullAsk
import Derived.Test.YthgdkakkbaoccaaDoorKeysInt
/-! Contracts of package pull: Who, Drop. -/
namespace Go.Proofs.YthgdkakkbaoccaaDoor
open Go.RowKit Go.Maps Go.Sort Go.Shelf Go.Proofs
set_option linter.unusedVariables false
set_option linter.unusedSimpArgs false
set_option maxHeartbeats 1000000 in
/-- the sorted keys -/
theorem pullWho_any (M : Nat) (b : Nat) (now th : Int) (mp : Nat → Nat) (told asked : Nat → Int) (C : Nat → Nat) (F : Nat → Int → Option Int) (t : Nat) (ht : 1 ≤ t ∧ t ≤ 8) (hc : C t ≤ 1000000) (w : World) (h : Pul M w b now th mp told asked C F) :
    Calls Tryd.prog 40 #[.pointer (some ⟨b, 0, none⟩), .int .i64 t] w fun e w' => ∃ (v : Value) (S : List Int), e = .returned v ∧ Rises S ∧ (∀ i, i ∈ S ↔ (F t i).isSome = true) ∧ S.length = C t ∧ w'.ownsRow w.heap.size 3 1 v S.length (S.map encI) ∧ Below w.heap.size w w' := by
  have ht9 : t < 9 := by omega
  have k4 := h.at_.map_ t ht9
  have hm := h.map t ht9
  have R : ∀ y, CallsIn Fence.wide 5 Tryd.prog 74 #[.int .i64 t] y fun e w' => e = .returned (.bool true) ∧ y = w' := fun y => (callsIn_wide (n := 5)).2 (pullTrack_ok t ⟨by omega, by omega⟩ y)
  clear h
  obtain ⟨D0, hown, hsz, hat⟩ := hm
  have HAT := Lib.hid hat
  have HSZ := Lib.hid hsz
  have hmax : Maps.size D0 ≤ maxLen := by rw [hsz]; unfold maxLen; omega
  have hbytes : Maps.size D0 * 8 ≤ 140737488355328 := by rw [hsz]; omega
  clear hat hsz
  refine (callsIn_wide (n := 6)).1 ?_
  have hbl := hown.lt
  have hseq : SeqGives Fence.wide 2 Tryd.prog 88 #[.pointer (some ⟨w.heap.size, 0, none⟩)] encZ (fun ss => ss.Perm (intKeys D0)) (Maps.size D0) (w.alloc (.cells #[.map (some (mp t))] 143)) :=
    AnyZI.keys_gives (ρ := keysM_ren) { keysM with } Fence.wide _ trivial rfl (by omega) w.heap.size (mp t) (C t) D0 _ (by simp) (by simp) (by
      obtain ⟨es, clock, hb, Ft, hs, hD⟩ := hown
      exact ⟨es, clock, (Below.heap_alloc _ _ (mp t) hbl).trans hb, Ft, hs, hD⟩)
  have cK : ∀ mb W, CallsIn Fence.wide 5 Tryd.prog 75 #[.map mb] W fun e w' => e = .returned (.func (.func 88) #[] #[.pointer (some ⟨W.heap.size, 0, none⟩)]) ∧ w' = W.alloc (.cells #[.map mb] 143) := fun mb W => AnyZI.keys_in keysM Fence.wide 5 trivial rfl mb W
  have cS := AnyZI.sorted_in sortedA Fence.wide 5 trivial trivial trivial trivial rfl (by omega) (sortsA _) (enters_of Tryd.func70 (by kernel_rfl) rfl) 88 #[.pointer (some ⟨w.heap.size, 0, none⟩)] trivial (enters_of Tryd.func88 (by kernel_rfl) rfl) _ _ hmax hbytes _ hseq
  change CallsIn _ _ Tryd.prog 71 _ _ _ at cS
  have hfK : Fence.wide.fn 75 := trivial
  have hfS : Fence.wide.fn 71 := trivial
  have hfT : Fence.wide.fn 74 := trivial
  refine callsIn_of_wp Tryd.func40 rfl trivial ?_ rfl
  simp only [Tryd.ntmps40, List.size_toArray, List.length_cons, List.length_nil, Nat.reduceAdd, Nat.reduceSub, Array.replicate_succ, Array.replicate_zero, List.push_toArray, List.append_toArray, List.nil_append, List.cons_append]
  gi_wp2_with (first
    | (gi_at_call 74; refine (R _).mono ?_; rintro e w' ⟨rfl, rfl⟩)
    | (gi_at_call 75; refine (cK _ _).mono ?_; rintro e w' ⟨rfl, rfl⟩)
    | (gi_at_call 71; refine cS.mono ?_; rintro e w' ⟨v, ss, rfl, hS, hrow, hnil, hb⟩))
  go_ret
  obtain ⟨S, hSe, h1, h2, h3, h4⟩ := sorted_keys plaw Tryd.underlying3 hown HSZ.out HAT.out hS
  refine ⟨v, S, rfl, h1, fun i => by rw [h2 i, WF.isSome], h3, ?_, ((Below.refl _ w).alloc (Nat.le_refl _) _).trans (hb.mono (by simp))⟩
  rw [h4, hSe]
  exact ownsRow_base_a hrow (by simp)
theorem pullWho_bad (b : Nat) (n : Int) (hn : ¬ (1 ≤ n ∧ n ≤ 8)) (w : World) :
    Calls Tryd.prog 40 #[.pointer (some ⟨b, 0, none⟩), .int .i64 n] w fun e w' => e = .returned (.slice none 0 0) ∧ w = w' := by
  have R := Lib.hid (fun y => pullTrack_bad n hn y)
  clear hn
  go_enter Tryd.func40, Tryd.ntmps40
  go_wp2_with (go_at_call 74; refine (R.out _).mono ?_; rintro e w' ⟨rfl, rfl⟩)
  go_ret
  exact ⟨rfl, rfl⟩
theorem zeroInt (w : World) : (zeroValue 3).run Tryd.prog w = .ok (.int .i64 0) w := by kernel_rfl
/-- one who wants, less -/
def dropF (F : Nat → Int → Option Int) (t : Nat) (who : Int) : Nat → Int → Option Int := fun j => if j = t then (fun i => if i = who then none else F t i) else F j
def dropC (C : Nat → Nat) (t : Nat) : Nat → Nat := fun j => if j = t then C t - 1 else C j
theorem pullDrop_bad (b : Nat) (who n : Int) (h : ¬ Pl.rightOk who n) (w : World) :
    Calls Tryd.prog 42 #[.pointer (some ⟨b, 0, none⟩), .int .i64 who, .int .i64 n] w fun e w' => e = .returned (.iface 103 (.int .i64 1)) ∧ w = w' := by
  have R := Lib.hid (fun y => pullRight_bad who n h y)
  clear h
  go_enter Tryd.func42, Tryd.ntmps42
  go_wp2_with (go_at_call 73; refine (R.out _).mono ?_; rintro e w' ⟨rfl, rfl⟩)
  go_ret
  exact ⟨rfl, rfl⟩
theorem pullDrop_none (M : Nat) (b : Nat) (now th : Int) (mp : Nat → Nat) (told asked : Nat → Int) (C : Nat → Nat) (F : Nat → Int → Option Int) (who : Int) (t : Nat) (hr : Pl.rightOk who t) (hF : F t who = none) (w : World) (h : Pul M w b now th mp told asked C F) :
    Calls Tryd.prog 42 #[.pointer (some ⟨b, 0, none⟩), .int .i64 who, .int .i64 t] w fun e w' => e = .returned (.iface 103 (.int .i64 5)) ∧ w = w' := by
  have R := Lib.hid (fun y => pullRight_ok who t hr y)
  obtain ⟨r0, r1, r2, r3⟩ := hr
  have ht : t < 9 := by omega
  have hw : (Lit.int .i64 who).wf = true := by simp [Lit.wf, IntKind.min, IntKind.max, IntKind.signed, IntKind.bits]; omega
  have HF := Lib.hid (show WF (F t) who = none from by unfold WF; rw [hF]; rfl)
  have c2 := h.at_.map_ t ht
  have hm := h.map t ht
  clear h hF
  go_enter Tryd.func42, Tryd.ntmps42
  go_wp2_with (first
    | (go_at_call 73; refine (R.out _).mono ?_; rintro e w' ⟨rfl, rfl⟩)
    | (at_lookup; refine wpList_mlook _ rfl (.tmp 20) (.tmp 21) 143 rfl 3 3 plaw Tryd.underlying3 Tryd.underlying143 (zeroInt _) (mp t) (C t) _ rfl hm who rfl hw ?_; rw [HF.out]; simp only [Option.getD_none, Option.isSome_none]))
  go_ret
  exact ⟨rfl, rfl⟩
theorem pullDrop_ok (M : Nat) (b : Nat) (now th : Int) (mp : Nat → Nat) (told asked : Nat → Int) (C : Nat → Nat) (F : Nat → Int → Option Int) (who : Int) (t : Nat) (hr : Pl.rightOk who t) (lay : Int) (hF : F t who = some lay) (w : World) (h : Pul M w b now th mp told asked C F) :
    Calls Tryd.prog 42 #[.pointer (some ⟨b, 0, none⟩), .int .i64 who, .int .i64 t] w fun e w' => e = .returned .nilIface ∧ Pul M w' b now th mp told asked (dropC C t) (dropF F t who) ∧ FP b mp w w' := by
  have R := Lib.hid (fun y => pullRight_ok who t hr y)
  obtain ⟨r0, r1, r2, r3⟩ := hr
  have ht : t < 9 := by omega
  have hw : (Lit.int .i64 who).wf = true := by simp [Lit.wf, IntKind.min, IntKind.max, IntKind.signed, IntKind.bits]; omega
  have HF := Lib.hid (show WF (F t) who = some (.int .i64 lay) from by unfold WF; rw [hF]; rfl)
  have HH := Lib.hid h
  have c2 := h.at_.map_ t ht
  have hm := h.map t ht
  clear h hF
  go_enter Tryd.func42, Tryd.ntmps42
  go_wp2_with (first
    | (go_at_call 73; refine (R.out _).mono ?_; rintro e w' ⟨rfl, rfl⟩)
    | (at_lookup; refine wpList_mlook _ rfl (.tmp 20) (.tmp 21) 143 rfl 3 3 plaw Tryd.underlying3 Tryd.underlying143 (zeroInt _) (mp t) (C t) _ rfl hm who rfl hw ?_; rw [HF.out]; simp only [Option.getD_some, Option.isSome_some])
    | (at_delete; refine wpList_mdel _ rfl (.tmp 33) (.tmp 34) 143 3 rfl 3 plaw Tryd.underlying3 Tryd.underlying143 (mp t) (C t) _ rfl hm who rfl hw ?_; intro w6 hm6 hturn))
  have hgr := hturn.grown
  have hb := hgr.block
  rw [WF.del, HF.out] at hm6
  simp only [Option.isSome_some, if_true] at hm6
  go_ret
  exact ⟨rfl, HH.out.mapped t ht hm6 (fun k hk hne => hb k hk (by simp; omega)), ⟨hgr.os, hgr.tape, hgr.output, hgr.size, fun k hk hne => hb k hk (by
    rintro e; simp at e; exact hne (.inr ⟨t, ht, by omega⟩))⟩⟩
end Go.Proofs.YthgdkakkbaoccaaDoor
