import Derived.Test.YtmlpdcbfafplkaaDoorRefWin
/-! The reference's window: a number is added. -/
namespace Go.Proofs.YtmlpdcbfafplkaaDoor
open Go.RowKit
set_option linter.unusedVariables false
set_option linter.unusedSimpArgs false
theorem infoInt : (Tryd.prog.info? 3).map (fun i => (i.zero, i.size, i.bytes)) = some (some (.int .i64 0), 1, 8) := by kernel_rfl
theorem run_moreI (W : World) (M : Nat) (v : Value) (num : Int) (n : Nat) (xs : List Value) (hown : W.ownsRow M 3 1 v n xs) (g : Nat) (hg : W.heap[g]? = some (.cells #[.int .i64 num] 3 (0, 0))) (hn : n ≤ 1000) (hB : M ≤ W.heap.size) :
    ∃ v' w', (Builtin.append_ #[22, 22] 22 #[v, .slice (some ⟨g, 0, none⟩) 1 1]).run Tryd.prog W = .ok v' w' ∧ w'.ownsRow M 3 1 v' (n + 1) (xs ++ [.int .i64 num]) ∧ W.grownBy w' v.ownBlock := by
  obtain ⟨i0, hi, hz0, hz1, hz2⟩ := info_parts infoInt
  obtain ⟨v', w', h1, h2, h3, _⟩ := run_append_own (P := Tryd.prog) W M 22 22 3 i0 (.int .i64 0) 1 8 Tryd.underlying22 hi hz0 hz1 hz2 rfl (by decide) v n xs hown ⟨g, 0, none⟩ 1 1 [.int .i64 num] rfl
    (fun j x hx => by
      match j, hx with
      | 0, hx => simp at hx; subst hx; exact obj_cell hg rfl)
    (fun x hx => by simp at hx; subst hx; rfl) (by unfold maxLen; omega) (by omega) hB
  exact ⟨v', w', h1, h2, h3⟩
theorem row_pos {w : World} {M n : Nat} {v : Value} {xs : List Value} (h : w.ownsRow M 3 1 v (n + 1) xs) : ∃ g cap, v = .slice (some ⟨g, 0, none⟩) (n + 1) cap := by
  obtain ⟨h1, h2⟩ := h
  rcases h2 with ⟨_, h0⟩ | ⟨g, cap, cur, rfl, _⟩
  · omega
  · exact ⟨g, cap, rfl⟩
theorem rAdd_range (b : Nat) (num : Int) (h : Pl.long num = false) (w : World) :
    Calls Tryd.prog 7 #[.pointer (some ⟨b, 0, none⟩), .int .i64 num] w fun e w' => e = .returned (.tuple #[.bool false, .int .i64 1]) ∧ w = w' := by
  go_enter Tryd.func7, Tryd.ntmps7
  go_wp2_with (go_at_call 20; refine (rLong_any _ _).mono ?_; rw [h]; rintro e w' ⟨rfl, rfl⟩)
  go_ret2
  exact ⟨rfl, rfl⟩
set_option maxRecDepth 100000 in
set_option maxHeartbeats 1000000 in
theorem rAdd_state (b : Nat) (n top : Int) (vL : Value) (num : Int) (h : Pl.long num = true) (n1 : 1 ≤ n) (n2 : n ≤ 64) (t1 : -1 ≤ top) (t2 : top ≤ 1099511627776) (h2 : num ≤ top - n) (w : World) (hg : RWinAt w b n top vL) :
    Calls Tryd.prog 7 #[.pointer (some ⟨b, 0, none⟩), .int .i64 num] w fun e w' => e = .returned (.tuple #[.bool false, .int .i64 6]) ∧ Drawn w w' := by
  have k0 := obj_cell hg (k := 0) rfl
  have k1 := obj_cell hg (k := 1) rfl
  have d : decide (num ≤ top - n) = true := by simpa using h2
  go_enter Tryd.func7, Tryd.ntmps7
  go_wp2_with (go_at_call 20; refine (rLong_any _ _).mono ?_; rw [h]; rintro e w' ⟨rfl, rfl⟩)
  go_quiet (fail)
  go_wp2
  go_ret2
  exact ⟨rfl, _, rfl⟩
set_option maxRecDepth 100000 in
set_option maxHeartbeats 2000000 in
theorem rAdd_had (M : Nat) (b : Nat) (n top : Int) (vL : Value) (L : List Int) (num : Int) (h : Pl.long num = true) (n1 : 1 ≤ n) (n2 : n ≤ 64) (t1 : -1 ≤ top) (t2 : top ≤ 1099511627776) (h2 : top - n < num) (h3 : num ≤ top) (hin : num ∈ L) (w : World) (hg : RW M w b n top vL L) :
    Calls Tryd.prog 7 #[.pointer (some ⟨b, 0, none⟩), .int .i64 num] w fun e w' => e = .returned (.tuple #[.bool false, .int .i64 0]) ∧ Drawn w w' := by
  have k0 := obj_cell hg.at_ (k := 0) rfl
  have k1 := obj_cell hg.at_ (k := 1) rfl
  have d : decide (num ≤ top - n) = false := by simp; omega
  have d3 : decide (top < num) = false := by simp; omega
  have DD := Lib.hid (show decide (num ∈ L ∧ top - n < num) = true by simp [hin, h2])
  have HG := Lib.hid hg
  clear hin hg
  go_enter Tryd.func7, Tryd.ntmps7
  go_wp2_with (go_at_call 20; refine (rLong_any _ _).mono ?_; rw [h]; rintro e w' ⟨rfl, rfl⟩)
  go_quiet (fail)
  go_upto_region 6 with fail
  refine abs_at' (fun y => RWinAt y b n top vL ∧ Hid (RW M y b n top vL L) ∧ Hid (Drawn w y)) ⟨HG.out.at_, Lib.hid ⟨HG.out.at_, HG.out.row⟩, Lib.hid ⟨_, rfl⟩⟩ ?_
  clear k0 k1 HG
  rintro wy ⟨ga, hg, hd⟩
  have k1 := obj_cell ga (k := 1) rfl
  go_wp2_with fail
  refine (rHas_any M b n top vL L num n1 n2 t1 t2 _ hg.out).mono ?_
  rintro e w6 ⟨rfl, m, rfl⟩
  rw [DD.out]
  go_wp2
  go_ret2
  exact ⟨rfl, hd.out.more _⟩
set_option maxRecDepth 100000 in
set_option maxHeartbeats 2000000 in
theorem rAdd_new (M : Nat) (b : Nat) (n top : Int) (vL : Value) (L : List Int) (num : Int) (h : Pl.long num = true) (n1 : 1 ≤ n) (n2 : n ≤ 64) (t1 : -1 ≤ top) (t2 : top ≤ 1099511627776) (h2 : top - n < num) (hin : num ∉ L) (hlen : L.length ≤ 1000) (hMb : M ≤ b) (T : Int) (hT : Hid (T = if top < num then num else top)) (w : World) (hM : M ≤ w.heap.size) (hg : RW M w b n top vL L) :
    Calls Tryd.prog 7 #[.pointer (some ⟨b, 0, none⟩), .int .i64 num] w fun e w' => ∃ vL', e = .returned (.tuple #[.bool true, .int .i64 0]) ∧ RW M w' b n T vL' (L ++ [num]) ∧ Below M w w' ∧ TK 58 w w' := by
  have k0 := obj_cell hg.at_ (k := 0) rfl
  have k1 := obj_cell hg.at_ (k := 1) rfl
  have d : decide (num ≤ top - n) = false := by simp; omega
  have DD := Lib.hid (show decide (num ∈ L ∧ top - n < num) = false by simp [hin])
  have HG := Lib.hid hg
  clear hin hg
  go_enter Tryd.func7, Tryd.ntmps7
  go_wp2_with (go_at_call 20; refine (rLong_any _ _).mono ?_; rw [h]; rintro e w' ⟨rfl, rfl⟩)
  go_quiet (fail)
  go_upto_region 6 with fail
  refine abs_at' (fun y => Hid (RW M y b n top vL L) ∧ Hid (Drawn w y)) ⟨Lib.hid ⟨HG.out.at_, HG.out.row⟩, Lib.hid ⟨_, rfl⟩⟩ ?_
  clear k0 k1 HG
  rintro wy ⟨hg, hd⟩
  go_wp2_with fail
  refine (rHas_any M b n top vL L num n1 n2 t1 t2 _ hg.out).mono ?_
  rintro e w6 ⟨rfl, m, hw6⟩
  rw [DD.out]
  have hd6 : Drawn w w6 := by rw [hw6]; exact hd.out.more _
  have hg6 : RW M w6 b n top vL L := by rw [hw6]; exact ⟨hg.out.at_, hg.out.row⟩
  have kb6 : Below M w w6 := hd6.below.mono hM
  have tk6 : TK 58 w w6 := TK.below hd6.below
  have hs6 : w.heap.size ≤ w6.heap.size := kb6.size
  clear hw6 hg hd hd6
  have bA : Below w6.heap.size w6 (w6.alloc (.cells #[.int .i64 num] 3)) := (Below.refl _ _).alloc (Nat.le_refl _) _
  have hgA := hg6.below bA
  have kbA : Below M w (w6.alloc (.cells #[.int .i64 num] 3)) := kb6.alloc (by omega) _
  have tkA := tk6.trans (TK.below (T := 58) bA)
  have RUN := Lib.hid (run_moreI (w6.alloc (.cells #[.int .i64 num] 3)) M vL num L.length _ hgA.row w6.heap.size (obj_new _ _) hlen (by simp; omega))
  have GN : Hid (∀ wN, World.grownBy (w6.alloc (.cells #[.int .i64 num] 3)) wN vL.ownBlock → RWinAt wN b n top vL ∧ Below M w wN ∧ TK 58 w wN) := Lib.hid (fun wN hgr => by
    have t := TK.grown (T := 31) hgr hgA.row (by decide)
    have a := hgA.at_
    exact ⟨by unfold RWinAt at *; rw [t _ _ a]; exact a, Below.grown kbA hgr (by simp; omega) (fun k hk => (hgA.row.lt k hk).1), tkA.trans (TK.grown hgr hgA.row (by decide))⟩)
  have k2 := obj_cell hgA.at_ (k := 2) rfl
  have k2' := obj_cell hg6.at_ (k := 2) rfl
  clear bA hgA kbA tkA kb6 tk6 hg6
  go_upto_region 9 with (at_builtin; obtain ⟨vN, wN, hr, ho, hgr⟩ := RUN.out; obtain ⟨gg, cp, eN⟩ := row_pos ho; subst eN; have gN := GN.out wN hgr; have cN := obj_cell gN.1 (k := 2) rfl; have fN := obj_free gN.1 2; refine Lib.wpList_append_run _ rfl (.tmp 32) (.tmp 34) 22 22 rfl _ _ rfl rfl _ _ hr ?_)
  refine abs_at' (fun y => RW M y b n top (.slice (some ⟨gg, 0, none⟩) (L.length + 1) cp) (L ++ [num]) ∧ Below M w y ∧ TK 58 w y) ⟨⟨obj_set gN.1 2 _, row_tk (by simpa using ho) (TK.of_set gN.1 (by decide))⟩, Below.setCell gN.2.1 hMb _, gN.2.2.trans (TK.of_set gN.1 (by decide))⟩ ?_
  clear RUN GN k2 k2' gN cN fN ho hgr hr
  rintro wz ⟨hg, kb, tk⟩
  have k1 := obj_cell hg.at_ (k := 1) rfl
  have f1 := obj_free hg.at_ 1
  by_cases h5 : top < num
  · have e : Hid (T = num) := Lib.hid (by rw [hT.out, if_pos h5])
    go_wp2
    go_ret2
    exact ⟨_, rfl, ⟨by rw [e.out]; exact obj_set hg.at_ 1 _, row_tk hg.row (TK.of_set hg.at_ (by decide))⟩, Below.setCell kb hMb _, tk.trans (TK.of_set hg.at_ (by decide))⟩
  · have e : Hid (T = top) := Lib.hid (by rw [hT.out, if_neg h5])
    go_wp2
    go_ret2
    have R : RW M wz b n T (.slice (some ⟨gg, 0, none⟩) (L.length + 1) cp) (L ++ [num]) := by rw [e.out]; exact hg
    first | exact ⟨_, rfl, R, kb, tk⟩ | exact ⟨rfl, ⟨_, R⟩, kb, tk⟩
/-- what comes of a number that is added -/
def Pl.addF (n top num : Int) : Int := if Pl.long num = false then 1 else if num ≤ top - n then 6 else 0
def Pl.addR (n top : Int) (L : List Int) (num : Int) : Bool := if Pl.addF n top num = 0 then !(decide (num ∈ L)) else false
def Pl.addTop (n top num : Int) : Int := if Pl.addF n top num = 0 then (if top < num then num else top) else top
def Pl.addL (n top : Int) (L : List Int) (num : Int) : List Int := if Pl.addF n top num = 0 then (if num ∈ L then L else L ++ [num]) else L
theorem rAdd_all (M : Nat) (b : Nat) (n top : Int) (vL : Value) (L : List Int) (num : Int) (n1 : 1 ≤ n) (n2 : n ≤ 64) (t1 : -1 ≤ top) (t2 : top ≤ 1099511627776) (hall : ∀ x ∈ L, 0 ≤ x ∧ x ≤ top) (hlen : L.length ≤ 1000) (hMb : M ≤ b) (w : World) (hM : M ≤ w.heap.size) (hg : RW M w b n top vL L) :
    Calls Tryd.prog 7 #[.pointer (some ⟨b, 0, none⟩), .int .i64 num] w fun e w' => ∃ vL', e = .returned (.tuple #[.bool (Pl.addR n top L num), .int .i64 (Pl.addF n top num)]) ∧ RW M w' b n (Pl.addTop n top num) vL' (Pl.addL n top L num) ∧ Below M w w' ∧ TK 58 w w' := by
  cases hl : Pl.long num
  · have e : Pl.addF n top num = 1 := by simp [Pl.addF, hl]
    refine (rAdd_range b num hl w).mono ?_
    rintro e' w' ⟨rfl, rfl⟩
    exact ⟨vL, by simp [Pl.addR, e], by simpa [Pl.addTop, Pl.addL, e] using hg, Below.refl _ _, TK.refl _ _⟩
  · by_cases h2 : num ≤ top - n
    · have e : Pl.addF n top num = 6 := by simp [Pl.addF, hl, h2]
      refine (rAdd_state b n top vL num hl n1 n2 t1 t2 h2 w hg.at_).mono ?_
      rintro e' w' ⟨rfl, hd⟩
      exact ⟨vL, by simp [Pl.addR, e], by simpa [Pl.addTop, Pl.addL, e] using hg.below hd.below, hd.below.mono hM, TK.below hd.below⟩
    · have e : Pl.addF n top num = 0 := by simp [Pl.addF, hl, h2]
      by_cases hin : num ∈ L
      · have h3 := (hall _ hin).2
        refine (rAdd_had M b n top vL L num hl n1 n2 t1 t2 (by omega) h3 hin w hg).mono ?_
        rintro e' w' ⟨rfl, hd⟩
        exact ⟨vL, by simp [Pl.addR, e, hin], by have q := hg.below hd.below; simp only [Pl.addTop, Pl.addL, e, hin, if_true]; rw [if_neg (by omega)]; exact q, hd.below.mono hM, TK.below hd.below⟩
      · refine (rAdd_new M b n top vL L num hl n1 n2 t1 t2 (by omega) hin hlen hMb _ (Lib.hid rfl) w hM hg).mono ?_
        rintro e' w' ⟨vL', rfl, q, kb, tk⟩
        exact ⟨vL', by simp [Pl.addR, e, hin], by simp only [Pl.addTop, Pl.addL, e, hin, if_true, if_false]; exact q, kb, tk⟩
/-- an error of number f; 0: nil -/
def Pl.errV (f : Int) : Value := if f = 0 then .nilIface else .iface 55 (.int .i64 f)
theorem winAdd_all (b : Nat) (n top : Int) (B : BitVec 64) (L : List Int) (R : Pl.WinRel top B L) (num : Int) (n1 : 1 ≤ n) (n2 : n ≤ 64) (t2 : top ≤ 1099511627776) (w : World) (hg : WinAt w b n top B) :
    Calls Tryd.prog 8 #[.pointer (some ⟨b, 0, none⟩), .int .i64 num] w fun e w' => ∃ B', e = .returned (.tuple #[.bool (Pl.addR n top L num), Pl.errV (Pl.addF n top num)]) ∧ WinAt w' b n (Pl.addTop n top num) B' ∧ Pl.WinRel (Pl.addTop n top num) B' (Pl.addL n top L num) ∧ KeepsBut b w w' := by
  have t1 := R.low
  cases hl : Pl.long num
  · have e : Pl.addF n top num = 1 := by simp [Pl.addF, hl]
    refine (winAdd_range b num hl w).mono ?_
    rintro e' w' ⟨rfl, rfl⟩
    exact ⟨B, by simp [Pl.addR, e, Pl.errV], by simpa [Pl.addTop, e] using hg, by simpa [Pl.addTop, Pl.addL, e] using R, KeepsBut.refl _ _⟩
  · have hb := (Pl.long_iff num).1 hl
    by_cases h2 : num ≤ top - n
    · have e : Pl.addF n top num = 6 := by simp [Pl.addF, hl, h2]
      refine (winAdd_state b n top B num hl n1 n2 t1 t2 h2 w hg).mono ?_
      rintro e' w' ⟨rfl, m, rfl⟩
      exact ⟨B, by simp [Pl.addR, e, Pl.errV], by simp only [Pl.addTop, e]; exact hg, by simpa [Pl.addTop, Pl.addL, e] using R, Keeps.drewN (KeepsBut.refl _ _) _⟩
    · have e : Pl.addF n top num = 0 := by simp [Pl.addF, hl, h2]
      by_cases h5 : top < num
      · have hin : num ∉ L := fun hx => by have := R.all _ hx; omega
        refine (winAdd_new b n top B num hl n1 n2 t1 t2 (by omega) h5 w hg).mono ?_
        rintro e' w' ⟨rfl, q, k⟩
        exact ⟨_, by simp [Pl.addR, e, Pl.errV, hin], by simp only [Pl.addTop, e, if_true, if_pos h5]; exact q, by simp only [Pl.addTop, Pl.addL, e, if_true, if_pos h5, if_neg hin]; exact R.new h5, k⟩
      · obtain ⟨r1, r2⟩ := R.old hb.1 (by omega) (by omega)
        refine (winAdd_old b n top B num hl n1 n2 t1 t2 (by omega) (by omega) (by omega) w hg).mono ?_
        rintro e' w' ⟨rfl, q, k⟩
        exact ⟨_, by rw [r1]; simp [Pl.addR, e, Pl.errV], by simp only [Pl.addTop, e, if_true, if_neg h5]; exact q, by simp only [Pl.addTop, Pl.addL, e, if_true, if_neg h5]; exact r2, k⟩
theorem RW.keep {M : Nat} {w w' : World} {b c : Nat} {n top n' top' : Int} {vL : Value} {L : List Int} {B : BitVec 64} (h : RW M w c n top vL L) (k : KeepsBut b w w') (hg : WinAt w b n' top' B) (hc : c ≠ b) : RW M w' c n top vL L :=
  ⟨Keeps.heap k h.at_ hc, row_tk h.row (fun g o ho => k.block g (lt_of_block ho) (by rintro rfl; unfold WinAt at hg; rw [ho] at hg; simp at hg))⟩
end Go.Proofs.YtmlpdcbfafplkaaDoor
