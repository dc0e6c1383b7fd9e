import Derived.Test.YtlfdkoebjddokaaDoorGapsDue
import Derived.RegionTactic
import Derived.ChangeAlike
/-! gaps.Due: the walk. -/
namespace Go.Proofs.YtlfdkoebjddokaaDoor
open Go.RowKit Go.Maps
set_option linter.unusedVariables false
set_option linter.unusedSimpArgs false
theorem due_bad (b : Nat) (cur now : Int) (again tries top : Int) (bm : Nat) (gv : Value) (hc : ¬ Pl.clockOk cur now) (w : World) (h : GapsAt w b cur again tries top bm gv) :
    Calls Tryd.prog 19 #[.pointer (some ⟨b, 0, none⟩), .int .i64 now] w fun e w' => e = .returned (.tuple #[.slice none 0 0, .iface 70 (.int .i64 (Pl.clockFault now))]) ∧ w = w' := by
  have k0 := obj_cell h (k := 0) rfl
  clear h
  go_enter Tryd.func19, Tryd.ntmps19
  go_wp2_with fail
  refine (clockCheck_bad b 0 cur now hc _ k0).mono ?_
  rintro e w' ⟨rfl, rfl⟩
  go_wp2_with fail
  go_ret2
  exact ⟨rfl, rfl⟩
/-- asked, in memory -/
def AskAt (w : World) (N : Nat) (t a : Int) : Prop := w.heap[N]? = some (.cells #[.int .i64 t, .int .i64 a] 99 (0, 0))
set_option maxRecDepth 100000 in
set_option maxHeartbeats 8000000 in
theorem due_ok' (M b : Nat) (cur again tries top now : Int) (bm c : Nat) (g : Int → Option (Int × Int)) (gv : Value) (G : List Int) (hc : Pl.clockOk cur now) (hcc : c ≤ 1000) (hG : G.length ≤ 100000)
    (hag : 0 ≤ again ∧ again ≤ 1000000) (hkey : ∀ j, (g j).isSome = true → 0 ≤ j ∧ j ≤ 1099511627776) (hval : ∀ j t a, g j = some (t, a) → 0 ≤ t ∧ t ≤ 1000 ∧ 0 ≤ a ∧ a ≤ 1000000) (w : World) (hM : M ≤ w.heap.size) (h : Gp M w b cur again tries top bm c g gv G) :
    Calls Tryd.prog 19 #[.pointer (some ⟨b, 0, none⟩), .int .i64 now] w fun e w' => ∃ (S : List Int) (c' : Nat) (v gv' : Value), e = .returned (.tuple #[v, .nilIface]) ∧ Rises S ∧ (∀ i, i ∈ S ↔ (g i).isSome = true) ∧ S.length = c ∧ c' ≤ c ∧
      Gp M w' b now again tries top bm c' (fun j => (g j).bind (dueStep again tries now)) gv' (G ++ S.filter (isGive again tries now g)) ∧ w'.ownsRow M 3 1 v (S.filter (isAsk again tries now g)).length ((S.filter (isAsk again tries now g)).map encI) ∧ ApartV v gv' ∧ (∀ k, v.ownBlock = some k → w.heap.size ≤ k) ∧ (∀ k, gv'.ownBlock = some k → gv.ownBlock = some k ∨ w.heap.size ≤ k) ∧ FG b bm gv w w' := by
  have HC := Lib.hid hc
  have HKEY := Lib.hid hkey
  have HVAL := Lib.hid hval
  obtain ⟨hn0, hn1, _⟩ := hc
  obtain ⟨hag0, hag1⟩ := hag
  clear hkey hval
  have k0 := obj_cell h.at_ (k := 0) rfl
  have f0 := obj_free h.at_ 0
  go_enter Tryd.func19, Tryd.ntmps19
  go_wp2_with fail
  refine (clockCheck_ok b 0 cur now HC.out _ k0).mono ?_
  rintro e w' ⟨rfl, rfl⟩
  go_wp2_with fail
  refine (clockSet_any b 0 now _ _ k0 f0).mono ?_
  rintro e w3 ⟨rfl, rfl⟩
  go_upto_region 6 with fail
  refine abs_at (fun y => Gp M y b now again tries top bm c g gv G ∧ Hid (FG b bm gv w y)) ⟨h.set (obj_set h.at_ 0 _), Lib.hid (Keeps.setCell (Keeps.refl _ _) (.inl (.inl rfl)) _)⟩ ?_
  clear h k0 f0
  rintro w4 ⟨h, kb⟩
  go_wp2_with fail
  refine (gapsLacks_any M b now again tries top bm c g gv G (by omega) _ h).mono ?_
  rintro e w5 ⟨vS, S, rfl, hS, hSm, hSc, hrS, k5⟩
  have hMw4 : M ≤ w4.heap.size := Nat.le_trans hM kb.out.size
  have hap : ApartV vS gv := by
    intro k hk e
    have q1 := (hrS.lt k hk).1
    have q2 := (h.row.lt k e).2
    omega
  have hrM : w5.ownsRow M 3 1 vS S.length (S.map encI) := ownsRow_base_a hrS hMw4
  have D0 : Hid (DueSt gv M w w5 b now again tries top bm c g gv G vS S (.slice none 0 0) []) := Lib.hid ⟨h.below k5, hrM, World.ownsRow_nil _ _ _ _, hap, (ApartV.nil _).symm, ApartV.nil _, (fun k hk => by simp [Value.ownBlock] at hk), (fun k hk => .inl hk), Keeps.trans kb.out (Below.toKeeps k5 (Nat.le_refl _))⟩
  clear hap hrM
  have HS := Lib.hid hS
  have HSM := Lib.hid hSm
  have HSC := Lib.hid hSc
  obtain ⟨oaS, capS, rfl, -⟩ := intRow_read hrS
  have hSl : S.length ≤ 1000 := by omega
  clear h kb k5 hS hSm hSc hrS hMw4
  rw [← dueG.start again tries now g S] at D0
  go_wp2_with fail
  go_loopw [7, 27] (fun s7 s27 y => ∃ (k c' : Nat) (gv' : Value), k ≤ S.length ∧ s27 = .int .i64 k ∧ c' ≤ c ∧ Hid (DueSt gv M w y b now again tries top bm c' (dueG again tries now g S k) gv' (G ++ (S.take k).filter (isGive again tries now g)) (.slice oaS S.length capS) S s7 ((S.take k).filter (isAsk again tries now g)))) (fun _ s27 _ => S.length - (intOf s27).toNat)
  case atStart => exact ⟨0, c, gv, by omega, rfl, Nat.le_refl _, by simpa using D0⟩
  case round =>
    clear D0
    obtain ⟨k, c', gv', hk, rfl, hc', D⟩ := hrel
    by_cases hlt : k < S.length
    case neg =>
      obtain rfl : k = S.length := by omega
      have e1 : dueG again tries now g S S.length = fun j => (g j).bind (dueStep again tries now) := by
        funext j
        unfold dueG
        rw [List.take_length]
        by_cases hj : j ∈ S
        · rw [if_pos hj]
        · rw [if_neg hj]
          have : (g j).isSome = false := by
            cases q : (g j).isSome with
            | false => rfl
            | true => exact absurd ((HSM.out j).2 q) hj
          cases hg : g j with
          | none => rfl
          | some p => rw [hg] at this; cases this
      rw [e1, List.take_length] at D
      have E1 := Lib.hid e1
      clear e1
      go_wp2_with fail
      go_ret2
      exact ⟨S, c', _, gv', rfl, HS.out, HSM.out, HSC.out, hc', D.out.gp, D.out.rO, D.out.a3, D.out.o1, D.out.g1, D.out.kb⟩
    have hx : S[k]? = some S[k] := List.getElem?_eq_getElem hlt
    have hmem : S[k] ∈ S := List.getElem_mem hlt
    generalize S[k] = n at *
    have hsome := (HSM.out n).1 hmem
    obtain ⟨hw0, hw1⟩ := HKEY.out n hsome
    have hwn : (Lit.int .i64 n).wf = true := by simp [Lit.wf, IntKind.min, IntKind.max, IntKind.signed, IntKind.bits]; omega
    obtain ⟨⟨t, a⟩, hga⟩ := Option.isSome_iff_exists.1 hsome
    obtain ⟨ht0, ht1, ha0, ha1⟩ := HVAL.out n t a hga
    have HLF := Lib.hid (LF.some (g := dueG again tries now g S k) (i := n) (t := t) (a := a) (by rw [dueG.at_ HS.out hx]; exact hga))
    have HSTEP := Lib.hid (dueG.step (again := again) (tries := tries) (now := now) (g := g) HS.out hx)
    have HTAKE := Lib.hid (take_one hx)
    have HGA := Lib.hid hga
    have HN := Lib.hid hx
    obtain ⟨oa', cap', e', hcell⟩ := intRow_read D.out.rS
    simp only [Value.slice.injEq, true_and] at e'
    obtain ⟨rfl, rfl⟩ := e'
    obtain ⟨gS, rfl, _, _, qx⟩ := hcell k n hx
    have k4 := obj_cell D.out.gp.at_ (k := 4) rfl
    have hm := D.out.gp.map
    clear hcell hx hmem hsome hga
    go_upto_region 12 with (at_lookup; refine wpList_mlook0 _ rfl (.tmp 34) (.tmp 35) 93 rfl 3 99 glaw Tryd.underlying3 Tryd.underlying93 (zeroAsked _) bm c' _ rfl hm n rfl hwn ?_; rw [HLF.out]; simp only [Option.getD_some])
    have bA : Below wr.heap.size wr (wr.alloc (.cells #[.int .i64 t, .int .i64 a] 99)) := (Below.refl _ _).alloc (Nat.le_refl _) _
    refine abs_at (fun y => AskAt y wr.heap.size t a ∧ Hid (DueSt gv M w y b now again tries top bm c' (dueG again tries now g S k) gv' (G ++ (S.take k).filter (isGive again tries now g)) (.slice (some ⟨gS, 0, none⟩) S.length capS) S _ ((S.take k).filter (isAsk again tries now g)))) ⟨obj_new _ _, Lib.hid (D.out.below hM bA)⟩ ?_
    clear bA qx k4 hm D
    generalize wr.heap.size = N
    rintro y ⟨hA, D⟩
    have t0 := obj_cell hA (k := 0) rfl
    have t1 := obj_cell hA (k := 1) rfl
    have a1 := obj_cell D.out.gp.at_ (k := 1) rfl
    have hW : ∃ W, W = isWait again now (t, a) := ⟨_, rfl⟩
    obtain ⟨W, hW⟩ := hW
    have HW := Lib.hid hW
    clear hW
    go_cut [51] (fun v z => v = .bool W ∧ AskAt z N t a ∧ Hid (DueSt gv M w z b now again tries top bm c' (dueG again tries now g S k) gv' (G ++ (S.take k).filter (isGive again tries now g)) (.slice (some ⟨gS, 0, none⟩) S.length capS) S _ ((S.take k).filter (isAsk again tries now g))))
    case first =>
      by_cases h1 : 0 < t
      · have d1 : decide (0 < t) = true := by simpa using h1
        by_cases h2 : now - a < again
        · have d2 : decide (now - a < again) = true := by simpa using h2
          have e : W = true := by rw [HW.out]; simp [isWait, h1, h2]
          subst e
          go_quiet (fail)
          go_wp2_with fail
          go_meet
          exact ⟨rfl, by exact hA, Lib.hid (D.out.drewN _)⟩
        · have d2 : decide (now - a < again) = false := by simpa using h2
          have e : W = false := by rw [HW.out]; simp [isWait, h2]
          subst e
          go_quiet (fail)
          go_wp2_with fail
          go_meet
          exact ⟨rfl, by exact hA, Lib.hid (D.out.drewN _)⟩
      · have d1 : decide (0 < t) = false := by simpa using h1
        have e : W = false := by rw [HW.out]; simp [isWait, h1]
        subst e
        go_quiet (fail)
        go_wp2_with fail
        go_meet
        exact ⟨rfl, by exact hA, Lib.hid (D.out.drewN _)⟩
    case rest =>
    clear t0 t1 a1 hA D y
    obtain ⟨rfl, hA, D⟩ := hcut
    cases W
    case true =>
      have hG' : Hid ((S.take (k + 1)).filter (isGive again tries now g) = (S.take k).filter (isGive again tries now g)) := Lib.hid (by rw [HTAKE.out, List.filter_append]; simp [isGive, HGA.out, ← HW.out])
      have hA' : Hid ((S.take (k + 1)).filter (isAsk again tries now g) = (S.take k).filter (isAsk again tries now g)) := Lib.hid (by rw [HTAKE.out, List.filter_append]; simp [isAsk, HGA.out, ← HW.out])
      have hD' : Hid (dueG again tries now g S (k + 1) = dueG again tries now g S k) := Lib.hid (by
        rw [HSTEP.out]; funext j
        by_cases e : j = n
        · subst e; rw [if_pos rfl, dueG.at_ HS.out HN.out, HGA.out]; simp [dueStep, ← HW.out]
        · rw [if_neg e])
      clear hA
      go_wp2_with fail
      go_roundw
      case measure => simp [intOf]; omega
      case rel => exact ⟨k + 1, c', gv', by omega, by go_num, hc', by rw [hG'.out, hA'.out, hD'.out]; exact D⟩
    case false =>
    have t0 := obj_cell hA (k := 0) rfl
    have a2 := obj_cell D.out.gp.at_ (k := 2) rfl
    by_cases hq : t = tries
    · have d3 : (t == tries) = true := by simpa using hq
      have hwf : isWait again now (tries, a) = false := by rw [← hq]; exact HW.out.symm
      have d4 : decide (t = tries) = true := by simpa using hq
      have hG' : Hid (G ++ (S.take (k + 1)).filter (isGive again tries now g) = (G ++ (S.take k).filter (isGive again tries now g)) ++ [n]) := Lib.hid (by rw [HTAKE.out, List.filter_append]; simp [isGive, HGA.out, hwf, hq])
      have hA' : Hid ((S.take (k + 1)).filter (isAsk again tries now g) = (S.take k).filter (isAsk again tries now g)) := Lib.hid (by rw [HTAKE.out, List.filter_append]; simp [isAsk, HGA.out, hwf, hq])
      have hD' : Hid (dueG again tries now g S (k + 1) = fun j => if j = n then none else dueG again tries now g S k j) := Lib.hid (by
        rw [HSTEP.out]; funext j
        by_cases e : j = n
        · subst e; rw [if_pos rfl, if_pos rfl, HGA.out]; simp [dueStep, hwf, hq]
        · rw [if_neg e, if_neg e])
      have hGl : (G ++ (S.take k).filter (isGive again tries now g)).length ≤ 200000 := by
        have h1 := List.length_filter_le (isGive again tries now g) (S.take k)
        have h2 := List.length_take_le k S
        rw [List.length_append]; omega
      generalize hGg : G ++ (S.take k).filter (isGive again tries now g) = Gk at *
      clear hGg hA hq hwf
      go_upto_region 13 with fail
      go_quiet (fail)
      go_upto_region 14 with fail
      refine abs_at (fun z => Hid (DueSt gv M w z b now again tries top bm c' (dueG again tries now g S k) gv' Gk (.slice (some ⟨gS, 0, none⟩) S.length capS) S _ ((S.take k).filter (isAsk again tries now g)))) (Lib.hid (D.out.drewN _)) ?_
      clear D t0 a2 d3 d4
      rintro z D
      have k4 := obj_cell D.out.gp.at_ (k := 4) rfl
      have hm := D.out.gp.map
      go_upto_region 15 with (at_delete; refine wpList_mdel _ rfl (.tmp 77) (.tmp 78) 93 3 rfl 99 glaw Tryd.underlying3 Tryd.underlying93 bm c' _ rfl hm n rfl hwn ?_; intro w6 hm6 hturn)
      rw [LF.del, HLF.out] at hm6
      simp only [Option.isSome_some, if_true] at hm6
      have D6 := Lib.hid (D.out.mapped hm6 hturn.grown)
      have DA := Lib.hid (D6.out.below hM ((Below.refl _ _).alloc (Nat.le_refl _) (.cells #[.int .i64 n] 3)))
      have RUN := Lib.hid (run_moreInt2 (w6.alloc (.cells #[.int .i64 n] 3)) M gv' n Gk.length (Gk.map encI) DA.out.gp.row w6.heap.size (obj_new _ _) (by omega) (by have := D6.out.kb.size; simp; omega))
      have k5 := obj_cell D6.out.gp.at_ (k := 5) rfl
      clear hm hm6 hturn k4 D D6
      simp only [Act.put]
      go_upto_region 16 with (at_builtin; obtain ⟨vN, wN, hr, ho, hgr, hbk⟩ := RUN.out; obtain ⟨gN, capN, rfl⟩ := Joins.ownsRow_form ho (by omega); refine Lib.wpList_append_run _ rfl (.tmp 83) (.tmp 85) 35 35 rfl _ _ rfl rfl _ _ hr ?_; obtain ⟨hz, DN⟩ := DA.out.give hM hgr ho hbk; have DN := Lib.hid DN; have z5 := obj_cell hz (k := 5) rfl; have y5 := obj_free hz 5; clear hz hr ho hgr hbk)
      clear k5 z5 y5 RUN DA
      go_wp2_with fail
      go_roundw
      case measure => simp [intOf]; omega
      case rel => exact ⟨k + 1, c' - 1, _, by omega, by go_num, by omega, by rw [hG'.out, hA'.out, hD'.out]; exact DN⟩
    · have d3 : (t == tries) = false := by simpa using hq
      have d4 : decide (t = tries) = false := by simpa using hq
      have hG' : Hid ((S.take (k + 1)).filter (isGive again tries now g) = (S.take k).filter (isGive again tries now g)) := Lib.hid (by rw [HTAKE.out, List.filter_append]; simp [isGive, HGA.out, ← HW.out, hq])
      have hA' : Hid ((S.take (k + 1)).filter (isAsk again tries now g) = (S.take k).filter (isAsk again tries now g) ++ [n]) := Lib.hid (by rw [HTAKE.out, List.filter_append]; simp [isAsk, HGA.out, ← HW.out, hq])
      have hD' : Hid (dueG again tries now g S (k + 1) = fun j => if j = n then some (t + 1, now) else dueG again tries now g S k j) := Lib.hid (by
        rw [HSTEP.out]; funext j
        by_cases e : j = n
        · subst e; rw [if_pos rfl, if_pos rfl, HGA.out]; simp [dueStep, ← HW.out, hq]
        · rw [if_neg e, if_neg e])
      have hOl : ((S.take k).filter (isAsk again tries now g)).length ≤ 1000 := by
        have h1 := List.length_filter_le (isAsk again tries now g) (S.take k)
        have h2 := List.length_take_le k S
        omega
      generalize hOg : (S.take k).filter (isAsk again tries now g) = Ok at *
      generalize hGg : G ++ (S.take k).filter (isGive again tries now g) = Gk at *
      clear hOg hq
      go_upto_region 13 with fail
      go_quiet (fail)
      go_upto_region 10 with fail
      refine abs_at (fun z => AskAt z N t a ∧ Hid (DueSt gv M w z b now again tries top bm c' (dueG again tries now g S k) gv' Gk (.slice (some ⟨gS, 0, none⟩) S.length capS) S _ Ok)) ⟨by exact hA, Lib.hid (D.out.drewN _)⟩ ?_
      clear D t0 a2 d3 d4 hA
      rintro z ⟨hA, D⟩
      have k4 := obj_cell D.out.gp.at_ (k := 4) rfl
      have t0 := obj_cell hA (k := 0) rfl
      have hsum : IntKind.i64.wrap (t + 1) = t + 1 := by rw [IntKind.wrap_i64]; omega
      go_still_tail 10, (by kernel_rfl)
      change wpList _ _ _ _ _ z.drew
      have D2 := Lib.hid (D.out.drewN 1)
      change Hid (DueSt gv M w z.drew b now again tries top bm c' (dueG again tries now g S k) gv' Gk (.slice (some ⟨gS, 0, none⟩) S.length capS) S _ Ok) at D2
      clear D k4 t0 hA hsum
      generalize z.drew = z2 at *
      have hm := D2.out.gp.map
      go_upto_region 11 with (at_mapUpdate; refine wpList_mput _ rfl (.tmp 40) (.tmp 41) (.tmp 46) 93 rfl 3 99 glaw Tryd.underlying3 Tryd.underlying93 bm c' _ rfl hm (by unfold maxLen; omega) n (askedV (t + 1) now) rfl rfl hwn ?_; intro w6 hm6 hgr)
      rw [LF.put, HLF.out] at hm6
      simp only [Option.isSome_some, if_true] at hm6
      have D6 := Lib.hid (D2.out.mapped hm6 hgr)
      have DA := Lib.hid (D6.out.below hM ((Below.refl _ _).alloc (Nat.le_refl _) (.cells #[.int .i64 n] 3)))
      have RUN := Lib.hid (run_moreInt2 (w6.alloc (.cells #[.int .i64 n] 3)) M _ n Ok.length (Ok.map encI) DA.out.rO w6.heap.size (obj_new _ _) (by omega) (by have := D6.out.kb.size; simp; omega))
      clear hm hm6 hgr D2 D6
      simp only [Act.put]
      go_upto_region 16 with (at_builtin; obtain ⟨vN, wN, hr, ho, hgr, hbk⟩ := RUN.out; refine Lib.wpList_append_run _ rfl (.tmp 47) (.tmp 49) 35 35 rfl _ _ rfl rfl _ _ hr ?_; have DN := Lib.hid (DA.out.ask hM hgr ho hbk); clear hr ho hgr hbk)
      clear RUN DA
      go_wp2_with fail
      go_roundw
      case measure => simp [intOf]; omega
      case rel => exact ⟨k + 1, c', gv', by omega, by go_num, hc', by rw [hG'.out, hA'.out, hD'.out, hGg]; exact DN⟩
theorem due_ok (M b : Nat) (cur again tries top now : Int) (bm c : Nat) (g : Int → Option (Int × Int)) (gv : Value) (G : List Int) (hc : Pl.clockOk cur now) (hcc : c ≤ 1000) (hG : G.length ≤ 100000)
    (hag : 0 ≤ again ∧ again ≤ 1000000) (hkey : ∀ j, (g j).isSome = true → 0 ≤ j ∧ j ≤ 1099511627776) (hval : ∀ j t a, g j = some (t, a) → 0 ≤ t ∧ t ≤ 1000 ∧ 0 ≤ a ∧ a ≤ 1000000) (w : World) (hM : M ≤ w.heap.size) (h : Gp M w b cur again tries top bm c g gv G) :
    Calls Tryd.prog 19 #[.pointer (some ⟨b, 0, none⟩), .int .i64 now] w fun e w' => ∃ (S : List Int) (c' : Nat) (v gv' : Value), e = .returned (.tuple #[v, .nilIface]) ∧ Rises S ∧ (∀ i, i ∈ S ↔ (g i).isSome = true) ∧ S.length = c ∧ c' ≤ c ∧
      Gp M w' b now again tries top bm c' (fun j => (g j).bind (dueStep again tries now)) gv' (G ++ S.filter (isGive again tries now g)) ∧ w'.ownsRow M 3 1 v (S.filter (isAsk again tries now g)).length ((S.filter (isAsk again tries now g)).map encI) ∧ ApartV v gv' ∧ Below M w w' :=
  (due_ok' M b cur again tries top now bm c g gv G hc hcc hG hag hkey hval w hM h).mono fun e w' ⟨S, c', v, gv', q1, q2, q3, q4, q5, q6, q7, q8, _, _, q9⟩ => ⟨S, c', v, gv', q1, q2, q3, q4, q5, q6, q7, q8, FG.below q9 h hM⟩
end Go.Proofs.YtlfdkoebjddokaaDoor
