import Derived.Test.YthddmifaidokiaaPAsk
/-! The walk of the law GapsAsk. -/
namespace Go.Proofs.Ythddmifaidokiaa
open Go.RowKit Go.Maps
set_option linter.unusedVariables false
set_option linter.unusedSimpArgs false
theorem askHear (M b : Nat) (cur again tries top now : Int) (bm c : Nat) (g : Int → Option (Int × Int)) (wh o : Nat → Int) (cm : Nat → Bool) (n : Nat) (hn : n < 150) (hc : Pl.clockOk cur now) (ht : 0 ≤ tries) (St : AskSt again tries now top g wh o cm) (w : World) (hM : M ≤ w.heap.size) (h : Gp M w b cur again tries top bm c g (.slice none 0 0) []) :
    Calls Try.prog 7 #[.pointer (some ⟨b, 0, none⟩), .int .i64 (n : Int), .int .i64 now] w fun e w' => ∃ (is : Bool) (top' : Int) (c' : Nat) (g' : Int → Option (Int × Int)), e = .returned (.tuple #[.bool is, .nilIface]) ∧ Gp M w' b now again tries top' bm c' g' (.slice none 0 0) [] ∧
      (is = true → cm n = false) ∧ AskSt again tries now top' g' wh o (fun m => if m = n then true else cm m) ∧ FG b bm (.slice none 0 0) w w' := by
  have hl : Pl.long (n : Int) = true := by simp [Pl.long]; omega
  have hlow := St.low
  have hfew := St.few h.map glaw Try.underlying3
  have h0n : 0 ≤ now := hc.1
  by_cases h1 : top < 0
  · have hg : g n = none := by
      cases q : g n with
      | none => rfl
      | some v => have := St.key n (by rw [q]; rfl); omega
    refine (hear_first' M b cur again tries top n now bm c g _ _ hc hl (by omega) (by omega) h1 hg w hM h).mono ?_
    rintro e w' ⟨rfl, G', k'⟩
    exact ⟨true, n, c, g, rfl, G', fun _ => (St.above n (by omega)).1, St.mark hn (by omega) (by omega) (by omega) hg (fun j _ => .inl rfl) ht h0n, k'⟩
  · by_cases h2 : top < (n : Int)
    · have hg : g n = none := by
        cases q : g n with
        | none => rfl
        | some v => have := St.key n (by rw [q]; rfl); omega
      refine (hear_above' M b cur again tries top n now bm c g _ _ hc hl (by omega) (by omega) (by omega) h2 (by omega) hg w hM h).mono ?_
      rintro e w' ⟨c', rfl, G', hc', k'⟩
      refine ⟨true, n, c', _, rfl, G', fun _ => (St.above n (by omega)).1, St.mark hn (by omega) (by omega) (by omega) ?_ (fun j hj => ?_) ht h0n, k'⟩
      · unfold fillG; rw [if_neg (by omega)]; exact hg
      · unfold fillG
        by_cases e : top < j ∧ j < (n : Int)
        · exact .inr ⟨e.1, e.2, by rw [if_pos e]⟩
        · exact .inl (by rw [if_neg e])
    · cases hg : g n with
      | some v =>
        obtain ⟨t, a⟩ := v
        refine (hear_lacking' M b cur again tries top n now bm c g _ _ hc hl (by omega) (by omega) (by omega) (by omega) t a hg w hM h).mono ?_
        rintro e w' ⟨rfl, G', k'⟩
        refine ⟨true, top, c - 1, _, rfl, G', fun _ => (St.val n t a hg).1, St.mark hn (by omega) (by omega) (by omega) ?_ (fun j hj => ?_) ht h0n, k'⟩
        · simp
        · exact .inl (by simp [hj])
      | none =>
        refine (hear_known' M b cur again tries top n now bm c g _ _ hc hl (by omega) (by omega) (by omega) (by omega) hg w hM h).mono ?_
        rintro e w' ⟨rfl, G', k'⟩
        exact ⟨false, top, c, g, rfl, G', (fun h => by cases h), St.mark hn (by omega) (by omega) (by omega) hg (fun j _ => .inl rfl) ht h0n, k'⟩
/-- the law's memory -/
structure AM (w y : World) (b : Nat) (now again tries top : Int) (bm c : Nat) (g : Int → Option (Int × Int)) (B0 B1 B2 : Nat) (wh o : Nat → Int) (cm : Nat → Bool) : Prop where
  gp : Gp w.heap.size y b now again tries top bm c g (.slice none 0 0) []
  aw : ArrAt encI 300 34 y B0 wh
  ao : ArrAt encI 300 34 y B1 o
  ac : ArrAt encBl 300 35 y B2 cm
  kb : Below w.heap.size w y
/-- no two blocks of the law are one -/
def ApartB (w : World) (b bm B0 B1 B2 : Nat) : Prop := w.heap.size ≤ B0 ∧ w.heap.size ≤ B1 ∧ w.heap.size ≤ B2 ∧ B0 ≠ b ∧ B0 ≠ bm ∧ B1 ≠ b ∧ B1 ≠ bm ∧ B2 ≠ b ∧ B2 ≠ bm ∧ B0 ≠ B1 ∧ B0 ≠ B2 ∧ B1 ≠ B2
theorem zero300i (w : World) : (zeroValue 34).run Try.prog w = .ok (.agg (Array.replicate 300 (.int .i64 0))) w := by kernel_rfl
theorem zero300b (w : World) : (zeroValue 35).run Try.prog w = .ok (.agg (Array.replicate 300 (.bool false))) w := by kernel_rfl
def arr0i : Array Value := Array.replicate 300 (.int .i64 0)
def arr0b : Array Value := Array.replicate 300 (.bool false)
set_option maxRecDepth 100000 in
set_option maxHeartbeats 8000000 in
theorem walk_GapsAsk_run (w : World) (again tries : Int) (oa1 : Option Addr) (n1 c1 : Nat) (z1 : Nat → Int) (hm1 : n1 ≤ maxLen) (hz1 : ∀ k, k < n1 → ∃ b f, oa1 = some ⟨b, f, none⟩ ∧ b < w.heap.size ∧ w.cell? ⟨b, f + k, none⟩ = some (.int .i64 (z1 k)) ∧ -9223372036854775808 ≤ z1 k ∧ z1 k ≤ 9223372036854775807)
    (oa2 : Option Addr) (n2 c2 : Nat) (z2 : Nat → Int) (hm2 : n2 ≤ maxLen) (hz2 : ∀ k, k < n2 → ∃ b f, oa2 = some ⟨b, f, none⟩ ∧ b < w.heap.size ∧ w.cell? ⟨b, f + k, none⟩ = some (.int .i64 (z2 k)) ∧ -9223372036854775808 ≤ z2 k ∧ z2 k ≤ 9223372036854775807) :
    Calls Try.prog 4 #[.int .i64 again, .int .i64 tries, .slice oa1 n1 c1, .slice oa2 n2 c2] w fun e w' => e = .returned (.bool true) ∧ Below w.heap.size w w' := by
  have HZ1 := Lib.hid hz1
  have HZ2 := Lib.hid hz2
  clear hz1 hz2
  unfold maxLen at hm1 hm2
  go_enter Try.func4, Try.ntmps4
  go_wp2_with fail
  refine (gapsNew_ok 3 2 (by decide) (by decide) (by decide) (by decide) _).mono ?_
  rintro e w3 ⟨b, bm, rfl, G3, k3⟩
  go_wp2_with fail
  refine (hear_first w.heap.size b 0 3 2 (-1) 5 0 bm 0 _ _ _ ⟨by decide, by decide, by decide⟩ (by decide) (by decide) (by decide) (by decide) rfl _ k3.size G3).mono ?_
  rintro e w4 ⟨rfl, G4, k4⟩
  have kb4 := k3.trans k4
  clear G3 k3 k4
  go_wp2_with fail
  refine (hear_above w.heap.size b 0 3 2 5 7 0 bm 0 _ _ _ ⟨by decide, by decide, by decide⟩ (by decide) (by decide) (by decide) (by decide) (by decide) (by decide) rfl _ kb4.size G4).mono ?_
  rintro e w5 ⟨c5, rfl, G5, hc5, k5⟩
  have kb5 := kb4.trans k5
  have HG : Hid (∀ j, fillG (fun _ => none) 5 7 j = if j = 6 then some (0, 0) else none) := Lib.hid (fun j => by
    unfold fillG
    by_cases e : j = 6
    · rw [if_pos (by omega), if_pos e]
    · rw [if_neg (by omega), if_neg e])
  generalize fillG (fun _ => none) 5 7 = g5 at *
  clear G4 kb4 k5
  go_wp2_with fail
  refine (due_ok w.heap.size b 0 3 2 7 0 bm c5 g5 _ _ ⟨by decide, by decide, by decide⟩ (by omega) (by simp) ⟨by decide, by decide⟩ (fun j hj => by rw [HG.out] at hj; split at hj; omega; cases hj) (fun j t a hj => by rw [HG.out] at hj; split at hj; simp at hj; omega; cases hj) _ kb5.size G5).mono ?_
  rintro e w6 ⟨L, c6, v6, gv6, rfl, hR, hmem, -, -, -, r6, -, k6⟩
  have kb6 := Lib.hid (kb5.trans k6)
  have hone : L = [6] := rises_one' hR (fun i => by
    rw [hmem i, HG.out]
    by_cases e : i = 6 <;> simp [e])
  subst hone
  have hask : [(6 : Int)].filter (isAsk 3 2 0 g5) = [6] := by simp [isAsk, isWait, HG.out 6]
  obtain ⟨oa6, cap6, rfl, hread⟩ := intRow_read r6
  rw [hask] at hread ⊢
  obtain ⟨gg, rfl, _, _, qc⟩ := hread 0 6 rfl
  simp only [List.length_cons, List.length_nil, Nat.zero_add]
  clear hread hmem hR hask r6 G5 kb5 k6 HG hc5
  go_upto_region 9 with fail
  clear qc
  refine abs_at (fun y => Hid (Below w.heap.size w y)) kb6 ?_
  clear kb6
  rintro w7 kb7
  as_aux_lemma =>
  by_cases hin : 1 ≤ again ∧ again ≤ 1000000 ∧ 1 ≤ tries ∧ tries ≤ 20
  case neg =>
    as_aux_lemma =>
    have HIN := Lib.hid hin
    go_wp2_with fail
    refine (gapsNew_bad again tries hin _).mono ?_
    rintro e w8 ⟨rfl, rfl⟩
    clear hin
    go_wp2_with fail
    all_goals first
      | (exfalso; have := HIN.out; omega)
      | (go_ret; exact ⟨ret_bool (by have := HIN.out; simp <;> omega), kb7.out⟩)
  obtain ⟨hag1, hag2, htr1, htr2⟩ := hin
  go_wp2_with fail
  refine (gapsNew_ok again tries hag1 hag2 htr1 htr2 _).mono ?_
  rintro e w8 ⟨b, bm, rfl, G8, k8⟩
  have kb8 := Lib.hid (kb7.out.trans (k8.mono kb7.out.size))
  by_cases hag3 : again ≤ 1000
  case neg =>
    as_aux_lemma =>
    clear G8 k8
    go_wp2_with fail
    go_ret
    exact ⟨by simp, kb8.out⟩
  have G8' : Hid (Gp w.heap.size w8 b 0 again tries (-1) bm 0 (fun _ => none) (.slice none 0 0) []) := Lib.hid ⟨G8.at_, G8.map, G8.ne, World.ownsRow_nil _ _ _ _, by have := G8.low; have := kb7.out.size; omega⟩
  clear G8 k8 kb7
  have hzi := zero300i
  have hzb := zero300b
  go_upto_region 16 with fail
  clear hzi hzb
  have hb8 : b < w8.heap.size := lt_of_block G8'.out.at_
  have hbm8 : bm < w8.heap.size := G8'.out.map.lt
  have hAB : ApartB w b bm w8.heap.size (w8.heap.size + 1) (w8.heap.size + 1 + 1) := by have := kb8.out.size; unfold ApartB; omega
  refine abs_at (fun y => AM w y b 0 again tries (-1) bm 0 (fun _ => none) w8.heap.size (w8.heap.size + 1) (w8.heap.size + 1 + 1) (fun _ => 0) (fun _ => 0) (fun _ => false)) ⟨?_, ?_, ?_, ?_, ?_⟩ ?_
  · exact G8'.out.below ((((Below.refl _ _).alloc (Nat.le_refl _) _).alloc (by simp) _).alloc (by simp <;> omega) _)
  · exact ((ArrAt.new (enc := encI) w8 _ 300 0).below ((((Below.refl _ _).alloc (Nat.le_refl _) _).alloc (by simp) _)) (by simp))
  · have q := ArrAt.new (enc := encI) (w8.alloc (.cells (Array.replicate 300 (.int .i64 0)) 34)) 34 300 0
    simp only [World.size_alloc] at q
    exact q.below ((Below.refl _ _).alloc (Nat.le_refl _) _) (by simp)
  · have q := ArrAt.new (enc := encBl) ((w8.alloc (.cells (Array.replicate 300 (.int .i64 0)) 34)).alloc (.cells (Array.replicate 300 (.int .i64 0)) 34)) 35 300 false
    simp only [World.size_alloc] at q
    exact q
  · exact ((kb8.out.alloc kb8.out.size _).alloc (by have := kb8.out.size; simp; omega) _).alloc (by have := kb8.out.size; simp; omega) _
  clear G8' kb8 hb8 hbm8
  generalize w8.heap.size + 1 + 1 = B2 at *
  generalize w8.heap.size + 1 = B1 at *
  generalize w8.heap.size = B0 at *
  have HAB := Lib.hid hAB
  clear hAB
  rintro w9 A9
  as_aux_lemma =>
  have A9 := Lib.hid A9
  have S9 := Lib.hid (AskSt.start again tries)
  go_wp2_with fail
  go_loopw [19, 23] (fun s19 s23 wr => ∃ (k : Nat) (now top cur : Int) (c : Nat) (g : Int → Option (Int × Int)) (wh o : Nat → Int) (cm : Nat → Bool), k ≤ n1 ∧ k ≤ 60 ∧ s23 = .int .i64 k ∧ s19 = .int .i64 now ∧ 0 ≤ now ∧ now ≤ k * 1000 ∧ cur ≤ now ∧ Hid (AM w wr b cur again tries top bm c g B0 B1 B2 wh o cm) ∧ Hid (AskSt again tries now top g wh o cm)) (fun _ s23 _ => 60 - (intOf s23).toNat)
  case atStart => exact ⟨0, 0, -1, 0, 0, _, _, _, _, by omega, by omega, rfl, rfl, by omega, by omega, by omega, A9, S9⟩
  case round =>
    as_aux_lemma =>
    clear A9 S9
    obtain ⟨k, now, top, cur, c, g, wh, o, cm, hk, hk60, rfl, rfl, hn0, hn1, hcur, A, St⟩ := hrel
    by_cases hlt : k < n1 ∧ k < 60
    case neg =>
      as_aux_lemma =>
      have hlt' := hlt
      clear hlt
      have KB := Lib.hid A.out.kb
      clear A St
      by_cases hl1 : k < n1
      · have hl2 : k = 60 := by omega
        subst hl2
        go_wp2_with fail
        go_ret
        exact ⟨rfl, KB.out⟩
      · go_wp2_with fail
        go_ret
        exact ⟨rfl, KB.out⟩
    obtain ⟨hlt1, hlt2⟩ := hlt
    obtain ⟨a1, o1, rfl, hlt0, qz, qz0, qz1⟩ := HZ1.out k hlt1
    have QZ := Lib.hid (fun (y : World) (h : Below w.heap.size w y) => (h.cell (p := ⟨a1, o1 + k, none⟩) hlt0).trans qz)
    clear qz hlt0
    generalize z1 k = n at *
    have hg2 : ∃ gd, gd = (decide (k < n2) && (decide (0 ≤ z2 k) && decide (z2 k < 1000))) := ⟨_, rfl⟩
    obtain ⟨gd, hgd⟩ := hg2
    have HGD := Lib.hid hgd
    clear hgd
    go_upto_region 19 with fail
    go_cut [141] (fun v x => v = .bool gd ∧ wr = x)
    case first =>
      as_aux_lemma =>
      by_cases hl2 : k < n2
      · obtain ⟨a2, o2, rfl, hlt0, qz, y0, y1⟩ := HZ2.out k hl2
        have q2 := (A.out.kb.cell (p := ⟨a2, o2 + k, none⟩) hlt0).trans qz
        clear qz hlt0
        generalize z2 k = zz at *
        by_cases h1 : 0 ≤ zz
        · by_cases h2 : zz < 1000
          · have e : gd = true := by rw [HGD.out]; simp [hl2, h1, h2]
            subst e
            go_wp2_with fail
            go_meet
            exact ⟨rfl, rfl⟩
          · have e : gd = false := by rw [HGD.out]; simp [h2]
            subst e
            go_wp2_with fail
            go_meet
            exact ⟨by simp <;> omega, rfl⟩
        · have e : gd = false := by rw [HGD.out]; simp [h1]
          subst e
          go_wp2_with fail
          go_meet
          exact ⟨rfl, rfl⟩
      · have e : gd = false := by rw [HGD.out]; simp [hl2]
        subst e
        go_wp2_with fail
        go_meet
        exact ⟨rfl, rfl⟩
    case rest =>
    as_aux_lemma =>
    obtain ⟨hv, hw⟩ := hcut
    subst hv
    subst hw
    go_upto_if 141 with fail
    go_cut [19] (fun s19 x => ∃ now2 : Int, s19 = .int .i64 now2 ∧ now ≤ now2 ∧ now2 ≤ now + 999 ∧ wr = x)
    case first =>
      as_aux_lemma =>
      cases gd
      · go_wp2_with fail
        go_meet
        exact ⟨now, rfl, by omega, by omega, rfl⟩
      · have e := HGD.out
        simp only [Bool.true_eq, Bool.and_eq_true, decide_eq_true_eq] at e
        obtain ⟨hl2, h1, h2⟩ := e
        obtain ⟨a2, o2, rfl, hlt0, qz, y0, y1⟩ := HZ2.out k hl2
        have q2 := (A.out.kb.cell (p := ⟨a2, o2 + k, none⟩) hlt0).trans qz
        clear qz hlt0
        generalize z2 k = zz at *
        go_wp2_with fail
        go_meet
        exact ⟨now + zz, rfl, by omega, by omega, rfl⟩
    case rest =>
    as_aux_lemma =>
    obtain ⟨now2, rfl, hn2, hn3, hw⟩ := hcut
    subst hw
    have St := Lib.hid (St.out.later hn2)
    clear HGD
    have q1 := QZ.out wr A.out.kb
    have hir : ∃ ir, ir = (decide (0 ≤ n) && decide (n < 150)) := ⟨_, rfl⟩
    obtain ⟨ir, hir⟩ := hir
    have HIR := Lib.hid hir
    clear hir
    go_upto_region 22 with fail
    go_cut [157] (fun v x => v = .bool ir ∧ wr = x)
    case first =>
      as_aux_lemma =>
      by_cases h1 : 0 ≤ n
      · by_cases h2 : n < 150
        · have e : ir = true := by rw [HIR.out]; simp [h1, h2]
          subst e
          go_wp2_with fail
          go_meet
          exact ⟨rfl, rfl⟩
        · have e : ir = false := by rw [HIR.out]; simp [h2]
          subst e
          go_wp2_with fail
          go_meet
          exact ⟨by simp <;> omega, rfl⟩
      · have e : ir = false := by rw [HIR.out]; simp [h1]
        subst e
        go_wp2_with fail
        go_meet
        exact ⟨rfl, rfl⟩
    case rest =>
    as_aux_lemma =>
    obtain ⟨hv, hw⟩ := hcut
    subst hv
    subst hw
    clear q1 QZ
    go_upto_if 157 with fail
    go_cut [25, 26] (fun _ _ x => ∃ (top2 cur2 : Int) (c2 : Nat) (g2 : Int → Option (Int × Int)) (cm2 : Nat → Bool), cur2 ≤ now2 ∧ Hid (AM w x b cur2 again tries top2 bm c2 g2 B0 B1 B2 wh o cm2) ∧ Hid (AskSt again tries now2 top2 g2 wh o cm2))
    case first =>
      as_aux_lemma =>
      cases ir
      · go_wp2_with fail
        go_meet
        exact ⟨top, cur, c, g, cm, by omega, A, St⟩
      · have e := HIR.out
        simp only [Bool.true_eq, Bool.and_eq_true, decide_eq_true_eq] at e
        obtain ⟨hi1, hi2⟩ := e
        obtain ⟨m, rfl⟩ := Int.eq_ofNat_of_zero_le hi1
        have hm150 : m < 150 := by omega
        have hcl : Pl.clockOk cur now2 := ⟨by omega, by omega, by omega⟩
        go_wp2_with fail
        refine (askHear w.heap.size b cur again tries top now2 bm c g wh o cm m hm150 hcl (by omega) St.out _ A.out.kb.size A.out.gp).mono ?_
        rintro e w10 ⟨is, top2, c2, g2, rfl, G2, his, St2, k2⟩
        have hab := HAB.out
        unfold ApartB at hab
        have A2 := Lib.hid (AM.mk (w := w) G2 (A.out.aw.keep k2 (by simp [Value.ownBlock]; omega)) (A.out.ao.keep k2 (by simp [Value.ownBlock]; omega)) (A.out.ac.keep k2 (by simp [Value.ownBlock]; omega)) (A.out.kb.trans (FG.below k2 A.out.gp A.out.kb.size)))
        have St2 := Lib.hid St2
        have qm := A2.out.ac.cell m (by omega)
        have fm := A2.out.ac.free m
        have HIS := Lib.hid his
        clear A St G2 his k2 HIR hcl
        have A3 : Hid (AM w (w10.setCell ⟨B2, m, none⟩ (.bool true)) b now2 again tries top2 bm c2 g2 B0 B1 B2 wh o (fun j => if j = m then true else cm j)) := Lib.hid ⟨A2.out.gp.keep (S := fun k => k = B2) (Keeps.setCell (S := fun k => k = B2) (Keeps.refl _ _) (.inl rfl) _) (by omega) (by omega) (fun j hj => by simp [Value.ownBlock] at hj), A2.out.aw.setOther (by show B2 ≠ B0; omega) _, A2.out.ao.setOther (by show B2 ≠ B1; omega) _, A2.out.ac.set m true, A2.out.kb.setCell (by show _ ≤ B2; omega) _⟩
        clear hab
        cases is
        · go_wp2_with fail
          go_meet
          exact ⟨top2, now2, c2, g2, _, by omega, A3, St2⟩
        · have hcm := HIS.out rfl
          rw [hcm] at qm
          clear hcm
          go_wp2_with fail
          go_meet
          exact ⟨top2, now2, c2, g2, _, by omega, A3, St2⟩
    case rest =>
    as_aux_lemma =>
    clear A St HIR
    obtain ⟨top2, cur2, c2, g2, cm2, hcur2, A, St⟩ := hcut
    have hfew := St.out.few A.out.gp.map glaw Try.underlying3
    have hl2 := St.out.low
    have hc2 : c2 ≤ 150 := by omega
    go_wp2_with fail
    refine (due_ok' w.heap.size b cur2 again tries top2 now2 bm c2 g2 (.slice none 0 0) [] ⟨by omega, by omega, by omega⟩ (by omega) (by simp) ⟨by omega, by omega⟩ St.out.bound (St.out.vals htr2 (by omega)) _ A.out.kb.size A.out.gp).mono ?_
    rintro e w11 ⟨S, c3, vD, gv3, rfl, hR, hmem, hlen, hc3, G3, rD, hap, hO, hGv, k11⟩
    obtain ⟨oaD, capD, rfl, hreadD⟩ := intRow_read rD
    have hab := HAB.out
    unfold ApartB at hab
    have hB0 := A.out.aw.lt
    have hB1 := A.out.ao.lt
    have hB2 := A.out.ac.lt
    have AW := Lib.hid (A.out.aw.keep k11 (by simp [Value.ownBlock]; omega))
    have AO := Lib.hid (A.out.ao.keep k11 (by simp [Value.ownBlock]; omega))
    have AC := Lib.hid (A.out.ac.keep k11 (by simp [Value.ownBlock]; omega))
    have KB := Lib.hid (A.out.kb.trans (FG.below k11 A.out.gp A.out.kb.size))
    have HNEW := Lib.hid (show (∀ j, gv3.ownBlock = some j → j ≠ B0 ∧ j ≠ B1 ∧ j ≠ B2) ∧ (∀ j, (Value.slice oaD (S.filter (isAsk again tries now2 g2)).length capD).ownBlock = some j → j ≠ B0 ∧ j ≠ B1 ∧ j ≠ B2) from
      ⟨fun j hj => by rcases hGv j hj with q | q; simp [Value.ownBlock] at q; omega, fun j hj => by have := hO j hj; omega⟩)
    have HR := Lib.hid hR
    have HMEM := Lib.hid hmem
    have HD := Lib.hid hreadD
    have GG := Lib.hid G3
    have hSl : S.length ≤ 150 := by omega
    have hDl : (S.filter (isAsk again tries now2 g2)).length ≤ 150 := Nat.le_trans (List.length_filter_le _ _) hSl
    have hVl : (S.filter (isGive again tries now2 g2)).length ≤ 150 := Nat.le_trans (List.length_filter_le _ _) hSl
    have RD := Lib.hid (rises_filter hR (isAsk again tries now2 g2))
    have ASKS := Lib.hid (fun d (h : d ∈ S.filter (isAsk again tries now2 g2)) => St.out.asks hmem h)
    have GIVES := Lib.hid (fun d (h : d ∈ S.filter (isGive again tries now2 g2)) => St.out.gives hmem h)
    have DUE := Lib.hid (St.out.due (V := S.filter (isGive again tries now2 g2)) hmem (fun i => Iff.rfl) (by omega))
    have RV := Lib.hid (rises_filter hR (isGive again tries now2 g2))
    simp only [List.nil_append] at GG
    clear hR hmem hreadD G3 rD hap hO hGv k11 A St hB0 hB1 hB2 hfew hl2 hab HR HMEM hlen
    generalize hDD : S.filter (isAsk again tries now2 g2) = D at *
    generalize hVV : S.filter (isGive again tries now2 g2) = V at *
    clear hDD hVV
    have A0 : Hid (ArrAt encI 300 34 w11 B0 (upTo D 0 (fun _ _ => now2) wh)) := by rw [upTo.start]; exact AW
    have O0 : Hid (ArrAt encI 300 34 w11 B1 (upTo D 0 (fun _ x => x + 1) o)) := by rw [upTo.start]; exact AO
    have Z0 : Hid (Keeps (fun j => j = B0 ∨ j = B1) w11 w11) := Lib.hid (Keeps.refl _ _)
    clear AW AO
    as_aux_lemma =>
    go_wp2_with fail
    go_loopw [29] (fun s29 y => ∃ kk : Nat, kk ≤ D.length ∧ s29 = .int .i64 kk ∧ Hid (ArrAt encI 300 34 y B0 (upTo D kk (fun _ _ => now2) wh)) ∧ Hid (ArrAt encI 300 34 y B1 (upTo D kk (fun _ x => x + 1) o)) ∧ Hid (Keeps (fun j => j = B0 ∨ j = B1) w11 y)) (fun s29 _ => D.length - (intOf s29).toNat)
    case atStart => exact ⟨0, by omega, rfl, A0, O0, Z0⟩
    case round =>
      as_aux_lemma =>
      clear A0 O0 Z0
      obtain ⟨kk, hkk, rfl, A0, O0, Z0⟩ := hrel
      have hab := HAB.out
      unfold ApartB at hab
      by_cases hl : kk < D.length
      case neg =>
        as_aux_lemma =>
        obtain rfl : kk = D.length := by omega
        have G4 := Lib.hid (GG.out.keep Z0.out (by omega) (by omega) (fun j hj => by have := HNEW.out.1 j hj; omega))
        have C0 : Hid (ArrAt encBl 300 35 wr B2 (upTo V 0 (fun _ _ => true) cm2)) := by rw [upTo.start]; exact Lib.hid (AC.out.keep Z0.out (by omega))
        have kbz : Hid (Below w.heap.size w wr) := Lib.hid (KB.out.trans (Keeps.below Z0.out KB.out.size (fun j hj e => by rcases e with e | e <;> omega)))
        rw [upTo.done] at A0 O0
        clear GG AC KB Z0 HD ASKS RD
        go_wp2_with fail
        refine (gaveUp_any' w.heap.size b now2 again tries top2 bm c3 _ gv3 V (by omega) _ kbz.out.size G4.out).mono ?_
        rintro e w12 ⟨rfl, G5, rV, k12⟩
        rw [rises_sorted RV.out] at rV
        obtain ⟨oaV, capV, rfl, hreadV⟩ := intRow_read rV
        have A1 := Lib.hid (A0.out.keep k12 (by rintro (q | q | q) <;> first | omega | exact (HNEW.out.1 _ q).1 rfl))
        have O1 := Lib.hid (O0.out.keep k12 (by rintro (q | q | q) <;> first | omega | exact (HNEW.out.1 _ q).2.1 rfl))
        have C1 := Lib.hid (C0.out.keep k12 (by rintro (q | q | q) <;> first | omega | exact (HNEW.out.1 _ q).2.2 rfl))
        have kb1 := Lib.hid (kbz.out.trans (FG.below k12 G4.out kbz.out.size))
        have HV := Lib.hid hreadV
        have HNV := Lib.hid HNEW.out.1
        have G5 := Lib.hid G5
        have Z1 : Hid (Keeps (fun j => j = B2) w12 w12) := Lib.hid (Keeps.refl _ _)
        clear A0 O0 C0 kbz k12 rV hreadV HNEW G4
        go_wp2_with fail
        go_loopw [32] (fun s32 y => ∃ kk : Nat, kk ≤ V.length ∧ s32 = .int .i64 kk ∧ Hid (ArrAt encBl 300 35 y B2 (upTo V kk (fun _ _ => true) cm2)) ∧ Hid (Keeps (fun j => j = B2) w12 y)) (fun s32 _ => V.length - (intOf s32).toNat)
        case atStart => exact ⟨0, by omega, rfl, C1, Z1⟩
        case round =>
          as_aux_lemma =>
          clear C1 Z1
          obtain ⟨kk, hkk, rfl, C1, Z1⟩ := hrel
          by_cases hl : kk < V.length
          case neg =>
            as_aux_lemma =>
            obtain rfl : kk = V.length := by omega
            rw [upTo.done] at C1
            have AF : Hid (AM w wr b now2 again tries top2 bm c3 _ B0 B1 B2 _ _ _) := Lib.hid ⟨G5.out.keep Z1.out (by omega) (by omega) (fun j hj => by simp [Value.ownBlock] at hj), A1.out.keep Z1.out (by omega), O1.out.keep Z1.out (by omega), C1.out, kb1.out.trans (Keeps.below Z1.out kb1.out.size (fun j hj e => by omega))⟩
            clear G5 A1 O1 C1 kb1 Z1 HV hab
            go_wp2_with fail
            go_roundw
            case measure => simp [intOf]; omega
            case rel => exact ⟨k + 1, now2, top2, now2, c3, _, _, _, _, by omega, by omega, by go_num, rfl, by omega, by omega, by omega, AF, DUE⟩
          have hx : V[kk]? = some V[kk] := List.getElem?_eq_getElem hl
          have hmemV : V[kk] ∈ V := List.getElem_mem hl
          obtain ⟨m, hm, hm150, hcm, hom, hnot⟩ := GIVES.out _ hmemV
          rw [hm] at hx hnot
          obtain ⟨gV, rfl, _, hgl, hcell⟩ := HV.out kk m hx
          have hgB : gV ≠ B2 := (HNV.out gV (by simp [Value.ownBlock])).2.2
          have qx := (Z1.out.cell (p := ⟨gV, kk, none⟩) hgl hgB).trans hcell
          have q2 := C1.out.cell m (by omega)
          rw [upTo.at_ RV.out hx, hcm] at q2
          have q1 := (O1.out.keep Z1.out (by omega)).cell m (by omega)
          rw [if_neg hnot, hom] at q1
          have f2 := C1.out.free m
          have HX := Lib.hid hx
          have C2 : Hid (ArrAt encBl 300 35 (wr.setCell ⟨B2, m, none⟩ (.bool true)) B2 (upTo V (kk + 1) (fun _ _ => true) cm2)) := Lib.hid (by
            have q := C1.out.set m true
            rw [← upTo.step RV.out hx]
            exact q)
          have Z2 : Hid (Keeps (fun j => j = B2) w12 (wr.setCell ⟨B2, m, none⟩ (.bool true))) := Lib.hid (Keeps.setCell Z1.out (.inl rfl) _)
          have hm150' : (m : Int) < 150 := by omega
          have hbe : ((tries : Int) == tries) = true := by simp
          clear hcell hgl hgB hmemV hm hcm hom hnot hx C1 Z1 hab
          go_wp2_with fail
          go_roundw
          case measure => simp [intOf]; omega
          case rel => exact ⟨kk + 1, by omega, by go_num, C2, Z2⟩
      have hB01 : B0 ≠ B1 := hab.2.2.2.2.2.2.2.2.2.1
      have hB10 : B1 ≠ B0 := Ne.symm hB01
      have hx : D[kk]? = some D[kk] := List.getElem?_eq_getElem hl
      have hmemD : D[kk] ∈ D := List.getElem_mem hl
      obtain ⟨m, hm, hm150, hcm, hwait, hot, ho0⟩ := ASKS.out _ hmemD
      rw [hm] at hx
      obtain ⟨gD, rfl, _, hgl, hcell⟩ := HD.out kk m hx
      have hgB := HNEW.out.2 gD (by simp [Value.ownBlock])
      have qx := (Z0.out.cell (p := ⟨gD, kk, none⟩) hgl (by show ¬ (gD = B0 ∨ gD = B1); omega)).trans hcell
      have q2 := (AC.out.keep Z0.out (by omega)).cell m (by omega)
      rw [hcm] at q2
      have q1 := O0.out.cell m (by omega)
      rw [upTo.at_ RD.out hx] at q1
      have q0 := A0.out.cell m (by omega)
      rw [upTo.at_ RD.out hx] at q0
      have f1 := O0.out.free m
      have f0 := A0.out.free m
      have O2 : Hid (ArrAt encI 300 34 ((wr.setCell ⟨B1, m, none⟩ (.int .i64 (o m + 1))).setCell ⟨B0, m, none⟩ (.int .i64 now2)) B1 (upTo D (kk + 1) (fun _ x => x + 1) o)) := Lib.hid (by
        have q := (O0.out.set m (o m + 1)).setOther (a := ⟨B0, m, none⟩) (by show B0 ≠ B1; omega) (.int .i64 now2)
        rw [← upTo.step RD.out hx]
        exact q)
      have A2 : Hid (ArrAt encI 300 34 ((wr.setCell ⟨B1, m, none⟩ (.int .i64 (o m + 1))).setCell ⟨B0, m, none⟩ (.int .i64 now2)) B0 (upTo D (kk + 1) (fun _ _ => now2) wh)) := Lib.hid (by
        have q := (A0.out.setOther (a := ⟨B1, m, none⟩) (by show B1 ≠ B0; omega) (.int .i64 (o m + 1))).set m now2
        rw [← upTo.step RD.out hx]
        exact q)
      have Z2 : Hid (Keeps (fun j => j = B0 ∨ j = B1) w11 ((wr.setCell ⟨B1, m, none⟩ (.int .i64 (o m + 1))).setCell ⟨B0, m, none⟩ (.int .i64 now2))) := Lib.hid (Keeps.setCell (Keeps.setCell Z0.out (.inl (.inr rfl)) _) (.inl (.inl rfl)) _)
      have hm150' : (m : Int) < 150 := by omega
      have hprev : 0 < kk → ∃ m' : Int, m' < m ∧ wr.cell? ⟨gD, kk - 1, none⟩ = some (.int .i64 m') := fun h0 => by
        have hx' : D[kk - 1]? = some D[kk - 1] := List.getElem?_eq_getElem (by omega)
        obtain ⟨g', e', _, hgl', hcell'⟩ := HD.out (kk - 1) _ hx'
        cases e'
        refine ⟨D[kk - 1], ?_, (Z0.out.cell (p := ⟨gD, kk - 1, none⟩) hgl' (by show ¬ (gD = B0 ∨ gD = B1); omega)).trans hcell'⟩
        have h1 := List.pairwise_iff_getElem.1 RD.out (kk - 1) kk (by omega) hl (by omega)
        rw [hm] at h1
        exact h1
      have HOB : 0 ≤ o m ∧ o m < 20 := by omega
      generalize o m = om at *
      generalize wh m = whm at *
      obtain ⟨ho1, ho2⟩ := HOB
      have HP := Lib.hid hprev
      have HWT := Lib.hid hwait
      clear hcell hgl hgB hmemD hm hcm hx A0 O0 Z0 hab hprev hwait ho0
      by_cases hp : 0 < om
      · obtain ⟨hwa, hwb, hwc⟩ := HWT.out hp
        by_cases hk0 : 0 < kk
        · obtain ⟨m', hm', qp⟩ := HP.out hk0
          go_wp2_with fail
          go_roundw
          case measure => simp [intOf]; omega
          case rel => exact ⟨kk + 1, by omega, by go_num, A2, O2, Z2⟩
        · obtain rfl : kk = 0 := by omega
          go_wp2_with fail
          go_roundw
          case measure => simp [intOf]; omega
          case rel => exact ⟨0 + 1, by omega, by first | rfl | go_num, A2, O2, Z2⟩
      · by_cases hk0 : 0 < kk
        · obtain ⟨m', hm', qp⟩ := HP.out hk0
          go_wp2_with fail
          go_roundw
          case measure => simp [intOf]; omega
          case rel => exact ⟨kk + 1, by omega, by go_num, A2, O2, Z2⟩
        · obtain rfl : kk = 0 := by omega
          go_wp2_with fail
          go_roundw
          case measure => simp [intOf]; omega
          case rel => exact ⟨0 + 1, by omega, by first | rfl | go_num, A2, O2, Z2⟩
theorem walk_GapsAsk (w : World) (a0 : Int) (wf0 : (Lit.int .i64 a0).wf = true) (a1 : Int) (wf1 : (Lit.int .i64 a1).wf = true) (v1 : Value) (l1 : List Int) (o1 : IsInts w v1 l1) (v2 : Value) (l2 : List Int) (o2 : IsInts w v2 l2) :
    Calls Try.prog 4 #[.int .i64 a0, .int .i64 a1, v1, v2] w fun e w' => e = .returned (.bool true) ∧ Below w.heap.size w w' := by
  obtain ⟨oa1, c1, rfl, m1, z1⟩ := ints_read o1
  obtain ⟨oa2, c2, rfl, m2, z2⟩ := ints_read o2
  exact walk_GapsAsk_run w a0 a1 oa1 _ c1 _ m1 z1 oa2 _ c2 _ m2 z2
end Go.Proofs.Ythddmifaidokiaa
