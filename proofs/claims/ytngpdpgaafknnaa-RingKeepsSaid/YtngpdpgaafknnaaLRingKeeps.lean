import Derived.Test.YtngpdpgaafknnaaPKeep
/-! The walk of the law RingKeeps. -/
namespace Go.Proofs.Ytngpdpgaafknnaa
open Go.RowKit
set_option linter.unusedVariables false
set_option linter.unusedSimpArgs false
/-- the memory of the law -/
structure RK (w : World) (b : Nat) (n top : Int) (bm c : Nat) (f : Int → Option Value) (vA : Value) (A : List Int) (y : World) : Prop where
  ring : Rng y b n top bm c f
  row : y.ownsRow w.heap.size 3 1 vA A.length (A.map encI)
  kb : Below w.heap.size w y
  low : w.heap.size ≤ b ∧ w.heap.size ≤ bm
theorem RK.below {w y z : World} {b : Nat} {n top : Int} {bm c : Nat} {f : Int → Option Value} {vA : Value} {A : List Int} (h : RK w b n top bm c f vA A y) (k : Below y.heap.size y z) : RK w b n top bm c f vA A z :=
  ⟨h.ring.below k, intRow_below h.row k, h.kb.trans (k.mono h.kb.size), h.low⟩
theorem RK.put {w y z : World} {b : Nat} {n top top' : Int} {bm c c' : Nat} {f f' : Int → Option Value} {vA : Value} {A : List Int} (h : RK w b n top bm c f vA A y) (r : Rng z b n top' bm c' f') (k : KR2 b bm y z) : RK w b n top' bm c' f' vA A z := by
  have hm := h.ring.map
  refine ⟨r, intRow_keep h.row (fun g o hg hM => k.block g (lt_of_block hg) ?_), h.kb.trans (Keeps.below k h.kb.size (fun j hj e => by have := h.low; rcases e with e | e <;> omega)), h.low⟩
  rintro (rfl | rfl)
  · have := h.ring.at_; unfold RingAt at this; rw [this] at hg; simp at hg
  · obtain ⟨D, ⟨es, clock, q1, _⟩, _⟩ := hm; rw [q1] at hg; cases hg
theorem RK.app {w y z : World} {b : Nat} {n top : Int} {bm c : Nat} {f : Int → Option Value} {vA vN : Value} {A : List Int} {x : Int} (h : RK w b n top bm c f vA A y) (g : y.grownBy z vA.ownBlock) (hr : z.ownsRow w.heap.size 3 1 vN (A.length + 1) (A.map encI ++ [.int .i64 x])) : RK w b n top bm c f vN (A ++ [x]) z := by
  have hm := h.ring.map
  have hlow : ∀ k, vA.ownBlock = some k → w.heap.size ≤ k ∧ k ≠ b ∧ k ≠ bm := fun k hk => by
    refine ⟨(h.row.lt k hk).1, ?_⟩
    rcases h.row.2 with ⟨rfl, _⟩ | ⟨g', cap, cur, rfl, hb, hg, _⟩
    · simp [Value.ownBlock] at hk
    · simp [Value.ownBlock] at hk
      subst hk
      refine ⟨?_, ?_⟩
      · rintro rfl
        have := h.ring.at_; unfold RingAt at this; rw [this] at hg; simp at hg
      · rintro rfl
        obtain ⟨D, ⟨es, clock, q1, _⟩, _⟩ := hm; rw [q1] at hg; cases hg
  have e1 := g.block b (lt_of_block h.ring.at_) (fun e => (hlow b e.symm).2.1 rfl)
  have e2 := g.block bm h.ring.map.lt (fun e => (hlow bm e.symm).2.2 rfl)
  refine ⟨⟨?_, hm.block e2, h.ring.ne⟩, by simpa using hr, h.kb.trans ?_, h.low⟩
  · have a := h.ring.at_
    unfold RingAt at *
    rw [e1]; exact a
  · exact ⟨g.os, g.tape, g.output, g.size, fun k hk => g.block k (Nat.lt_of_lt_of_le hk h.kb.size) (fun e => by have := (hlow k e.symm).1; omega)⟩
set_option maxRecDepth 100000 in
set_option maxHeartbeats 8000000 in
theorem walk_RingKeeps_run (w : World) (n from_ : Int) (oa1 : Option Addr) (n1 c1 : Nat) (z1 : Nat → Int) (hm1 : n1 ≤ maxLen) (hz1 : ∀ k, k < n1 → ∃ b f, oa1 = some ⟨b, f, none⟩ ∧ b < w.heap.size ∧ w.cell? ⟨b, f + k, none⟩ = some (.int .i64 (z1 k)) ∧ -9223372036854775808 ≤ z1 k ∧ z1 k ≤ 9223372036854775807) :
    Calls Try.prog 3 #[.int .i64 n, .int .i64 from_, .slice oa1 n1 c1] w fun e w' => e = .returned (.bool true) ∧ Below w.heap.size w w' := by
  have HZ1 := Lib.hid hz1
  clear hz1
  unfold maxLen at hm1
  go_enter Try.func3, Try.ntmps3
  go_wp2_with fail
  refine (ringNew_ok 2 (by omega) (by omega) _).mono ?_
  rintro e w1 ⟨b, bm, rfl, hb, hbm, R1, k1⟩
  have K0 := Kp.start 2 0
  go_wp2_with fail
  refine (ringPut_new b 2 (-1) bm 0 (fun _ => none) K0.all (by decide) 5 (by decide) ⟨by decide, by decide⟩ ⟨by decide, by decide⟩ 9 0 0 0 false (.slice none 0 0) [] (by decide) (by decide) rfl _ (fun _ _ => Sl.nil _) R1).mono ?_
  rintro e w2 ⟨oa, bc, c', rfl, hc', R2, iv, k2⟩
  have he := Emp.of (iv _ (Keeps.refl _ _))
  have kb2 : Below w.heap.size w w2 := k1.trans (Keeps.below k2 k1.size (fun j hj e => by rcases e with e | e <;> omega))
  have HF : Hid (Pl.ringF (fun _ => none) 2 (Pl.topOf (-1) 5) 5 (pkV 9 0 0 0 false (.slice oa ([] : List UInt8).length bc)) 5 = some (pkV 9 0 0 0 false (.slice oa ([] : List UInt8).length bc))) := Lib.hid rfl
  generalize Pl.ringF (fun _ => none) 2 (Pl.topOf (-1) 5) 5 (pkV 9 0 0 0 false (.slice oa ([] : List UInt8).length bc)) = f2 at *
  clear R1 k1 k2 iv hb hbm hc'
  go_wp2_with fail
  refine (ringGet_some b 2 _ bm c' f2 5 (by decide) 9 0 0 0 false oa bc [] (by decide) HF.out _ (he.reads _) R2).mono ?_
  rintro e w3 ⟨oa3, bc3, rfl, -, k3⟩
  have kb3 : Below w.heap.size w w3 := kb2.trans (k3.mono kb2.size)
  clear R2 kb2 k3 HF he K0
  go_upto_region 6 with fail
  refine abs_at (fun y => PkIn y w3.heap.size 9 0 0 0 false (.slice oa3 ([] : List UInt8).length bc3) ∧ Hid (Below w.heap.size w y)) ⟨obj_new _ _, Lib.hid (kb3.alloc kb3.size _)⟩ ?_
  clear kb3
  generalize w3.heap.size = N3
  rintro w4 ⟨p4, kb4⟩
  have p0 := obj_cell p4 (k := 0) rfl
  clear p4
  go_upto_region 8 with fail
  clear p0
  as_aux_lemma =>
  by_cases hn : 1 ≤ n ∧ n ≤ 64
  case neg =>
    have G := Lib.hid hn
    go_wp2_with fail
    refine (ringNew_bad n hn _).mono ?_
    rintro e w6 ⟨rfl, rfl⟩
    clear hn
    go_wp2_with fail
    all_goals first
      | (exfalso; have := G.out; omega)
      | (go_ret; exact ⟨ret_bool (by have := G.out; simp <;> omega), kb4.out⟩)
  obtain ⟨hn1, hn2⟩ := hn
  go_wp2_with fail
  refine (ringNew_ok n hn1 hn2 _).mono ?_
  rintro e w5 ⟨b, bm, rfl, hb, hbm, R5, k5⟩
  have hkb := kb4.out
  have RK5 := Lib.hid (RK.mk (w := w) (vA := .slice none 0 0) (A := []) R5 (World.ownsRow_nil _ _ _ _) (hkb.trans (k5.mono hkb.size)) ⟨Nat.le_trans hkb.size hb, Nat.le_trans hkb.size hbm⟩)
  have KB5 := Lib.hid (hkb.trans (k5.mono hkb.size))
  clear R5 k5 hb hbm kb4 hkb
  by_cases hfr : 0 ≤ from_ ∧ from_ ≤ 1000000
  case neg =>
    have G := Lib.hid hfr
    clear hfr
    go_wp2_with fail
    all_goals first
      | (exfalso; have := G.out; omega)
      | (go_ret; exact ⟨by simp, KB5.out⟩)
  clear KB5
  obtain ⟨hf1, hf2⟩ := hfr
  have KP5 := Lib.hid (Kp.start n from_)
  go_wp2_with fail
  go_loopw [15, 16, 17] (fun s15 s16 s17 wr => ∃ (k : Nat) (at' : Int) (A : List Int) (c : Nat) (f : Int → Option Value), k ≤ n1 ∧ k ≤ 60 ∧ s17 = .int .i64 k ∧ s15 = .int .i64 at' ∧ 0 ≤ at' ∧ at' ≤ 1000000 + k * 1000 ∧ A.length ≤ k ∧ c ≤ k ∧ Hid (RK w b n (Pl.topAt A at') bm c f s16 A wr) ∧ Hid (Kp n at' A f)) (fun _ _ s17 _ => 60 - (intOf s17).toNat)
  case atStart => exact ⟨0, from_, [], 0, _, by omega, by omega, rfl, rfl, by omega, by omega, by simp, by omega, RK5, KP5⟩
  case round =>
    as_aux_lemma =>
    clear RK5 KP5
    obtain ⟨k, at', A, c, f, hk, hk60, rfl, rfl, ha0, ha1, hAl, hck, R, K⟩ := hrel
    by_cases hlt : k < n1 ∧ k < 60
    case neg =>
      have hlt' := hlt
      clear hlt
      have HC : Hid ((c : Int) ≤ n) := Lib.hid (K.out.few hn1 R.out.ring.map rlaw Try.underlying3)
      have HR := R.out.ring
      go_upto_region 14 with fail
      go_cut [88] (fun v x => v = .bool false ∧ wr = x)
      case first =>
        as_aux_lemma =>
        by_cases hl1 : k < n1
        · have hl2 : k = 60 := by omega
          subst hl2
          go_wp2_with fail
          go_meet
          exact ⟨rfl, rfl⟩
        · go_wp2_with fail
          go_meet
          exact ⟨rfl, rfl⟩
      case rest =>
      as_aux_lemma =>
      obtain ⟨hv, hw⟩ := hcut
      subst hv
      subst hw
      clear hlt'
      have LEN := Lib.hid (ringLen_any b _ _ bm c f _ HR)
      clear HR
      go_wp2_with (go_at_call 7; (with_reducible refine LEN.out.mono ?_); rintro e w' ⟨rfl, rfl⟩)
      go_ret
      exact ⟨ret_bool (by have := HC.out; simpa using this), R.out.kb⟩
    obtain ⟨hlt1, hlt2⟩ := hlt
    obtain ⟨a1, o1, rfl, hlt0, qz, qz0, qz1⟩ := HZ1.out k hlt1
    have q1 := (R.out.kb.cell (p := ⟨a1, o1 + k, none⟩) hlt0).trans qz
    clear qz hlt0
    generalize z1 k = z at *
    by_cases hz : 1 ≤ z ∧ z ≤ 1000
    case neg =>
      by_cases hz1 : z < 1
      · go_wp2_with fail
        go_roundw
        case measure => simp [intOf]; omega
        case rel => exact ⟨k + 1, at', A, c, f, by omega, by omega, by go_num, rfl, by omega, by omega, by omega, by omega, R, K⟩
      · have hz2 : 1000 < z := by omega
        go_wp2_with fail
        go_roundw
        case measure => simp [intOf]; omega
        case rel => exact ⟨k + 1, at', A, c, f, by omega, by omega, by go_num, rfl, by omega, by omega, by omega, by omega, R, K⟩
    obtain ⟨hza, hzb⟩ := hz
    have hlong : Pl.long (at' + z) = true := by simp [Pl.long]; omega
    obtain ⟨ht1, ht2⟩ := K.out.top_lt ha0 (show at' < at' + z by omega)
    have HT2 := Lib.hid ht2
    have htl : -1 ≤ Pl.topAt A at' := by unfold Pl.topAt; split <;> omega
    go_wp2_with fail
    refine (ringPut_new b n (Pl.topAt A at') bm c f K.out.all (by omega) (at' + z) hlong ⟨hn1, hn2⟩ ⟨htl, by omega⟩ ((at' + z) % 65536) 0 0 k false (.slice none 0 0) [] ⟨by omega, by omega, by decide, by decide, by decide, by decide, by omega, by omega, by decide⟩ (by omega) (K.out.fresh (by omega)) _ (fun _ _ => Sl.nil _) R.out.ring).mono ?_
    rintro e w6 ⟨oa6, bc6, c6, rfl, hc6, R6, iv, k6⟩
    have he := Emp.of (iv _ (Keeps.refl _ _))
    rw [HT2.out] at R6
    have K6 := Lib.hid (K.out.push hn1 ha0 (show at' < at' + z by omega) k oa6 bc6 he)
    have RK6 := Lib.hid (R.out.put R6 k6)
    simp only [List.length_nil] at RK6
    generalize Pl.ringF f n (at' + z) (at' + z) (pkV ((at' + z) % 65536) 0 0 (k : Int) false (.slice oa6 0 bc6)) = f6 at *
    generalize hat : at' + z = at6 at *
    have HA6 : 0 ≤ at6 ∧ at6 ≤ 1000000 + (k + 1) * 1000 := by omega
    obtain ⟨ha6, ha7⟩ := HA6
    clear R K R6 k6 iv he ht1 ht2 HT2 htl hlong hat q1
    as_aux_lemma =>
    have ht6 : Pl.topAt (A ++ [at6]) at6 = at6 := by unfold Pl.topAt; rw [if_neg (by simp)]
    have RUN := Lib.hid (run_moreInt (w6.alloc (.cells #[.int .i64 at6] 3)) w.heap.size _ at6 A.length (A.map encI) (RK6.out.row.alloc _) w6.heap.size (obj_new _ _) (by omega) (by have := RK6.out.kb.size; simp; omega))
    have RKA := Lib.hid (RK6.out.below ((Below.refl _ _).alloc (Nat.le_refl _) (.cells #[.int .i64 at6] 3)))
    go_upto_region 22 with (at_builtin; obtain ⟨vN, wN, hr, ho, hgr⟩ := RUN.out; refine Lib.wpList_append_run _ rfl (.tmp 125) (.tmp 127) 22 22 rfl _ _ rfl rfl _ _ hr ?_)
    have RKB := Lib.hid (RKA.out.app hgr ho)
    clear RUN RKA RK6 hr ho hgr
    have HAN : ∃ A', A' = A ++ [at6] := ⟨_, rfl⟩
    obtain ⟨A', hA'⟩ := HAN
    have hAl' : A'.length ≤ k + 1 := by rw [hA']; simp; omega
    have hne : A' ≠ [] := by rw [hA']; simp
    rw [← hA'] at RKB K6 ht6
    have HNE := Lib.hid hne
    have HT6 := Lib.hid ht6
    clear hA' hne ht6
    obtain ⟨oaA, capA, rfl, hrow⟩ := intRow_read RKB.out.row
    have HROW := Lib.hid hrow
    have K7 := Lib.hid (Below.refl wN.heap.size wN)
    clear hrow
    go_wp2_with fail
    go_loopw [20] (fun s20 y => ∃ kk : Nat, kk ≤ A'.length ∧ s20 = .int .i64 kk ∧ Hid (Below wN.heap.size wN y)) (fun s20 _ => A'.length - (intOf s20).toNat)
    case atStart => exact ⟨0, by omega, rfl, K7⟩
    case round =>
      as_aux_lemma =>
      clear K7
      obtain ⟨kk, hkk, rfl, kz⟩ := hrel
      by_cases hl : kk < A'.length
      case neg =>
        obtain rfl : kk = A'.length := by omega
        have RZ := Lib.hid (by have := RKB.out.below kz.out; rw [← HT6.out] at this; exact this)
        clear kz RKB
        go_wp2_with fail
        go_roundw
        case measure => simp [intOf]; omega
        case rel => exact ⟨k + 1, at6, A', c6, f6, by omega, by omega, by go_num, rfl, by omega, by omega, by omega, by omega, RZ, K6⟩
      have hx : A'[kk]? = some A'[kk] := List.getElem?_eq_getElem hl
      have hmem : A'[kk] ∈ A' := List.getElem_mem hl
      generalize A'[kk] = x at *
      obtain ⟨g, rfl, _, hgl, hcell⟩ := HROW.out kk x hx
      obtain ⟨hx0, hx1⟩ := K6.out.le x hmem
      obtain ⟨get1, get2⟩ := K6.out.get hmem HNE.out
      have hwx : (Lit.int .i64 x).wf = true := by simp [Lit.wf, IntKind.min, IntKind.max, IntKind.signed, IntKind.bits]; omega
      have QC := Lib.hid (fun y (h : Below wN.heap.size wN y) => (h.cell (p := ⟨g, kk, none⟩) hgl).trans hcell)
      have qx := QC.out _ kz.out
      have RZ := Lib.hid (RKB.out.below kz.out)
      clear hcell hgl hmem hx
      by_cases hd0 : at6 - n < x
      · obtain ⟨lv, oax, bcx, hfx, hex⟩ := get1 hd0
        clear get1 get2
        have HFX := Lib.hid hfx
        have HEX := Lib.hid hex
        clear hfx hex
        go_wp2_with fail
        refine (ringGet_some b n _ bm c6 f6 x hwx (x % 65536) 0 0 lv false oax bcx [] (by decide) HFX.out _ (HEX.out.reads _) RZ.out.ring).mono ?_
        rintro e w8 ⟨oa8, bc8, rfl, -, k8⟩
        go_upto_region 26 with fail
        have kz8 := kz.out.trans (k8.mono kz.out.size)
        refine abs_at (fun y => PkIn y w8.heap.size (x % 65536) 0 0 lv false (.slice oa8 ([] : List UInt8).length bc8) ∧ Hid (Below wN.heap.size wN y)) ⟨obj_new _ _, Lib.hid (kz8.alloc kz8.size _)⟩ ?_
        clear kz8 k8 qx RZ kz
        rintro y ⟨p, kz⟩
        have p0 := obj_cell p (k := 0) rfl
        have qx := QC.out _ kz.out
        have hd : decide (at6 - n < x) = true := by simpa using hd0
        clear p
        go_quiet (fail)
        go_wp2
        go_roundw
        case measure => simp [intOf]; omega
        case rel => exact ⟨kk + 1, by omega, by go_num, Lib.hid (Below.drewN kz.out _)⟩
      · have hfx := get2 hd0
        clear get1 get2
        have HFX := Lib.hid hfx
        clear hfx
        go_wp2_with fail
        refine (ringGet_none b n _ bm c6 f6 x hwx HFX.out _ RZ.out.ring).mono ?_
        rintro e w8 ⟨rfl, k8⟩
        go_upto_region 26 with fail
        have kz8 := kz.out.trans (k8.mono kz.out.size)
        refine abs_at (fun y => PkIn y w8.heap.size 0 0 0 0 false (.slice none 0 0) ∧ Hid (Below wN.heap.size wN y)) ⟨obj_new _ _, Lib.hid (kz8.alloc kz8.size _)⟩ ?_
        clear kz8 k8 qx RZ kz
        rintro y ⟨p, kz⟩
        have qx := QC.out _ kz.out
        have hd : decide (at6 - n < x) = false := by simpa using hd0
        clear p
        go_quiet (fail)
        go_wp2
        go_roundw
        case measure => simp [intOf]; omega
        case rel => exact ⟨kk + 1, by omega, by go_num, Lib.hid (Below.drewN kz.out _)⟩
theorem walk_RingKeeps (w : World) (a0 : Int) (wf0 : (Lit.int .i64 a0).wf = true) (a1 : Int) (wf1 : (Lit.int .i64 a1).wf = true) (v1 : Value) (l1 : List Int) (o1 : IsInts w v1 l1) :
    Calls Try.prog 3 #[.int .i64 a0, .int .i64 a1, v1] w fun e w' => e = .returned (.bool true) ∧ Below w.heap.size w w' := by
  obtain ⟨oa1, c1, rfl, m1, z1⟩ := ints_read o1
  exact walk_RingKeeps_run w a0 a1 oa1 _ c1 _ m1 z1
end Go.Proofs.Ytngpdpgaafknnaa
