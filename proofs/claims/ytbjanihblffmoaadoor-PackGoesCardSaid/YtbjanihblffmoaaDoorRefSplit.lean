import Derived.Test.YtbjanihblffmoaaDoorRefPk
import Derived.Test.YtbjanihblffmoaaDoorSplitI
import Derived.Deep.DeepCutAuto
/-! The reference's Split. -/
namespace Go.Proofs.YtbjanihblffmoaaDoor
open Go.RowKit
set_option linter.unusedVariables false
set_option linter.unusedSimpArgs false
/-- the parts so far: their bodies lie where the packet's does -/
structure RSp (w : World) (s t l lv : Int) (st : Bool) (bv : Value) (bs : List UInt8) (k j : Nat) (v : Value) (W : World) : Prop where
  ex : ∃ P : List PkR, pktK.Own W (w.heap.size + 1) v P ∧ P.length = j ∧ ∀ (i : Nat) (p : PkR), P[i]? = some p → p.s = (s + i) % 65536 ∧ p.t = t ∧ p.l = l ∧ p.lv = lv ∧ p.st = (st && decide (i = 0)) ∧ ∀ V, Below w.heap.size w V → Sl encB V (.slice p.oa p.bn p.bc) (chunkAt k bs i)
  box : PkIn W w.heap.size s t l lv st bv
  kb : Below w.heap.size w W
namespace RSp
variable {w : World} {s t l lv : Int} {st : Bool} {bv : Value} {bs : List UInt8} {k j : Nat} {v : Value} {W W' : World}
theorem below (h : RSp w s t l lv st bv bs k j v W) (kk : Below W.heap.size W W') : RSp w s t l lv st bv bs k j v W' := by
  obtain ⟨⟨P, h1, h2, h3⟩, h4, h5⟩ := h
  exact ⟨⟨P, h1.below kk, h2, h3⟩, Below.heapAt kk h4 (lt_of_block h4), h5.trans (kk.mono (Nat.le_of_lt (lt_of_block h4)))⟩
theorem val (h : RSp w s t l lv st bv bs k j v W) : ∃ oa c, v = .slice oa j c := by
  obtain ⟨⟨P, h1, h2, h3⟩, h4, h5⟩ := h
  obtain ⟨oa, c, e, _⟩ := h1.read pktK_ok
  rw [h2] at e
  exact ⟨oa, c, e⟩
theorem app (h : RSp w s t l lv st bv bs k j v W) (x : PkR) (hx : x.s = (s + j) % 65536 ∧ x.t = t ∧ x.l = l ∧ x.lv = lv ∧ x.st = (st && decide (j = 0)) ∧ ∀ V, Below w.heap.size w V → Sl encB V (.slice x.oa x.bn x.bc) (chunkAt k bs j)) (hj : j ≤ 100000) :
    ∃ v' w', (Builtin.append_ #[30, 30] 30 #[v, .slice (some ⟨W.heap.size, 0, none⟩) 1 1]).run Tryd.prog (W.alloc (.cells x.cells.toArray 24)) = .ok v' w' ∧ RSp w s t l lv st bv bs k (j + 1) v' w' := by
  have hh := h.below ((Below.refl _ W).alloc (Nat.le_refl _) (.cells x.cells.toArray 24))
  have hbx := lt_of_block h.box
  obtain ⟨⟨P, h1, h2, h3⟩, h4, h5⟩ := hh
  obtain ⟨vN, wN, hr, ho, hgr, hbk⟩ := RecK.run_one pktK_ok (W.alloc (.cells x.cells.toArray 24)) (w.heap.size + 1) v x P h1 W.heap.size (obj_new _ _) (by omega) (by simp; omega)
  refine ⟨vN, wN, hr, ⟨P ++ [x], ho, by simp [h2], fun i p hp => ?_⟩, ?_, h5.grown hgr (by simp; omega) (fun g e => by have := (h1.lt g e).1; omega)⟩
  · by_cases hi : i < P.length
    · rw [List.getElem?_append_left hi] at hp
      exact h3 i p hp
    · rw [List.getElem?_append_right (by omega)] at hp
      have hi0 : i = j := by
        rcases Nat.eq_zero_or_pos (i - P.length) with q | q
        · omega
        · rw [List.getElem?_eq_none (by simp; omega)] at hp; cases hp
      subst hi0
      rw [h2] at hp
      simp at hp
      subst hp
      exact hx
  · have := hgr.block w.heap.size (by simp; omega) (fun e => by have := (h1.lt _ e.symm).1; omega)
    unfold PkIn at *
    rw [this]; exact h4
end RSp
/-- what the reference's Split hands out -/
def RSplitE (n₀ : Nat) (s t l lv : Int) (st : Bool) (k : Nat) (bs : List UInt8) (w : World) (e : Ending) (w' : World) : Prop :=
  Below n₀ w w' ∧ if 200 < max 1 (chunkN k bs.length) then e = .returned (.tuple #[.slice none 0 0, .int .i64 4]) else
    ∃ (v : Value) (P : List PkR), e = .returned (.tuple #[v, .int .i64 0]) ∧ pktK.Own w' n₀ v P ∧ P.length = max 1 (chunkN k bs.length) ∧
      ∀ (i : Nat) (p : PkR), P[i]? = some p → p.s = (s + i) % 65536 ∧ p.t = t ∧ p.l = l ∧ p.lv = lv ∧ p.st = (st && decide (i = 0)) ∧ Sl encB w' (.slice p.oa p.bn p.bc) (chunkAt k bs i)
theorem RSp.full {w : World} {s t l lv : Int} {st : Bool} {bv : Value} {bs : List UInt8} {k j : Nat} {v : Value} {W : World} (h : RSp w s t l lv st bv bs k j v W) (hj : j = max 1 (chunkN k bs.length)) (hf : 200 < j) : RSplitE w.heap.size s t l lv st k bs w (.returned (.tuple #[.slice none 0 0, .int .i64 4])) W := by
  unfold RSplitE
  rw [if_pos (by omega)]
  exact ⟨h.kb, rfl⟩
theorem RSp.fits {w : World} {s t l lv : Int} {st : Bool} {bv : Value} {bs : List UInt8} {k j : Nat} {v : Value} {W : World} (h : RSp w s t l lv st bv bs k j v W) (hj : j = max 1 (chunkN k bs.length)) (hf : ¬ 200 < j) : RSplitE w.heap.size s t l lv st k bs w (.returned (.tuple #[v, .int .i64 0])) W := by
  unfold RSplitE
  rw [if_neg (by omega)]
  obtain ⟨⟨P, h1, h2, h3⟩, h4, h5⟩ := h
  refine ⟨h5, v, P, rfl, h1.mono (by omega), by omega, fun i p hp => ?_⟩
  obtain ⟨q1, q2, q3, q4, q5, q6⟩ := h3 i p hp
  exact ⟨q1, q2, q3, q4, q5, q6 W h5⟩
def lenV : Value → Nat
  | .slice _ n _ => n
  | _ => 0
set_option maxRecDepth 100000 in
set_option maxHeartbeats 2000000 in
theorem rsplit_some (s t l lv : Int) (st : Bool) (b off cap0 : Nat) (bs : List UInt8) (hp : Pl.pkOk s t l lv bs.length) (hne : 0 < bs.length) (k : Nat) (hk : 1 ≤ k ∧ k ≤ 1000) (w : World) (hc : ∀ V, Below w.heap.size w V → ∀ i (h : i < bs.length), V.cell? ⟨b, off + i, none⟩ = some (encB bs[i])) (hcap : bs.length ≤ cap0) (hcm : cap0 ≤ maxLen) :
    Calls Tryd.prog 14 #[pkV s t l lv st (.slice (some ⟨b, off, none⟩) bs.length cap0), .int .i64 k] w (RSplitE w.heap.size s t l lv st k bs w) := by
  have HC := Lib.hid hc
  have HPO := Lib.hid hp
  have hcm' := hcm
  unfold maxLen at hcm
  have hbl : bs.length ≤ 1000 := hp.2.2.2.2.2.2.2.2
  have RP := Lib.hid (fun y => refPk_any s t l lv st (some ⟨b, off, none⟩) bs.length cap0 (by unfold maxLen; omega) y)
  have hf : Pl.pkFault s t l lv bs.length = 0 := by
    unfold Pl.pkOk at hp
    unfold Pl.pkFault
    rw [if_pos (by omega), if_pos (by omega)]
  rw [hf] at RP
  obtain ⟨s0, s1, -⟩ := hp
  obtain ⟨k1, k2⟩ := hk
  clear hc hf
  have HCM := Lib.hid hcm'
  clear hcm'
  go_enter Tryd.func14, Tryd.ntmps14
  go_upto_region 3 with fail
  refine abs_to (fun y => Hid (PkIn y w.heap.size s t l lv st (.slice (some ⟨b, off, none⟩) bs.length cap0)) ∧ Hid (Below w.heap.size w y)) ⟨Lib.hid (obj_new _ _), Lib.hid ((Below.refl _ _).alloc (Nat.le_refl _) _)⟩ ?_
  obtain ⟨N, HN⟩ : ∃ N, w.heap.size = N := ⟨_, rfl⟩
  rw [HN]
  have HN' := Lib.hid HN
  clear HN
  rintro y ⟨PX, K1⟩
  have p0 := obj_cell PX.out (k := 0) rfl
  have p1 := obj_cell PX.out (k := 1) rfl
  have p2 := obj_cell PX.out (k := 2) rfl
  have p3 := obj_cell PX.out (k := 3) rfl
  have p4 := obj_cell PX.out (k := 4) rfl
  have p5 := obj_cell PX.out (k := 5) rfl
  go_upto_region 7 with (go_at_call 9; (with_reducible refine (RP.out _).mono ?_); rintro e y2 ⟨rfl, k2'⟩)
  refine abs_to (fun z => Hid (RSp w s t l lv st (.slice (some ⟨b, off, none⟩) bs.length cap0) bs k 0 (.slice none 0 0) z)) (Lib.hid ⟨⟨[], RecK.Own.nil _ _, rfl, fun i p hp => by simp at hp⟩, by rw [HN'.out]; exact Below.heapAt k2' PX.out (lt_of_block PX.out), by rw [HN'.out]; exact K1.out.trans (k2'.mono (Nat.le_of_lt (lt_of_block PX.out)))⟩) ?_
  clear k2' p0 p1 p2 p3 p4 p5 PX K1
  rintro z RS
  have p5 := obj_cell RS.out.box (k := 5) rfl
  rw [HN'.out] at p5
  go_upto_region 8 with fail
  clear p5
  go_loopw [7, 8] (fun s7 s8 wr => ∃ j : Nat, j ≤ chunkN k bs.length ∧ Hid (RSp w s t l lv st (.slice (some ⟨b, off, none⟩) bs.length cap0) bs k j s7 wr) ∧ ∃ (oa : Option Addr) (R c : Nat), s8 = .slice oa R c ∧ R = bs.length - j * k ∧ (j * k < bs.length → oa = some ⟨b, off + j * k, none⟩ ∧ c = cap0 - j * k)) (fun _ s8 _ => lenV s8)
  case atStart => exact ⟨0, by omega, RS, _, _, _, rfl, by omega, fun _ => ⟨by simp, by simp⟩⟩
  case round =>
    clear RS
    obtain ⟨j, hj, RS, oa, R, c, rfl, hR, hq⟩ := hrel
    obtain ⟨o7, c7, rfl⟩ := RS.out.val
    have hjl : j * k < bs.length ∨ (R = 0 ∧ bs.length ≤ j * k) := by omega
    have hj0 : j ≤ 2000 := by
      have : chunkN k bs.length ≤ bs.length + k - 1 := Nat.div_le_self _ _
      omega
    rcases hjl with hlt | ⟨hR0, hge⟩
    · obtain ⟨rfl, rfl⟩ := hq hlt
      have hj1 : j < chunkN k bs.length := (chunkN_lt (by omega)).2 hlt
      obtain ⟨q, hqk⟩ : ∃ q, j * k = q := ⟨_, rfl⟩
      have hq1 : (j + 1) * k = q + k := by rw [Nat.add_mul, hqk]; omega
      have HQ := Lib.hid (And.intro hqk hq1)
      rw [hqk] at hlt hR
      rw [hqk]
      clear hq hqk hq1
      obtain ⟨m, hm⟩ : ∃ m, min k R = m := ⟨_, rfl⟩
      have hm0 : 0 < m ∧ m ≤ R ∧ m ≤ k ∧ (k < R → m = k) ∧ (R ≤ k → m = R) := by omega
      have hRc : R ≤ cap0 - q := by omega
      have CH := Lib.hid (show ∀ V, Below w.heap.size w V → Sl encB V (.slice (some ⟨b, off + q, none⟩) m (cap0 - q)) (chunkAt k bs j) from fun V kk => by
        have hl : (chunkAt k bs j).length = m := by rw [chunkAt_len, HQ.out.1]; omega
        refine .inr ⟨b, off + q, cap0 - q, by rw [hl], by omega, by have := HCM.out; omega, fun i hi => ?_⟩
        rw [hl] at hi
        rw [Nat.add_assoc, HC.out V kk (q + i) (by omega)]
        simp [chunkAt, HQ.out.1])
      have HM := Lib.hid hm
      have HR := Lib.hid hR
      clear hm hR
      obtain ⟨hm1, hm2, hm3, hm4, hm5⟩ := hm0
      have H45 := Lib.hid (And.intro hm4 hm5)
      clear hm4 hm5
      go_upto_region 8 with fail
      go_cut [37] from 24 to 37 (fun v z => v = .bool true ∧ wr = z)
      case first =>
        by_cases hkr : k < R
        · go_wp2_with fail
          all_goals
            go_meet
            exact ⟨rfl, rfl⟩
        · have hR1 : 0 < R := by omega
          by_cases hjz : j = 0
          · subst hjz
            go_wp2_with fail
            all_goals
              go_meet
              exact ⟨rfl, rfl⟩
          · go_wp2_with fail
            all_goals
              go_meet
              exact ⟨rfl, rfl⟩
      case rest =>
      obtain ⟨rfl, rfl⟩ := hcut
      go_upto_region 10 with fail
      go_cut [42] from 39 to 42 (fun v z => v = .bool (decide (R < k)) ∧ wr = z)
      case first =>
        go_wp2_with fail
        go_meet
        exact ⟨rfl, rfl⟩
      case rest =>
      obtain ⟨rfl, rfl⟩ := hcut
      go_upto_if 42 with fail
      go_cut [9] from 24 to 44 (fun v z => v = .int .i64 (m : Nat) ∧ wr = z)
      case first =>
        by_cases hrk : R < k
        · have e := H45.out.2 (by omega)
          subst e
          go_wp2_with fail
          all_goals
            go_meet
            exact ⟨rfl, rfl⟩
        · have e : m = k := by have := H45.out; omega
          subst e
          go_wp2_with fail
          all_goals
            go_meet
            exact ⟨rfl, rfl⟩
      case rest =>
      obtain ⟨rfl, rfl⟩ := hcut
      obtain ⟨B, hB⟩ : ∃ B, wr.heap.size = B := ⟨_, rfl⟩
      have bN := RS.out.box
      rw [HN'.out] at bN
      have hNB : N < B := by rw [← hB]; exact lt_of_block bN
      have p0 := obj_cell bN (k := 0) rfl
      have p1 := obj_cell bN (k := 1) rfl
      have p2 := obj_cell bN (k := 2) rfl
      have p3 := obj_cell bN (k := 3) rfl
      have p4 := obj_cell bN (k := 4) rfl
      have p5 := obj_cell bN (k := 5) rfl
      have HB := Lib.hid hB
      go_upto_region 13 with fail
      refine abs_to (fun z => Hid (Below B wr z) ∧ Hid (PkIn z N s t l lv st (.slice (some ⟨b, off, none⟩) bs.length cap0)) ∧ Hid (PkIn z B s t l lv st (.slice (some ⟨b, off, none⟩) bs.length cap0))) ⟨Lib.hid ((Below.refl _ _).alloc (by omega) _), Lib.hid (obj_old bN _), Lib.hid (by rw [← hB]; exact obj_new _ _)⟩ ?_
      clear p0 p1 p2 p3 p4 p5 bN
      clear hB
      rintro z ⟨KZ, ZN, ZB⟩
      have q5 := obj_cell ZB.out (k := 5) rfl
      have f5 := obj_free ZB.out 5
      go_upto_region 14 with fail
      refine abs_to (fun z => Hid (Below B wr z) ∧ Hid (PkIn z N s t l lv st (.slice (some ⟨b, off, none⟩) bs.length cap0)) ∧ Hid (PkIn z B s t l lv st (.slice (some ⟨b, off + q, none⟩) m (cap0 - q)))) ⟨Lib.hid (Below.setCell KZ.out (Nat.le_refl _) _), Lib.hid (obj_other ZN.out (by simp; omega) _), Lib.hid (obj_set ZB.out 5 _)⟩ ?_
      clear KZ ZN ZB q5 f5
      rintro z ⟨KZ, ZN, ZB⟩
      have q0 := obj_cell ZN.out (k := 0) rfl
      have f0 := obj_free ZB.out 0
      have c0 := obj_cell ZB.out (k := 0) rfl
      go_upto_region 15 with fail
      refine abs_to (fun z => Hid (Below B wr z) ∧ Hid (PkIn z N s t l lv st (.slice (some ⟨b, off, none⟩) bs.length cap0)) ∧ Hid (PkIn z B ((s + j) % 65536) t l lv st (.slice (some ⟨b, off + q, none⟩) m (cap0 - q)))) ⟨Lib.hid (Below.setCell KZ.out (Nat.le_refl _) _), Lib.hid (obj_other ZN.out (by simp; omega) _), Lib.hid (obj_set ZB.out 0 _)⟩ ?_
      clear KZ ZN ZB q0 f0 c0
      rintro z ⟨KZ, ZN, ZB⟩
      have q4 := obj_cell ZN.out (k := 4) rfl
      have f4 := obj_free ZB.out 4
      have c4 := obj_cell ZB.out (k := 4) rfl
      go_upto_region 15 with fail
      obtain ⟨jb, hjb⟩ : ∃ jb : Bool, decide (j = 0) = jb := ⟨_, rfl⟩
      have hjd : ((j : Int) == 0) = jb := by rw [← hjb]; by_cases e : j = 0 <;> simp [e]
      have hjd2 : decide ((j : Int) = 0) = jb := by rw [← hjb]; by_cases e : j = 0 <;> simp [e]
      have HJB := Lib.hid hjb
      clear hjb
      go_cut [63] from 57 to 64 (fun _ z => Hid (Below B wr z) ∧ Hid (PkIn z N s t l lv st (.slice (some ⟨b, off, none⟩) bs.length cap0)) ∧ Hid (PkIn z B ((s + j) % 65536) t l lv (st && jb) (.slice (some ⟨b, off + q, none⟩) m (cap0 - q))))
      case first =>
        cases st
        all_goals
          go_wp2_with fail
          go_meet
          exact ⟨Lib.hid (Below.setCell KZ.out (Nat.le_refl _) _), Lib.hid (obj_other ZN.out (by simp; omega) _), Lib.hid (obj_set ZB.out 4 _)⟩
      case rest =>
      clear KZ ZN ZB q4 f4 c4 hjd hjd2
      obtain ⟨KZ, ZN, ZB⟩ := hcut
      have c0 := obj_cell ZB.out (k := 0) rfl
      have c1 := obj_cell ZB.out (k := 1) rfl
      have c2 := obj_cell ZB.out (k := 2) rfl
      have c3 := obj_cell ZB.out (k := 3) rfl
      have c4 := obj_cell ZB.out (k := 4) rfl
      have c5 := obj_cell ZB.out (k := 5) rfl
      have RS2 : RSp w s t l lv st (.slice (some ⟨b, off, none⟩) bs.length cap0) bs k j (.slice o7 j c7) wc := RS.out.below (by rw [HB.out]; exact KZ.out)
      have HRN := Lib.hid (RS2.app ⟨(s + j) % 65536, t, l, lv, st && jb, some ⟨b, off + q, none⟩, m, cap0 - q⟩ ⟨rfl, rfl, rfl, rfl, by rw [HJB.out], CH.out⟩ (by omega))
      clear RS2 RS KZ ZN
      go_upto_region 17 with (at_builtin; obtain ⟨vN, wN, hr, hN⟩ := HRN.out; have RS := Lib.hid hN; clear hN; refine Lib.wpList_append_run _ rfl (.tmp 65) (.tmp 67) 30 30 rfl _ _ rfl rfl _ _ hr ?_)
      clear hr c0 c1 c2 c3 c4 c5 ZB
      by_cases hcq : cap0 - q = m
      · have H2 := Lib.hid hcq
        go_wp2_with fail
        go_roundw
        case measure => simp [lenV]; omega
        case rel => exact ⟨j + 1, hj1, RS, _, _, _, rfl, by have := HQ.out.2; have := HR.out; have := H45.out; omega, fun hh => by have := HQ.out.2; have := HR.out; omega⟩
      · have H2 := Lib.hid hcq
        go_wp2_with fail
        go_roundw
        case measure => simp [lenV]; omega
        case rel => exact ⟨j + 1, hj1, RS, _, _, _, rfl, by have := HQ.out.2; have := HR.out; have := H45.out; omega, fun hh => by
          have h2 := HQ.out.2
          have h3 := HR.out
          have h4 := H45.out
          have h5 : m = k := by omega
          rw [h2, h5]
          exact ⟨by rw [Nat.add_assoc], by omega⟩⟩
    · have hj0' : j ≠ 0 := fun e => by subst e; omega
      have hjm : j = max 1 (chunkN k bs.length) := by
        have h1 : ¬ j < chunkN k bs.length := fun h => by have := (chunkN_lt (by omega)).1 h; omega
        omega
      subst hR0
      have hjd : ((j : Int) == 0) = false := by simp; omega
      have HJ := Lib.hid hjm
      clear hq hjm hR hj
      by_cases hf : 200 < j
      · go_wp2_with fail
        go_ret2
        exact RS.out.full HJ.out hf
      · go_wp2_with fail
        go_ret2
        exact RS.out.fits HJ.out hf
set_option maxRecDepth 100000 in
set_option maxHeartbeats 2000000 in
theorem rsplit_none (s t l lv : Int) (st : Bool) (ob : Option Addr) (cap0 : Nat) (hp : Pl.pkOk s t l lv 0) (k : Nat) (hk : 1 ≤ k ∧ k ≤ 1000) (w : World) (hcm : cap0 ≤ maxLen) (hob : ob = none → cap0 = 0) :
    Calls Tryd.prog 14 #[pkV s t l lv st (.slice ob 0 cap0), .int .i64 k] w (RSplitE w.heap.size s t l lv st k [] w) := by
  have HPO := Lib.hid hp
  have HCM := Lib.hid hcm
  have HOB := Lib.hid hob
  have RP := Lib.hid (fun y => refPk_any s t l lv st ob 0 cap0 (by unfold maxLen; omega) y)
  have hf : Pl.pkFault s t l lv 0 = 0 := by
    unfold Pl.pkOk at hp
    unfold Pl.pkFault
    rw [if_pos (by omega), if_pos (by omega)]
  rw [hf] at RP
  obtain ⟨s0, s1, -⟩ := hp
  obtain ⟨k1, k2⟩ := hk
  have hN1 : (1 : Nat) = max 1 (chunkN k ([] : List UInt8).length) := by
    have : chunkN k ([] : List UInt8).length = 0 := Nat.div_eq_of_lt (by simp; omega)
    omega
  have HN1 := Lib.hid hN1
  clear hf hcm hob hN1
  go_enter Tryd.func14, Tryd.ntmps14
  go_upto_region 3 with fail
  refine abs_to (fun y => Hid (PkIn y w.heap.size s t l lv st (.slice ob 0 cap0)) ∧ Hid (Below w.heap.size w y)) ⟨Lib.hid (obj_new _ _), Lib.hid ((Below.refl _ _).alloc (Nat.le_refl _) _)⟩ ?_
  obtain ⟨N, HN⟩ : ∃ N, w.heap.size = N := ⟨_, rfl⟩
  rw [HN]
  have HN' := Lib.hid HN
  clear HN
  rintro y ⟨PX, K1⟩
  have p0 := obj_cell PX.out (k := 0) rfl
  have p1 := obj_cell PX.out (k := 1) rfl
  have p2 := obj_cell PX.out (k := 2) rfl
  have p3 := obj_cell PX.out (k := 3) rfl
  have p4 := obj_cell PX.out (k := 4) rfl
  have p5 := obj_cell PX.out (k := 5) rfl
  go_upto_region 7 with (go_at_call 9; (with_reducible refine (RP.out _).mono ?_); rintro e y2 ⟨rfl, k2'⟩)
  refine abs_to (fun z => Hid (RSp w s t l lv st (.slice ob 0 cap0) [] k 0 (.slice none 0 0) z)) (Lib.hid ⟨⟨[], RecK.Own.nil _ _, rfl, fun i p hp => by simp at hp⟩, by rw [HN'.out]; exact Below.heapAt k2' PX.out (lt_of_block PX.out), by rw [HN'.out]; exact K1.out.trans (k2'.mono (Nat.le_of_lt (lt_of_block PX.out)))⟩) ?_
  clear k2' p0 p1 p2 p3 p4 p5 PX K1
  rintro z RS
  have p5 := obj_cell RS.out.box (k := 5) rfl
  rw [HN'.out] at p5
  go_upto_region 8 with fail
  clear p5
  go_loopw [7, 8] (fun s7 s8 wr => (s7 = .slice none 0 0 ∧ s8 = .slice ob 0 cap0 ∧ Hid (RSp w s t l lv st (.slice ob 0 cap0) [] k 0 s7 wr)) ∨ (∃ o7 c7 o8 c8, s7 = .slice o7 1 c7 ∧ s8 = .slice o8 0 c8 ∧ Hid (RSp w s t l lv st (.slice ob 0 cap0) [] k 1 s7 wr))) (fun s7 _ _ => 1 - lenV s7)
  case atStart => exact .inl ⟨rfl, rfl, RS⟩
  case round =>
    clear RS
    rcases hrel with ⟨rfl, rfl, RS⟩ | ⟨o7, c7, o8, c8, rfl, rfl, RS⟩
    · obtain ⟨B, hB⟩ : ∃ B, wr.heap.size = B := ⟨_, rfl⟩
      have bN := RS.out.box
      rw [HN'.out] at bN
      have hNB : N < B := by rw [← hB]; exact lt_of_block bN
      have p0 := obj_cell bN (k := 0) rfl
      have p1 := obj_cell bN (k := 1) rfl
      have p2 := obj_cell bN (k := 2) rfl
      have p3 := obj_cell bN (k := 3) rfl
      have p4 := obj_cell bN (k := 4) rfl
      have p5 := obj_cell bN (k := 5) rfl
      have HB := Lib.hid hB
      go_upto_region 13 with fail
      refine abs_to (fun z => Hid (Below B wr z) ∧ Hid (PkIn z N s t l lv st (.slice ob 0 cap0)) ∧ Hid (PkIn z B s t l lv st (.slice ob 0 cap0))) ⟨Lib.hid ((Below.refl _ _).alloc (by omega) _), Lib.hid (obj_old bN _), Lib.hid (by rw [← hB]; exact obj_new _ _)⟩ ?_
      clear p0 p1 p2 p3 p4 p5 bN
      clear hB
      rintro z ⟨KZ, ZN, ZB⟩
      have q5 := obj_cell ZB.out (k := 5) rfl
      have f5 := obj_free ZB.out 5
      go_upto_region 14 with fail
      refine abs_to (fun z => Hid (Below B wr z) ∧ Hid (PkIn z N s t l lv st (.slice ob 0 cap0)) ∧ Hid (PkIn z B s t l lv st (.slice ob 0 cap0))) ⟨Lib.hid (Below.setCell KZ.out (Nat.le_refl _) _), Lib.hid (obj_other ZN.out (by simp; omega) _), Lib.hid (obj_set ZB.out 5 _)⟩ ?_
      clear KZ ZN ZB q5 f5
      rintro z ⟨KZ, ZN, ZB⟩
      have q0 := obj_cell ZN.out (k := 0) rfl
      have f0 := obj_free ZB.out 0
      have c0 := obj_cell ZB.out (k := 0) rfl
      have es : s % 65536 = s := by omega
      have ES := Lib.hid es
      clear es
      go_upto_region 15 with fail
      refine abs_to (fun z => Hid (Below B wr z) ∧ Hid (PkIn z N s t l lv st (.slice ob 0 cap0)) ∧ Hid (PkIn z B (s % 65536) t l lv st (.slice ob 0 cap0))) ⟨Lib.hid (Below.setCell KZ.out (Nat.le_refl _) _), Lib.hid (obj_other ZN.out (by simp; omega) _), Lib.hid (by have := obj_set ZB.out 0 (.int .i64 (s % 65536)); exact this)⟩ ?_
      clear KZ ZN ZB q0 f0 c0
      rintro z ⟨KZ, ZN, ZB⟩
      have q4 := obj_cell ZN.out (k := 4) rfl
      have f4 := obj_free ZB.out 4
      have c4 := obj_cell ZB.out (k := 4) rfl
      go_cut [63] from 57 to 64 (fun _ z => Hid (Below B wr z) ∧ Hid (PkIn z N s t l lv st (.slice ob 0 cap0)) ∧ Hid (PkIn z B (s % 65536) t l lv st (.slice ob 0 cap0)))
      case first =>
        cases st
        all_goals
          go_wp2_with fail
          go_meet
          exact ⟨Lib.hid (Below.setCell KZ.out (Nat.le_refl _) _), Lib.hid (obj_other ZN.out (by simp; omega) _), Lib.hid (obj_set ZB.out 4 _)⟩
      case rest =>
      clear KZ ZN ZB q4 f4 c4
      obtain ⟨KZ, ZN, ZB⟩ := hcut
      have c0 := obj_cell ZB.out (k := 0) rfl
      have c1 := obj_cell ZB.out (k := 1) rfl
      have c2 := obj_cell ZB.out (k := 2) rfl
      have c3 := obj_cell ZB.out (k := 3) rfl
      have c4 := obj_cell ZB.out (k := 4) rfl
      have c5 := obj_cell ZB.out (k := 5) rfl
      have RS2 : RSp w s t l lv st (.slice ob 0 cap0) [] k 0 (.slice none 0 0) wc := RS.out.below (by rw [HB.out]; exact KZ.out)
      have HRN := Lib.hid (RS2.app ⟨s % 65536, t, l, lv, st, ob, 0, cap0⟩ ⟨by simp, rfl, rfl, rfl, by simp, fun V _ => by simp [chunkAt]; exact Sl.empty HCM.out HOB.out⟩ (by omega))
      clear RS2 RS KZ ZN
      go_upto_region 17 with (at_builtin; obtain ⟨vN, wN, hr, hN⟩ := HRN.out; have RS := Lib.hid hN; clear hN; refine Lib.wpList_append_run _ rfl (.tmp 65) (.tmp 67) 30 30 rfl _ _ rfl rfl _ _ hr ?_)
      clear hr c0 c1 c2 c3 c4 c5 ZB
      obtain ⟨o7, c7, hv⟩ := RS.out.val
      subst hv
      rcases ob with _ | a
      · have hc0 := HOB.out rfl
        subst hc0
        go_wp2_with fail
        go_roundw
        case measure => simp [lenV]
        case rel => exact .inr ⟨_, _, _, _, rfl, rfl, RS⟩
      · by_cases hc0 : cap0 = 0
        · subst hc0
          go_wp2_with fail
          go_roundw
          case measure => simp [lenV]
          case rel => exact .inr ⟨_, _, _, _, rfl, rfl, RS⟩
        · go_wp2_with fail
          go_roundw
          case measure => simp [lenV]
          case rel => exact .inr ⟨_, _, _, _, rfl, rfl, RS⟩
    · go_wp2_with fail
      go_ret2
      exact RS.out.fits HN1.out (by omega)
theorem rsplit_run (s t l lv : Int) (st : Bool) (oa : Option Addr) (bc : Nat) (bs : List UInt8) (hp : Pl.pkOk s t l lv bs.length) (k : Nat) (hk : 1 ≤ k ∧ k ≤ 1000) (w : World) (hv : Sl encB w (.slice oa bs.length bc) bs) :
    Calls Tryd.prog 14 #[pkV s t l lv st (.slice oa bs.length bc), .int .i64 k] w (RSplitE w.heap.size s t l lv st k bs w) := by
  rcases hv with ⟨rfl, ob, cap, e, h1, h2⟩ | ⟨b, off, cap, e, h1, h2, h3⟩
  · cases e
    exact rsplit_none s t l lv st oa bc hp k hk w h1 h2
  · cases e
    rcases Nat.eq_zero_or_pos bs.length with h0 | h0
    · obtain rfl : bs = [] := List.eq_nil_of_length_eq_zero h0
      exact rsplit_none s t l lv st _ bc hp k hk w h2 (fun e => by cases e)
    · exact rsplit_some s t l lv st b off bc bs hp h0 k hk w (fun V kk i hi => by
        have c := h3 i hi
        rw [kk.cell (p := ⟨b, off + i, none⟩) (Sl.lt (a := ⟨b, off + i, none⟩) c)]
        exact c) h1 h2
set_option maxHeartbeats 1000000 in
theorem rsplit_size (s t l lv : Int) (st : Bool) (oa : Option Addr) (bn bc : Nat) (k : Int) (hk : ¬ (1 ≤ k ∧ k ≤ 1000)) (w : World) :
    Calls Tryd.prog 14 #[pkV s t l lv st (.slice oa bn bc), .int .i64 k] w fun e w' => e = .returned (.tuple #[.slice none 0 0, .int .i64 1]) ∧ Below w.heap.size w w' := by
  have HK := Lib.hid hk
  clear hk
  go_enter Tryd.func14, Tryd.ntmps14
  go_wp2_with fail
  all_goals first
    | (exfalso; have := HK.out; omega)
    | (go_ret2; exact ⟨rfl, (Below.refl _ _).alloc (Nat.le_refl _) _⟩)
    | skip
set_option maxHeartbeats 1000000 in
theorem rsplit_bad (s t l lv : Int) (st : Bool) (oa : Option Addr) (bn bc : Nat) (hbn : bn ≤ maxLen) (f : Int) (hf : Pl.pkFault s t l lv bn = f) (h0 : f ≠ 0) (k : Int) (hk : 1 ≤ k ∧ k ≤ 1000) (w : World) :
    Calls Tryd.prog 14 #[pkV s t l lv st (.slice oa bn bc), .int .i64 k] w fun e w' => e = .returned (.tuple #[.slice none 0 0, .int .i64 f]) ∧ Below w.heap.size w w' := by
  have RP := Lib.hid (fun y => refPk_any s t l lv st oa bn bc hbn y)
  rw [hf] at RP
  have hd : (f != 0) = true := by simp [h0]
  obtain ⟨k1, k2⟩ := hk
  clear hf h0
  go_enter Tryd.func14, Tryd.ntmps14
  go_wp2_with (go_at_call 9; (with_reducible refine (RP.out _).mono ?_); rintro e y2 ⟨rfl, k2'⟩; have K := Lib.hid (((Below.refl _ w).alloc (Nat.le_refl _) _).trans (k2'.mono (by simp))); clear k2')
  go_ret2
  exact ⟨rfl, K.out⟩
end Go.Proofs.YtbjanihblffmoaaDoor
