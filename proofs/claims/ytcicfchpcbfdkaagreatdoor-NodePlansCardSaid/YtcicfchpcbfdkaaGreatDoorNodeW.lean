import Derived.Test.YtcicfchpcbfdkaaGreatDoorNodeF
import Derived.StillTailTactics
/-! node: wants. -/
namespace Go.Proofs.YtcicfchpcbfdkaaGreatDoor
open Go.RowKit
set_option linter.unusedVariables false
set_option linter.unusedSimpArgs false
theorem slaw : Go.Maps.Keyed Tryz.prog 3 := Maps.int_keyed Tryz.underlying3
theorem RangesAt.block {P : Program} {k : TypeId} {w w' : World} {b r c : Nat} {f : Int → Option Value} {left : Int → Bool} {cnt : Nat} (h : RangesAt P k w b r c f left cnt) (hb : w'.heap[b]? = w.heap[b]?) (hr : w'.heap[r]? = w.heap[r]?) : RangesAt P k w' b r c f left cnt := by
  obtain ⟨n, D, lf, ⟨es, clock, since, seen, c0, h1, F, hs, hD, h2, rest⟩, b', c', d⟩ := h
  exact ⟨n, D, lf, ⟨es, clock, since, seen, c0, hb.trans h1, F, hs, hD, hr.trans h2, rest⟩, b', c', d⟩
/-- the subscribers: each is there, behind block b -/
def SubsOk (w : World) (b : Nat) (S : Int → Option Value) : Prop := ∀ i v, S i = some v → ∃ (sb : Nat) (tr most : Int) (ov lv uv gv : Value), v = .pointer (some ⟨sb, 0, none⟩) ∧ SubAt w sb tr most ov lv uv gv ∧ (0 ≤ most ∧ most ≤ 3) ∧ (1 ≤ tr ∧ tr ≤ 8) ∧ b < sb
theorem SubsOk.keep {w w' : World} {b : Nat} {S : Int → Option Value} {Z : Nat → Prop} (h : SubsOk w b S) (k : Keeps Z w w') (hZ : ∀ j, Z j → j ≤ b) : SubsOk w' b S := fun i v hv => by
  obtain ⟨sb, tr, most, ov, lv, uv, gv, e, h1, h2, h3, h4⟩ := h i v hv
  exact ⟨sb, tr, most, ov, lv, uv, gv, e, Keeps.heap k h1 (fun e => by have := hZ _ e; omega), h2, h3, h4⟩
/-- what wants leaves -/
structure WantSt (M : Nat) (w0 : World) (b : Nat) (now id last : Int) (T : Nat → Value) (sm pl : Nat) (lt : Value) (now' th : Int) (mp : Nat → Nat) (told asked : Nat → Int) (K : Nat) (S : Int → Option Value) (w : World) : Prop where
  at_ : NodeAt w b now id last T sm pl lt
  pul : ∃ C F, (∀ j, C j ≤ K) ∧ Pul M w pl now' th mp told asked C F
  keep : FP pl mp w0 w
  subs : SubsOk w b S
theorem WantSt.step {M : Nat} {w0 w w' : World} {b : Nat} {now id last : Int} {T : Nat → Value} {sm pl : Nat} {lt : Value} {now' th : Int} {mp : Nat → Nat} {told asked : Nat → Int} {K K' : Nat} {S : Int → Option Value} (h : WantSt M w0 b now id last T sm pl lt now' th mp told asked K S w) (hb : pl < b ∧ ∀ j, j < 9 → mp j < b) {C : Nat → Nat} {F : Nat → Int → Option Int} (hC : ∀ j, C j ≤ K') (hP : Pul M w' pl now' th mp told asked C F) (k : FP pl mp w w') : WantSt M w0 b now id last T sm pl lt now' th mp told asked K' S w' :=
  ⟨Keeps.heap k h.at_ (fun e => by rcases e with e | ⟨j, hj, e⟩; omega; have := hb.2 j hj; omega), ⟨C, F, hC, hP⟩, Keeps.trans h.keep k, h.subs.keep k (fun j e => by rcases e with e | ⟨i, hi, e⟩; omega; have := hb.2 i hi; omega)⟩
theorem keeps_fresh {Z : Nat → Prop} {w0 w w' : World} {r : Nat} (h : Keeps Z w0 w) (k : Keeps (fun j => j = r) w w') (hr : w0.heap.size ≤ r) : Keeps Z w0 w' :=
  ⟨k.os.trans h.os, k.tape.trans h.tape, k.output.trans h.output, Nat.le_trans h.size k.size, fun j hj hz => (k.block j (Nat.lt_of_lt_of_le hj h.size) (fun e => by omega)).trans (h.block j hj hz)⟩
theorem WantSt.iter {M : Nat} {w0 w w' : World} {b : Nat} {now id last : Int} {T : Nat → Value} {sm pl : Nat} {lt : Value} {now' th : Int} {mp : Nat → Nat} {told asked : Nat → Int} {K r : Nat} {S : Int → Option Value} (h : WantSt M w0 b now id last T sm pl lt now' th mp told asked K S w) (hr0 : w0.heap.size ≤ r) (hr1 : ∀ cs T fz, w.heap[r]? ≠ some (.cells cs T fz)) (hr2 : ∀ es c, w.heap[r]? ≠ some (.map es c)) (k : Keeps (fun j => j = r) w w') : WantSt M w0 b now id last T sm pl lt now' th mp told asked K S w' := by
  have ne : ∀ {j : Nat} {cs : Array Value} {U : TypeId} {fz : Nat × Nat}, w.heap[j]? = some (.cells cs U fz) → j ≠ r := fun {j cs U fz} e e2 => by subst e2; exact hr1 _ _ _ e
  obtain ⟨C, F, hC, hP⟩ := h.pul
  refine ⟨Keeps.heap k h.at_ (ne h.at_), ⟨C, F, hC, ⟨Keeps.heap k hP.at_ (ne hP.at_), fun j hj => (hP.map j hj).block (k.block _ (hP.map j hj).lt (fun e => ?_)), hP.ne, hP.inj, hP.low⟩⟩, keeps_fresh h.keep k hr0, fun i v hv => ?_⟩
  · obtain ⟨D, ⟨es, clock, hb, _⟩, _⟩ := hP.map j hj
    rw [e] at hb
    exact hr2 _ _ hb
  · obtain ⟨sb, tr, most, ov, lv, uv, gv, e, h1, h2, h3, h4⟩ := h.subs i v hv
    exact ⟨sb, tr, most, ov, lv, uv, gv, e, Keeps.heap k h1 (ne h1), h2, h3, h4⟩
theorem WantSt.mono {M : Nat} {w0 w : World} {b : Nat} {now id last : Int} {T : Nat → Value} {sm pl : Nat} {lt : Value} {now' th : Int} {mp : Nat → Nat} {told asked : Nat → Int} {K K' : Nat} {S : Int → Option Value} (h : WantSt M w0 b now id last T sm pl lt now' th mp told asked K S w) (hK : K ≤ K') : WantSt M w0 b now id last T sm pl lt now' th mp told asked K' S w := by
  obtain ⟨C, F, hC, hP⟩ := h.pul
  exact ⟨h.at_, ⟨C, F, fun j => Nat.le_trans (hC j) hK, hP⟩, h.keep, h.subs⟩
theorem WantSt.below {M : Nat} {w0 w w' : World} {b : Nat} {now id last : Int} {T : Nat → Value} {sm pl : Nat} {lt : Value} {now' th : Int} {mp : Nat → Nat} {told asked : Nat → Int} {K : Nat} {S : Int → Option Value} (h : WantSt M w0 b now id last T sm pl lt now' th mp told asked K S w) (k : Below w.heap.size w w') : WantSt M w0 b now id last T sm pl lt now' th mp told asked K S w' := by
  obtain ⟨C, F, hC, hP⟩ := h.pul
  refine ⟨Below.heapAt k h.at_ (lt_of_block h.at_), ⟨C, F, hC, hP.below k⟩, Keeps.trans h.keep (Below.toKeeps k (Nat.le_refl _)), fun i v hv => ?_⟩
  obtain ⟨sb, tr, most, ov, lv, uv, gv, e, h1, h2, h3, h4⟩ := h.subs i v hv
  exact ⟨sb, tr, most, ov, lv, uv, gv, e, Below.heapAt k h1 (lt_of_block h1), h2, h3, h4⟩
set_option maxRecDepth 100000 in
set_option maxHeartbeats 2000000 in
theorem nodeWants_any (M b : Nat) (now id last : Int) (T : Nat → Value) (sm pl : Nat) (lt : Value) (now' th : Int) (mp : Nat → Nat) (told asked : Nat → Int) (C : Nat → Nat) (F : Nat → Int → Option Int) (c : Nat) (S : Int → Option Value) (hC : ∀ j, C j ≤ 1000) (hc : c ≤ 1000) (hs : pl < sm ∧ sm < b ∧ ∀ j, j < 9 → mp j < sm) (w : World) (h : NodeAt w b now id last T sm pl lt) (hp : Pul M w pl now' th mp told asked C F) (hm : MapAt Tryz.prog 3 w sm c S) (hS : SubsOk w b S) :
    Calls Tryz.prog 38 #[.pointer (some ⟨b, 0, none⟩)] w fun e w' => e = .returned (.tuple #[]) ∧ WantSt M w b now id last T sm pl lt now' th mp told asked (1000 + c) S w' := by
  have W0 := Lib.hid (show WantSt M w b now id last T sm pl lt now' th mp told asked 1000 S w from ⟨h, ⟨C, F, hC, hp⟩, Keeps.refl _ _, hS⟩)
  have HM := Lib.hid hm
  have HB := Lib.hid (show pl < b ∧ ∀ j, j < 9 → mp j < b from ⟨by omega, fun j hj => by have := hs.2.2 j hj; omega⟩)
  have HS := Lib.hid hs
  clear h hp hm hS hC hs
  go_enter Tryz.func38, Tryz.ntmps38
  go_upto_block 0 with fail
  go_cut [2] from 5 to 14 (fun _ z => Hid (WantSt M w b now id last T sm pl lt now' th mp told asked 1000 S z))
  case first =>
    go_upto_region 1 with fail
    go_loopw [2] (fun s2 z => ∃ k : Nat, 1 ≤ k ∧ k ≤ 9 ∧ s2 = .int .i64 k ∧ Hid (WantSt M w b now id last T sm pl lt now' th mp told asked 1000 S z)) (fun s2 _ => 10 - (RowKit.intOf s2).toNat)
    case atStart => exact ⟨1, by omega, by omega, rfl, W0⟩
    case round =>
      as_aux_lemma =>
      clear W0
      obtain ⟨k, hk1, hk9, rfl, WS⟩ := hrel
      by_cases hk : k ≤ 8
      · have e1 : (k : Int) ≤ 8 := by omega
        obtain ⟨C1, F1, hC1, hP1⟩ := WS.out.pul
        obtain ⟨-, -, -, -, c13, -⟩ := WS.out.at_.cells
        have hr : Pl.rightOk 0 (k : Int) := by unfold Pl.rightOk; omega
        have D := Lib.hid (show Calls Tryz.prog 69 #[.pointer (some ⟨pl, 0, none⟩), .int .i64 0, .int .i64 (k : Int)] wr fun e w' => (∃ v, e = .returned v) ∧ WantSt M w b now id last T sm pl lt now' th mp told asked 1000 S w' from by
          cases hF : F1 k 0 with
          | none => exact (pullDrop_none M pl now' th mp told asked C1 F1 0 k hr hF wr hP1).mono fun e w' ⟨a, b⟩ => ⟨⟨_, a⟩, by subst b; exact WS.out⟩
          | some lay => exact (pullDrop_ok M pl now' th mp told asked C1 F1 0 k hr lay hF wr hP1).mono fun e w' ⟨a, b, c⟩ => ⟨⟨_, a⟩, WS.out.step HB.out (fun j => by unfold dropC; split; have := hC1 k; omega; exact hC1 j) b c⟩)
        clear hC1 hP1 hr
        go_wp2_with (go_at_call 69; (with_reducible refine D.out.mono ?_); rintro e z2 ⟨⟨v14, rfl⟩, h1⟩; have W1 := Lib.hid h1; clear h1)
        go_roundw
        case measure => simp only [RowKit.intOf]; omega
        case rel => exact ⟨k + 1, by omega, by omega, by simp, W1⟩
      · have e1 : ¬ (k : Int) ≤ 8 := by omega
        clear hk
        go_wp2_with fail
        go_meet
        exact WS
  case rest =>
  clear W0
  have WS := hcut
  clear hcut
  obtain ⟨-, -, -, c12, -, -⟩ := WS.out.at_.cells
  have hm := HM.out.block (WS.out.keep.block sm HM.out.lt (by have := HS.out; rintro (e | ⟨j, hj, e⟩); omega; have := this.2.2 j hj; omega))
  go_upto_region 5 with (at_range; refine wpList_mrange _ rfl _ 66 rfl 3 84 slaw Tryz.underlying66 sm c _ rfl hm ?_; intro w0 hrg0 hg0 hs0)
  have K0 : Below wc.heap.size wc w0 := ⟨hg0.os, hg0.tape, hg0.output, hg0.size, fun k hk => hg0.block k (by omega) (by simp)⟩
  obtain ⟨r, hr⟩ : ∃ r, wc.heap.size = r := ⟨_, rfl⟩
  rw [hr] at hrg0 ⊢
  have W1 := Lib.hid ((WS.out.below K0).mono (K' := 1000 + (c - c)) (by omega))
  have HR := Lib.hid (show w.heap.size ≤ r ∧ sm < r ∧ b < r from by
    have h1 := WS.out.keep.size
    have h2 := lt_of_block WS.out.at_
    have := HS.out
    omega)
  clear hm hg0 hs0 K0 hr WS c12 HM
  go_frame
  go_loopw [4] (fun _ z => ∃ (left : Int → Bool) (cnt : Nat), cnt ≤ c ∧ RangesAt Tryz.prog 3 z sm r c S left cnt ∧ Hid (WantSt M w b now id last T sm pl lt now' th mp told asked (1000 + (c - cnt)) S z)) (fun _ z => z.rangeLeft sm r)
  case atStart => exact ⟨_, _, Nat.le_refl _, hrg0, W1⟩
  case round =>
    as_aux_lemma =>
    clear hrg0 W1
    obtain ⟨left, cnt, hcc, hrg, WS⟩ := hrel
    have HLE := Lib.hid hrg.left_eq
    go_upto_region 6 with (at_next; refine wpList_mnext _ rfl _ rfl 3 slaw Tryz.underlying3 sm r c _ left cnt rfl hrg ?_ ?_)
    · intro h0 hl0
      clear hrg
      go_wp2
      go_end0
      exact ⟨rfl, WS.out.mono (by omega)⟩
    · intro x v w1 cnt1 hw hlx hfx hrg1 hlt hg1 hs1 hen
      have KP : Keeps (fun k => k = r) wr w1 := ⟨hg1.os, hg1.tape, hg1.output, hg1.size, fun k hk hne => hg1.block k hk (fun e => hne (Option.some.inj e))⟩
      have hiter : ∃ a b' c' d, wr.heap[r]? = some (.mapIter a b' c' d) := by
        obtain ⟨n, D, lf, ⟨es, clock, since, seen, c0, h1, F, hs, hD, h2, rest⟩, _⟩ := hrg
        exact ⟨_, _, _, _, h2⟩
      obtain ⟨ia, ib, ic, idd, hit⟩ := hiter
      have W1 := Lib.hid (WS.out.iter HR.out.1 (fun cs T fz e => by rw [hit] at e; cases e) (fun es cc e => by rw [hit] at e; cases e) KP)
      obtain ⟨sb, tr, most, ov, lv, uv, gv, rfl, hsb, hmo, htr, hbs⟩ := W1.out.subs x v hfx
      have HRG := Lib.hid hrg1
      have HL1 := Lib.hid hrg1.left_eq
      clear hrg hrg1 hg1 hs1 hit KP WS hw hlx hfx
      obtain ⟨-, -, -, -, c13, -⟩ := W1.out.at_.cells
      have s0 := obj_cell hsb (k := 0) rfl
      have s1 := obj_cell hsb (k := 1) rfl
      have HMT := Lib.hid (And.intro hmo htr)
      clear hsb hbs hmo htr
      go_upto_region 7 with fail
      go_still_tail 12, (by kernel_rfl)
      change wpList _ _ _ _ _ w1.drew
      have HRG2 := Lib.hid (show RangesAt Tryz.prog 3 w1.drew sm r c S _ cnt1 from HRG.out.block rfl rfl)
      have W2 := Lib.hid (show WantSt M w b now id last T sm pl lt now' th mp told asked (1000 + (c - cnt)) S w1.drew from W1.out.below (Below.drewN (Below.refl _ _) 1))
      clear c13 s0 s1 hen HRG W1
      generalize w1.drew = y at *
      obtain ⟨C1, F1, hC1, hP1⟩ := W2.out.pul
      obtain ⟨k, rfl⟩ : ∃ k : Nat, tr = k := ⟨tr.toNat, by have := HMT.out; omega⟩
      have hr : Pl.rightOk 0 (k : Int) := by have := HMT.out; unfold Pl.rightOk; omega
      have WK := Lib.hid (pullWant_ok M pl now' th mp told asked C1 F1 0 k most hr HMT.out.1 (by have := hC1 k; omega) y hP1)
      have HC1 := Lib.hid hC1
      clear hC1 hP1 hr
      go_wp2_with (go_at_call 70; (with_reducible refine WK.out.mono ?_); rintro e y2 ⟨rfl, PA, kA⟩; have R3 := Lib.hid (HRG2.out.block (kA.block sm HRG2.out.map.lt (by have := HS.out; rintro (e | ⟨j, hj, e⟩); omega; have := this.2.2 j hj; omega)) (kA.block r HRG2.out.lt (by have := HS.out; have := HR.out; rintro (e | ⟨j, hj, e⟩); omega; have := HS.out.2.2 j hj; omega))); have W3 := Lib.hid (W2.out.step (K' := 1000 + (c - cnt1)) HB.out (fun j => by have := HC1.out j; have := HC1.out k; unfold wantC; split; split; omega; omega; omega) PA kA); clear PA kA)
      go_roundw
      case measure => rw [HLE.out, R3.out.left_eq]; omega
      case rel => exact ⟨_, cnt1, by omega, R3.out, W3⟩
end Go.Proofs.YtcicfchpcbfdkaaGreatDoor
